/- append to rows of one's own does what the abstract one says, within the room that is asked for. -/
import Derived.Test.YtmcgkokjcimckaaYMem
set_option linter.all false
namespace Go.X
open Go
set_option linter.unusedSimpArgs false
set_option linter.unusedVariables false

theorem forget_ne {j i n : Nat} (h : forget j i = some n) : n = i ∧ i ≠ j := by
  unfold forget at h
  split at h
  · cases h
  · rename_i hb; cases h; exact ⟨rfl, fun e => by subst e; rw [nbeq_self] at hb; cases hb⟩

theorem Own.rebind {w0 : World} {M : Nat → Prop} {c : Cx} (h : Own w0 M c) {w' : World} {j : Nat} {ob : Option Nat} {bl' : Blk} (hj : j < c.B.length)
    (hos : w'.os = c.w.os) (htp : w'.tape = c.w.tape) (hout : w'.output = c.w.output) (hsz : c.w.heap.size ≤ w'.heap.size)
    (hheap : ∀ b, b < c.w.heap.size → c.φ[j]? ≠ some (some b) → w'.heap[b]? = c.w.heap[b]?)
    (hob : ∀ b, ob = some b → (M b ∨ w0.heap.size ≤ b) ∧ b < w'.heap.size ∧ ¬ c.I b ∧ ∀ i, i ≠ j → c.φ[i]? ≠ some (some b)) :
    let c' : Cx := ⟨w', c.I, c.φ.set j ob, (c.B.map fun b => b.rn (forget j)).set j bl'⟩
    ImmUp c c' ∧ (∀ i, i ≠ j → At c c' i i) ∧ (BRel c' j bl' → Own w0 M c') := by
  intro c'
  have hjφ : j < c.φ.length := by rw [h.len]; exact hj
  have hi : ImmUp c c' := ⟨fun _ h => h, fun b hb => hheap b (h.imm b hb) (fun e => (h.new j b e).2.2 hb), fun _ h => .inl h, hsz⟩
  have hφi : ∀ i, i ≠ j → c'.φ[i]? = c.φ[i]? := fun i hij => List.getElem?_set_ne (Ne.symm hij)
  have hBi : ∀ i, i ≠ j → c'.B[i]? = (c.B[i]?).map (fun b => b.rn (forget j)) := fun i hij => by
    rw [show c'.B[i]? = ((c.B.map fun b => b.rn (forget j)).set j bl')[i]? from rfl, List.getElem?_set_ne (Ne.symm hij), List.getElem?_map]
  have hother : ∀ i b, i ≠ j → c.φ[i]? = some (some b) → w'.heap[b]? = c.w.heap[b]? := fun i b hij hb => hheap b (h.new i b hb).2.1 (fun e => hij (h.inj _ _ _ hb e))
  have ha : ∀ i, i ≠ j → At c c' i i := fun i hij => ⟨fun x hx => by rw [hφi i hij]; exact hx,
    fun t d rs hr => ⟨rs, by rw [hBi i hij, hr]; rfl, rfl⟩,
    fun cs hc => ⟨cs.map (AC.rn (forget j)), by rw [hBi i hij, hc]; rfl, by simp⟩,
    fun d m hm => ⟨m, by rw [hBi i hij, hm]; rfl⟩,
    fun b t k hb ⟨cu, h1, h2⟩ => ⟨cu, by rw [hother i b hij hb]; exact h1, h2⟩⟩
  have hg : ∀ i n, forget j i = some n → At c c' i n := fun i n hn => by
    obtain ⟨rfl, hne⟩ := forget_ne hn
    exact ha _ hne
  refine ⟨hi, ha, fun hbr => ⟨by simp [c', h.len], fun i b hb => ?_, fun i k b hb hk => ?_, fun b hb => Nat.lt_of_lt_of_le (h.imm b hb) hsz, fun i x hx => ?_, hos.trans h.os, htp.trans h.tape, hout.trans h.output, Nat.le_trans h.size hsz, fun b hb hM => ?_⟩⟩
  · by_cases hij : i = j
    · subst hij
      have : ob = some b := by
        have h2 : c'.φ[i]? = some ob := by simp [c', hjφ]
        rw [h2] at hb; cases hb; rfl
      obtain ⟨h1, h2, h3, _⟩ := hob b this
      exact ⟨h1, h2, h3⟩
    · rw [hφi i hij] at hb
      obtain ⟨h1, h2, h3⟩ := h.new i b hb
      exact ⟨h1, Nat.lt_of_lt_of_le h2 hsz, h3⟩
  · have hjob : c'.φ[j]? = some ob := by simp [c', hjφ]
    by_cases hij : i = j <;> by_cases hkj : k = j
    · omega
    · subst hij
      rw [hjob] at hb; cases hb
      rw [hφi k hkj] at hk
      exact absurd hk ((hob b rfl).2.2.2 k hkj)
    · subst hkj
      rw [hjob] at hk; cases hk
      rw [hφi i hij] at hb
      exact absurd hb ((hob b rfl).2.2.2 i hij)
    · rw [hφi i hij] at hb
      rw [hφi k hkj] at hk
      exact h.inj _ _ _ hb hk
  · by_cases hij : i = j
    · subst hij
      have h2 : c'.B[i]? = some bl' := by simp [c', hj]
      rw [h2] at hx; cases hx
      exact hbr
    · rw [hBi i hij] at hx
      cases hq : c.B[i]? with
      | none => rw [hq] at hx; cases hx
      | some q =>
        rw [hq] at hx
        cases hx
        have hb := h.blk i q hq
        cases hb with
        | box h1 h2 h3 h4 =>
          refine .box (by rw [hφi i hij]; exact h1) ((hother i _ hij h1).trans h2) (by simpa using h3) (fun m x hx => ?_)
          rw [List.getElem?_map] at hx
          cases hq2 : (_ : List AC)[m]? with
          | none => rw [hq2] at hx; cases hx
          | some q2 => rw [hq2] at hx; cases hx; exact (h4 m q2 hq2).rn hi hg
        | rows h1 h2 h3 h4 h5 h8 =>
          refine .rows (by rw [hφi i hij]; exact h1) ((hother i _ hij h1).trans h2) h3 h4 h5 (fun m o x hx hy => ?_)
          have := (h8 m o x hx hy).rn hi hg
          rwa [plain_rn (enc_mem hy)] at this
        | none h1 => exact .none (by rw [hφi i hij]; exact h1)
        | map h1 h2 h3 h4 =>
          refine .map (by rw [hφi i hij]; exact h1) ((hother i _ hij h1).trans h2) h3 (fun i k v hm => ?_)
          obtain ⟨e, z, g1, g2, g3, g4⟩ := h4 i k v hm
          have := g4.rn hi hg
          rw [plain_rn (enc_mem (o := 0) (by rw [g3]; rfl))] at this
          exact ⟨e, z, g1, g2, g3, this⟩
        | dead => exact .dead
  · rw [← h.keep b hb hM]
    refine hheap b (Nat.lt_of_lt_of_le hb h.size) (fun e => ?_)
    rcases (h.new j b e).1 with h1 | h1
    · exact hM h1
    · omega

section
variable {P : Program}

/-- What is appended: so many elements, of these cells. -/
structure Src (P : Program) (w : World) (size : Nat) (x : Value) (m : Nat) (news : List Value) : Prop where
  len : ∀ w' : World, w'.heap = w.heap → (Builtin.lenOf x).run P w' = .ok m w'
  first : ∀ w' : World, w'.heap = w.heap → (Builtin.firstCells size m x).run P w' = .ok news.toArray w'
  size : news.length = m * size
  one : ∀ v ∈ news, v.oneCell' = true

theorem run_app_room {w : World} {t u ty e : TypeId} {i : TypeInfo} (ht : P.underlying t = some (.slice e)) (hu : ∃ d, P.underlying u = some d ∧ ∀ k, d ≠ .int k) (hi : P.info? e = some i)
    {g sLen sCap m : Nat} {cur : Array Value} (hg : w.heap[g]? = some (.cells cur e (0, 0))) {x : Value} {news : List Value} (hs : Src P w i.size x m news)
    (hroom : sLen + m ≤ sCap) (hfit : sLen * i.size + news.length ≤ cur.size) :
    (Builtin.append_ #[t, u] ty #[.slice (some ⟨g, 0, none⟩) sLen sCap, x]).run P w =
      .ok (.slice (some ⟨g, 0, none⟩) (sLen + m) sCap) (w.setRow g (cur.toList.take (sLen * i.size) ++ news ++ cur.toList.drop (sLen * i.size + news.length)).toArray) := by
  obtain ⟨d, hud, hnk⟩ := hu
  have hst := run_storeCells_at P g (sLen * i.size) e news 0 cur w hg (by simpa using hfit) hs.one
  simp only [Nat.add_zero] at hst
  have hl := hs.len w rfl
  have hf := hs.first w rfl
  have hm : (match d with | TypeDesc.int k => true | x => false) = false := by cases d <;> first | rfl | exact absurd rfl (hnk _)
  simp [Builtin.append_, run_underlying ht, run_underlying hud, sizeOf, typeInfo, hi, hl, hroom, hf, Addr.add_lit, hst, hm]

theorem run_app_grow {w : World} {t u ty e : TypeId} {i : TypeInfo} {z : Value} (ht : P.underlying t = some (.slice e)) (hu : ∃ d, P.underlying u = some d ∧ ∀ k, d ≠ .int k) (hi : P.info? e = some i) (hz : i.zero = some z)
    {base : Option Addr} {sLen sCap m : Nat} {olds : List Value} (hold : ∀ w' : World, w'.heap = w.heap → (Builtin.firstCells i.size sLen (.slice base sLen sCap)).run P w' = .ok olds.toArray w')
    {x : Value} {news : List Value} (hs : Src P w i.size x m news) (hroom : ¬ sLen + m ≤ sCap) (h63 : sLen + m ≤ 9223372036854775807) (hfit : Builtin.nextslicecap (sLen + m) sCap * i.bytes ≤ 281474976710656) :
    (Builtin.append_ #[t, u] ty #[.slice base sLen sCap, x]).run P w =
      .ok (.slice (some ⟨w.heap.size, 0, none⟩) (sLen + m) (grownCap w (sLen + m) sCap e)) (w.drew.alloc (.cells ((olds ++ news).toArray ++ Builtin.zeroCells z.cells (grownCap w (sLen + m) sCap e - (sLen + m))) e)) := by
  obtain ⟨d, hud, hnk⟩ := hu
  have hl := hs.len w rfl
  have hf := hs.first w.drew rfl
  have ho := hold w.drew rfl
  have n1 : ¬ (9223372036854775807 < ((sLen : Int) + (m : Int))) := by omega
  have n2 : ¬ (281474976710656 < Builtin.nextslicecap (sLen + m) sCap * i.bytes) := by omega
  have hm : (match d with | TypeDesc.int k => true | x => false) = false := by cases d <;> first | rfl | exact absurd rfl (hnk _)
  simp [Builtin.append_, run_underlying ht, run_underlying hud, sizeOf, typeInfo, hi, hl, hroom, hf, ho, n1, n2, Question.forced, zeroValue, hz, newRow, grownCap, hm]
  congr 2
  apply Array.ext'
  simp

/-- The rows rs, as the values of their cells. -/
def Shows (c : Cx) (d : Cd) (rs : List (den d)) (news : List Value) : Prop :=
  news.length = rs.length * size d ∧ ∀ (i o : Nat) (z : AC), i < rs.length → (enc d (elem d rs i))[o]? = some z → CRel c z (news.getD (i * size d + o) undef)

theorem cell_drew {w w' : World} (h : w'.heap = w.heap) (a : Addr) : w'.cell? a = w.cell? a := by simp [World.cell?, h]

theorem castL_ok {d e : Cd} {l : List (den d)} {m : List (den e)} (h : castL d l e = some m) : ∃ h : d = e, h ▸ l = m := by
  unfold castL at h
  split at h
  · rename_i he; exact ⟨he, Option.some.inj h⟩
  · cases h

theorem src_rows {w0 : World} {M : Nat → Prop} {c : Cx} (hO : Own w0 M c) {d : Cd} {x : AC} {v : Value} {rs : List (den d)} (hv : CRel c x v) (hr : rowsV c.B x = some ⟨d, rs⟩) :
    ∃ news, Src P c.w (size d) v rs.length news ∧ Shows c d rs news := by
  obtain ⟨ad, n, cap, rfl, rfl, hnc, hcm, hcells⟩ := rowsV_rel hO hv hr
  by_cases hne : rs = []
  · subst hne
    refine ⟨[], ⟨fun w' _ => by simp [Builtin.lenOf], fun w' _ => ?_, by simp, fun v hv => by cases hv⟩, ⟨by simp, fun i o z hx _ => by simp at hx⟩⟩
    cases ad <;> simp [Builtin.firstCells, loadCells, loadCellsFrom]
  · obtain ⟨b, off, rfl, hc⟩ := hcells hne
    let f : Nat → Value := fun k => (c.w.cell? ⟨b, off + k, none⟩).getD undef
    have hcell : ∀ (k : Nat), k < rs.length * size d → ∃ u, c.w.cell? ⟨b, off + k, none⟩ = some u ∧ u.oneCell' = true := by
      intro k hk
      have hpos : 0 < size d := size_pos d
      have hi : k / size d < rs.length := (Nat.div_lt_iff_lt_mul hpos).2 hk
      have ho : k % size d < size d := Nat.mod_lt _ hpos
      obtain ⟨z, hz⟩ := enc_some (d := d) (x := elem d rs (k / size d)) ho
      obtain ⟨u, h1, h2⟩ := hc _ _ _ hi hz
      rw [Nat.mul_comm, Nat.div_add_mod] at h1
      exact ⟨u, h1, h2.oneCell⟩
    refine ⟨(List.range (rs.length * size d)).map f, ⟨fun w' _ => by simp [Builtin.lenOf], fun w' hw' => ?_, by simp, ?_⟩, ⟨by simp, ?_⟩⟩
    · have := run_loadCells (P := P) w' ⟨b, off, none⟩ (rs.length * size d) f (fun j hj => by
        rw [Addr.add_lit, cell_drew hw']
        obtain ⟨u, h1, _⟩ := hcell j hj
        simp [f, h1])
      simp only [Builtin.firstCells]
      exact this
    · intro v hv
      simp only [List.mem_map, List.mem_range] at hv
      obtain ⟨k, hk, rfl⟩ := hv
      obtain ⟨u, h1, h2⟩ := hcell k hk
      simp [f, h1, h2]
    · intro i o z hi hy
      obtain ⟨u, h1, h2⟩ := hc _ _ _ hi hy
      have ho := enc_lt hy
      have h9 : (i + 1) * size d ≤ rs.length * size d := Nat.mul_le_mul_right _ hi
      rw [Nat.add_mul] at h9
      rw [List.getD_eq_getElem?_getD, List.getElem?_map, List.getElem?_range (by omega)]
      simp only [Option.map_some, Option.getD_some, f, h1]
      exact h2

theorem src_ok {w0 : World} {M : Nat → Prop} {c : Cx} (hO : Own w0 M c) {d : Cd} {x : AV} {v : Value} {rs : List (den d)} (hv : VRel c x v) (h : srcRows d c.B x = some rs) :
    ∃ news, Src P c.w (size d) v rs.length news ∧ Shows c d rs news := by
  unfold srcRows at h
  split at h
  · rename_i s
    obtain ⟨hd, h⟩ := castL_ok h
    subst hd
    simp only at h
    subst h
    obtain ⟨q, rfl, rfl, hq, hs⟩ := str_of hv
    have hex : q.extract 0 q.size = q := ByteArray.extract_zero_size
    refine ⟨q.data.toList.map fun b => .int .u8 b.toNat, ⟨fun w' _ => by simp only [Builtin.lenOf, Sem.run_pure]; rw [hq], fun w' _ => ?_, by simp [show size .byte = 1 from rfl], ?_⟩, ⟨by simp [show size .byte = 1 from rfl], ?_⟩⟩
    · rw [← hq]
      simp only [Builtin.firstCells, hex, Sem.run_pure]
      congr 1
      apply Array.ext'
      simp
    · intro v hv
      simp only [List.mem_map] at hv
      obtain ⟨b, _, rfl⟩ := hv
      rfl
    · intro i o z hx hy
      cases o with
      | zero =>
        cases hy
        have e1 : size .byte = 1 := rfl
        rw [e1, Nat.mul_one, Nat.add_zero, List.getD_eq_getElem?_getD, List.getElem?_map, elem_some (d := .byte) (l := q.data.toList) hx]
        exact .int (bytes_wf _)
      | succ o => simp [enc] at hy
  · rename_i z hz
    split at h
    · rename_i d' rs' hr
      obtain ⟨hd, h⟩ := castL_ok h
      subst hd
      simp only at h
      subst h
      cases hv with
      | one hv => exact src_rows hO hv hr
    · cases h
  · cases h

theorem bytes_of_info {e : TypeId} {i : TypeInfo} (hi : P.info? e = some i) : P.bytesOf e = i.bytes ∧ P.cellsOf e = i.size := by
  simp [Program.bytesOf, Program.cellsOf, hi]

theorem elem_left {d : Cd} {a b : List (den d)} {i : Nat} (h : i < a.length) : elem d (a ++ b) i = elem d a i := by
  simp [elem, List.getD_eq_getElem?_getD, List.getElem?_append_left h]
theorem elem_right {d : Cd} {a b : List (den d)} {i : Nat} (h : a.length ≤ i) : elem d (a ++ b) i = elem d b (i - a.length) := by
  simp [elem, List.getD_eq_getElem?_getD, List.getElem?_append_right h]

/-- Rows that show cells, one behind the other. -/
theorem shows_append {c : Cx} {d : Cd} {r0 rs : List (den d)} {olds news rest : List Value} {i o : Nat} {z : AC} (h0 : Shows c d r0 olds) (h1 : Shows c d rs news)
    (hx : i < (r0 ++ rs).length) (hy : (enc d (elem d (r0 ++ rs) i))[o]? = some z) : CRel c z ((olds ++ news ++ rest).getD (i * size d + o) undef) := by
  have ho := enc_lt hy
  by_cases hi : i < r0.length
  · rw [elem_left hi] at hy
    have h9 : (i + 1) * size d ≤ r0.length * size d := Nat.mul_le_mul_right _ hi
    rw [Nat.add_mul] at h9
    have := h0.2 _ _ _ hi hy
    rw [List.getD_eq_getElem?_getD] at this ⊢
    rw [List.append_assoc, List.getElem?_append_left (by rw [h0.1]; omega)]
    exact this
  · rw [elem_right (by omega)] at hy
    have hi2 : i - r0.length < rs.length := by simp at hx; omega
    have h9 : (i - r0.length + 1) * size d ≤ rs.length * size d := Nat.mul_le_mul_right _ hi2
    rw [Nat.add_mul] at h9
    have h10 : i * size d = r0.length * size d + (i - r0.length) * size d := by rw [← Nat.add_mul]; congr 1; omega
    have := h1.2 _ _ _ hi2 hy
    rw [List.getD_eq_getElem?_getD] at this ⊢
    rw [List.getElem?_append_left (by rw [List.length_append, h0.1, h1.1]; omega), List.getElem?_append_right (by rw [h0.1]; omega), h0.1, show i * size d + o - r0.length * size d = (i - r0.length) * size d + o by omega]
    exact this

theorem Shows.move {c c' : Cx} {d : Cd} {rs : List (den d)} {news : List Value} (h : Shows c d rs news) {g : Nat → Option Nat} (hi : ImmUp c c') (hg : ∀ j n, g j = some n → At c c' j n) : Shows c' d rs news :=
  ⟨h.1, fun i o z hx hy => by
    have := (h.2 i o z hx hy).rn hi hg
    rwa [plain_rn (enc_mem hy)] at this⟩

/-- append to rows of one's own. -/
theorem app_core {w0 : World} {M : Nat → Prop} {c : Cx} (hO : Own w0 M c) {j : Nat} {d : Cd} {e t u ty : TypeId} {r0 rs : List (den d)} {s x : Value} {news : List Value}
    (hB : c.B[j]? = some (.rows e d r0)) (hs : CRel c (.own j) s) (hcs : P.cellsOf e = size d) (ht : P.underlying t = some (.slice e)) (hu : ∃ d, P.underlying u = some d ∧ ∀ k, d ≠ .int k)
    (hz : ∃ z i, P.info? e = some i ∧ i.zero = some z ∧ z.cells.size = size d) (hsrc : Src P c.w (size d) x rs.length news) (hsh : Shows c d rs news)
    (hroom : (r0.length + rs.length) * P.bytesOf e ≤ maxRows) (hlen : r0.length + rs.length ≤ maxLen) :
    ∃ w' ob v', (Builtin.append_ #[t, u] ty #[s, x]).run P c.w = .ok v' w' ∧
      (let c' : Cx := ⟨w', c.I, c.φ.set j ob, (c.B.map fun b => b.rn (forget j)).set j (.rows e d (r0 ++ rs))⟩
       ImmUp c c' ∧ (∀ i, i ≠ j → At c c' i i) ∧ Own w0 M c' ∧ CRel c' (.own j) v') := by
  obtain ⟨z, i, hi, hiz, hzs⟩ := hz
  obtain ⟨hby, hsz⟩ := bytes_of_info hi
  rw [hcs] at hsz
  have hjl : j < c.B.length := (List.getElem?_eq_some_iff.1 hB).1
  have hjφ : j < c.φ.length := by rw [hO.len]; exact hjl
  have hml : maxLen = 9223372036854775807 := rfl
  rw [hsz] at hsrc
  have hfits : ∀ old, old < r0.length + rs.length → Builtin.nextslicecap (r0.length + rs.length) old * i.bytes ≤ 281474976710656 := fun old ho => growslice_fits ho (by rw [← hby]; unfold maxRows at hroom; omega)
  -- a new row
  have grow : ∀ (base : Option Addr) (old : Nat) (olds : List Value), old < r0.length + rs.length → s = .slice base r0.length old → Shows c d r0 olds →
      (∀ w' : World, w'.heap = c.w.heap → (Builtin.firstCells i.size r0.length s).run P w' = .ok olds.toArray w') →
      ∃ w' ob v', (Builtin.append_ #[t, u] ty #[s, x]).run P c.w = .ok v' w' ∧
      (let c' : Cx := ⟨w', c.I, c.φ.set j ob, (c.B.map fun b => b.rn (forget j)).set j (.rows e d (r0 ++ rs))⟩
       ImmUp c c' ∧ (∀ i, i ≠ j → At c c' i i) ∧ Own w0 M c' ∧ CRel c' (.own j) v') := by
    intro base old olds ho hse h0 hf
    subst hse
    have hrun := run_app_grow (P := P) (w := c.w) (ty := ty) ht hu hi hiz (base := base) (sLen := r0.length) (sCap := old) hf hsrc (by omega) (by omega) (hfits old ho)
    have hge := grownCap_ge c.w (r0.length + rs.length) old e
    have hcm := grownCap_le_maxLen c.w (r0.length + rs.length) old e hlen
    let k := grownCap c.w (r0.length + rs.length) old e
    let cur : Array Value := (olds ++ news).toArray ++ Builtin.zeroCells z.cells (k - (r0.length + rs.length))
    let w' := c.w.drew.alloc (.cells cur e)
    have hcur : cur.size = k * size d := by
      simp only [cur, Array.size_append, List.size_toArray, List.length_append, size_zeroCells, hzs, h0.1, hsh.1, ← Nat.add_mul]
      congr 1
      omega
    obtain ⟨hi', ha, hO'⟩ := hO.rebind (w' := w') (j := j) (ob := some c.w.heap.size) (bl' := .rows e d (r0 ++ rs)) hjl rfl rfl rfl (by simp [w']) (fun b hb _ => heap_alloc_old c.w.drew _ b hb)
      (fun b hb => by
        cases hb
        exact ⟨.inr hO.size, by simp [w'], fun hI => Nat.lt_irrefl _ (hO.imm _ hI), fun i _ hh => Nat.lt_irrefl _ (hO.new _ _ hh).2.1⟩)
    have hnew : w'.heap[c.w.heap.size]? = some (.cells cur e (0, 0)) := heap_alloc_new c.w.drew _
    have hφj : (c.φ.set j (some c.w.heap.size))[j]? = some (some c.w.heap.size) := by simp [hjφ]
    have hg : ∀ i n, forget j i = some n → At c _ i n := fun i n hn => by
      obtain ⟨rfl, hne⟩ := forget_ne hn
      exact ha _ hne
    refine ⟨w', some c.w.heap.size, _, hrun, hi', ha, hO' (.rows (cap := k) hφj hnew hcur (by simp; exact hge) hcm ?_), ?_⟩
    · intro i' o' q hx hy
      have := shows_append (rest := (Builtin.zeroCells z.cells (k - (r0.length + rs.length))).toList) (h0.move hi' hg) (hsh.move hi' hg) hx hy
      have e1 : cur.getD (i' * size d + o') undef = (olds ++ news ++ (Builtin.zeroCells z.cells (k - (r0.length + rs.length))).toList).getD (i' * size d + o') undef := by
        rw [← tl_getD]
        simp [cur]
      rw [e1]; exact this
    · have := CRel.own (c := ⟨w', c.I, c.φ.set j (some c.w.heap.size), (c.B.map fun b => b.rn (forget j)).set j (.rows e d (r0 ++ rs))⟩) (j := j) (l := r0 ++ rs) (cap := k) (by simp [hjl]) hφj (by simp; exact hge) hcm ⟨cur, hnew, hcur⟩
      simpa using this
  cases hs with
  | @own _ b t2 _ rs2 cap hB2 hφ hl hc hcap =>
    rw [hB] at hB2
    cases hB2
    have hblk := hO.blk _ _ hB
    cases hblk with
    | @rows _ _ _ b2 cap2 cur h1 h2 h3 h4 h5 h8 =>
      rw [h1] at hφ
      cases hφ
      obtain ⟨cu, h9, h10⟩ := hcap
      rw [h2] at h9
      cases h9
      have hcc : cap = cap2 := by
        have : cap * size d = cap2 * size d := by omega
        exact Nat.eq_of_mul_eq_mul_right (size_pos d) this
      subst hcc
      have h0 : Shows c d r0 (cur.toList.take (r0.length * size d)) := by
        have hle : r0.length * size d ≤ cap * size d := Nat.mul_le_mul_right _ hl
        refine ⟨by rw [List.length_take, Array.length_toList (xs := cur)]; omega, fun i' o' q hx hy => ?_⟩
        have ho' := enc_lt hy
        have h9 : (i' + 1) * size d ≤ r0.length * size d := Nat.mul_le_mul_right _ hx
        rw [Nat.add_mul] at h9
        have := h8 _ _ _ hx hy
        rw [List.getD_eq_getElem?_getD, List.getElem?_take, if_pos (by omega), ← List.getD_eq_getElem?_getD, tl_getD]
        exact this
      by_cases hrm : r0.length + rs.length ≤ cap
      · have hfit : r0.length * i.size + news.length ≤ cur.size := by
          rw [hsh.1, ← hsz, h3, ← Nat.add_mul]
          exact Nat.mul_le_mul_right _ hrm
        have hrun := run_app_room (P := P) (w := c.w) (ty := ty) ht hu hi h2 hsrc hrm hfit
        rw [← hsz] at hrun hfit
        let cur' := (cur.toList.take (r0.length * size d) ++ news ++ cur.toList.drop (r0.length * size d + news.length)).toArray
        have hsz' : cur'.size = cur.size := (put_cells (i := 0) hfit).1
        obtain ⟨hi', ha, hO'⟩ := hO.rebind (w' := c.w.setRow b cur') (j := j) (ob := some b) (bl' := .rows e d (r0 ++ rs)) hjl rfl rfl rfl (by simp) (fun b' hb' hne => setRow_other _ _ _ _ (fun e' => hne (by rw [e']; exact h1)))
          (fun b' hb' => by
            cases hb'
            obtain ⟨h11, h12, h13⟩ := hO.new j b h1
            exact ⟨h11, by simpa using h12, h13, fun i hij hh => hij (hO.inj _ _ _ hh h1)⟩)
        have hnew : (c.w.setRow b cur').heap[b]? = some (.cells cur' e (0, 0)) := setRow_heap _ _ _ _ _ _ h2
        have hφj : (c.φ.set j (some b))[j]? = some (some b) := by simp [hjφ]
        have hg : ∀ i n, forget j i = some n → At c _ i n := fun i n hn => by
          obtain ⟨rfl, hne⟩ := forget_ne hn
          exact ha _ hne
        refine ⟨_, some b, _, hrun, hi', ha, hO' (.rows (cap := cap) hφj hnew (by omega) (by simp; exact hrm) h5 ?_), ?_⟩
        · intro i' o' q hx hy
          have := shows_append (rest := cur.toList.drop (r0.length * size d + news.length)) (h0.move hi' hg) (hsh.move hi' hg) hx hy
          have e1 : cur'.getD (i' * size d + o') undef = (cur.toList.take (r0.length * size d) ++ news ++ cur.toList.drop (r0.length * size d + news.length)).getD (i' * size d + o') undef := by
            rw [← tl_getD]
          rw [e1]; exact this
        · have := CRel.own (c := ⟨c.w.setRow b cur', c.I, c.φ.set j (some b), (c.B.map fun b => b.rn (forget j)).set j (.rows e d (r0 ++ rs))⟩) (j := j) (l := r0 ++ rs) (cap := cap) (by simp [hjl]) hφj (by simp; exact hrm) hc ⟨cur', hnew, by omega⟩
          rw [List.length_append] at this
          exact this
      · refine grow (some ⟨b, 0, none⟩) cap _ (by omega) rfl h0 (fun w' hw' => ?_)
        have hle : r0.length * size d ≤ cap * size d := Nat.mul_le_mul_right _ hl
        have := run_loadCells_list (P := P) w' ⟨b, 0, none⟩ (cur.toList.take (r0.length * size d)) (fun k v hk => by
          rw [Addr.add_lit, cell_drew hw', cell_of_row _ _ _ _ _ _ h2, Nat.zero_add]
          rw [List.getElem?_take] at hk
          split at hk
          · simpa using hk
          · cases hk)
        rw [show (cur.toList.take (r0.length * size d)).length = r0.length * size d by rw [List.length_take, Array.length_toList (xs := cur), h3]; exact Nat.min_eq_left hle] at this
        simp only [Builtin.firstCells, ← hsz]
        exact this
    | none h1 => rw [h1] at hφ; cases hφ
  | @ownN _ t2 _ ad hB2 hφ =>
    rw [hB] at hB2
    cases hB2
    have h0 : Shows c d [] [] := ⟨by simp, fun i' o' q hx hy => by simp at hx⟩
    by_cases hne : rs = []
    · subst hne
      obtain ⟨hi', ha, hO'⟩ := hO.rebind (w' := c.w) (j := j) (ob := none) (bl' := .rows e d []) hjl rfl rfl rfl (Nat.le_refl _) (fun b' hb' hne => rfl) (fun b' hb' => by cases hb')
      have hφj : (c.φ.set j none)[j]? = some none := by simp [hjφ]
      refine ⟨c.w, none, .slice ad 0 0, ?_, hi', ha, hO' (.none hφj), .ownN (t := e) (d := d) (by simp [hjl]) hφj⟩
      have hl := hsrc.len c.w rfl
      have hf := hsrc.first c.w rfl
      obtain ⟨d, hud, hnk⟩ := hu
      have hm : (match d with | TypeDesc.int k => true | x => false) = false := by cases d <;> first | rfl | exact absurd rfl (hnk _)
      obtain rfl : news = [] := List.eq_nil_of_length_eq_zero (by have := hsrc.size; simpa using this)
      simp only [List.length_nil] at hl hf
      cases ad with
      | none => simp [Builtin.append_, run_underlying ht, run_underlying hud, sizeOf, typeInfo, hi, hl, hf, hm]
      | some ad => simp [Builtin.append_, run_underlying ht, run_underlying hud, sizeOf, typeInfo, hi, hl, hf, hm, storeCells]
    · have hpos : 0 < rs.length := List.length_pos_iff.2 hne
      refine grow ad 0 [] (by simpa using hpos) rfl h0 (fun w' _ => ?_)
      cases ad <;> simp [Builtin.firstCells, loadCells, loadCellsFrom]
end
end Go.X
