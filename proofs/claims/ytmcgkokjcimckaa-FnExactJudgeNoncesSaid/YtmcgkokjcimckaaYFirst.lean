/- Of a region whose operations come in any order, a load of memory that the region does not write may be taken first. -/
import Derived.Test.YtmcgkokjcimckaaYRun
set_option linter.all false
namespace Go.X
open Go
set_option linter.unusedVariables false
variable {P : Program} {md : Region.Mode} {ops : Array Oper} {Q : Exit → Act → World → Prop}

def wpAnyI (P : Program) (md : Region.Mode) (ops : Array Oper) (Q : Exit → Act → World → Prop) (I : World → Prop) : Nat → Array Bool → Act → World → Prop
  | 0, listed, a, w => I w ∧ Region.ready md ops listed = [] ∧ Q .normal a w
  | fuel + 1, listed, a, w => I w ∧
    (Region.ready md ops listed = [] → Q .normal a w) ∧
    ∀ i ∈ Region.ready md ops listed, wpOp P ops Q i (wpAnyI P md ops Q I fuel (listed.setIfInBounds i true)) a w
theorem wpAnyI.inv {I : World → Prop} : ∀ {f : Nat} {listed : Array Bool} {a : Act} {w : World}, wpAnyI P md ops Q I f listed a w → I w
  | 0, _, _, _, h => h.1
  | _ + 1, _, _, _, h => h.1
theorem wpAnyI.mono {I I' : World → Prop} (hI : ∀ w, I w → I' w) : ∀ {f : Nat} {listed : Array Bool} {a : Act} {w : World}, wpAnyI P md ops Q I f listed a w → wpAnyI P md ops Q I' f listed a w
  | 0, _, _, _, h => ⟨hI _ h.1, h.2⟩
  | f + 1, _, _, _, h => ⟨hI _ h.1, h.2.1, fun i hi => wpOp_mono (fun a' w' h3 => wpAnyI.mono hI h3) (h.2.2 i hi)⟩
theorem wpAnyI.any {I : World → Prop} : ∀ {f : Nat} {listed : Array Bool} {a : Act} {w : World}, wpAnyI P md ops Q I f listed a w → wpAny P md ops Q f listed a w
  | 0, _, _, _, h => h.2
  | f + 1, _, _, _, h => ⟨h.2.1, fun i hi => wpOp_mono (fun a' w' h3 => wpAnyI.any h3) (h.2.2 i hi)⟩

def YieldsI (P : Program) (ops : Array Oper) (I : World → Prop) (o : Oper) (v : Value) (a : Act) : Prop :=
  (Region.wanted o (yielded ops a.tmps) = true ∧ ∀ w, I w → (execOp a.eval o).run P w = .ok (.value v) w) ∨
  (Region.wanted o (yielded ops a.tmps) = false ∧ v = undef)
theorem YieldsI.of_same {I : World → Prop} {o : Oper} {v : Value} {a a' : Act} (hy : YieldsI P ops I o v a) (he : execOp a'.eval o = execOp a.eval o)
    (hw : Region.wanted o (yielded ops a'.tmps) = Region.wanted o (yielded ops a.tmps)) : YieldsI P ops I o v a' := by
  unfold YieldsI at *
  rw [he, hw]
  exact hy
theorem YieldsI.wpOp {I : World → Prop} {i : Nat} {o : Oper} {v : Value} {a : Act} (hi : ops[i]? = some o) (hy : YieldsI P ops I o v a)
    {K : Act → World → Prop} {w : World} (hw : I w) (h : K (a.put o.dst v) w) : wpOp P ops Q i K a w := by
  unfold Go.wpOp
  simp only [hi]
  rcases hy with ⟨h1, h2⟩ | ⟨h1, rfl⟩
  · rw [if_pos h1]
    exact .inl (wp_val (h2 w hw) h)
  · rw [if_neg (by rw [h1]; simp)]
    exact h
theorem wpOp_putI {I : World → Prop} {j : Nat} {oi oj : Oper} {v : Value} (hj : ops[j]? = some oj) (hap : oi.apart ops oj = true)
    (hsi : ∀ cs b, oi.op ≠ .select cs b) (hsj : ∀ cs b, oj.op ≠ .select cs b)
    (hQ : ∀ c a w, Q (.panic c) (a.put oi.dst v) w → Q (.panic c) a w) {K : Act → World → Prop} {a : Act} {w : World}
    (hy : YieldsI P ops I oi v a) (h : wpOp P ops Q j K (a.put oi.dst v) w) :
    wpOp P ops Q j (fun a' w' => YieldsI P ops I oi v a' ∧ K (a'.put oi.dst v) w') a w := by
  obtain ⟨h1, h2, h3⟩ := Oper.apart_spec hap
  have keep : ∀ (a : Act), YieldsI P ops I oi v a → ∀ u, YieldsI P ops I oi v (a.put oj.dst u) := fun a hy u =>
    hy.of_same (execOp_put oi hsi a oj.dst u h3) (wanted_put oi a oj.dst u h3)
  have keepD : ∀ d, YieldsI P ops I oi v { a with defers := d :: a.defers } := fun d => hy.of_same rfl rfl
  unfold Go.wpOp at *
  simp only [hj] at *
  rw [wanted_put oj a oi.dst v h1] at h
  split
  · rename_i hw
    simp only [hw, if_true] at h
    rcases h with h | ⟨hasks, hlets⟩
    case inr => exact .inr ⟨by unfold Oper.asks at *; rw [execOp_put oj hsj a oi.dst v h1] at hasks; exact hasks, hlets⟩
    refine .inl ?_
    unfold Oper.wp at *
    rw [execOp_put oj hsj a oi.dst v h1] at h
    generalize (execOp a.eval oj).run P w = r at *
    cases r with
    | ok n w' =>
      cases n <;> simp only [Oper.upon] at h ⊢
      case value u => exact ⟨keep a hy u, by rw [← Act.put_comm a v u h2]; exact h⟩
      case skip => exact ⟨keep a hy _, by rw [← Act.put_comm a v undef h2]; exact h⟩
      case defer d =>
        refine ⟨keep _ (keepD d) _, ?_⟩
        rw [← Act.put_comm _ v undef h2, ← Act.put_defers]
        exact h
      case enter f args =>
        refine Calls.mono h fun e w'' he => ?_
        cases e with
        | returned u => exact ⟨keep a hy u, by rw [← Act.put_comm a v u h2]; exact he⟩
        | panicked c => exact hQ _ _ _ he
        | outgrown => exact he
      case row row args => exact Rows.mono h fun u w'' he => ⟨keep a hy u, by rw [← Act.put_comm a v u h2]; exact he⟩
    | halt x w' =>
      cases x <;> simp only [Oper.upon] at h ⊢
      case panic u => exact hQ _ _ _ h
  · rename_i hw
    simp only [hw] at h
    exact ⟨keep a hy _, by rw [← Act.put_comm a v undef h2]; exact h⟩
theorem wpAnyI_first {I : World → Prop} {i : Nat} {oi : Oper} {v : Value} (hi : ops[i]? = some oi) (hsel : ∀ (j : Nat) (o : Oper) cs b, ops[j]? = some o → o.op ≠ .select cs b)
    (hQ : ∀ c a w, Q (.panic c) (a.put oi.dst v) w → Q (.panic c) a w) :
    ∀ (fuel : Nat) (listed : Array Bool) (a : Act) (w : World),
      (∀ j oj, ops[j]? = some oj → j ≠ i → listed.getD j true = false → (∀ e ∈ oj.after, Region.binds md e = true → e.on ≠ i) → oi.apart ops oj = true) →
      i ∈ Region.ready md ops listed → YieldsI P ops I oi v a →
      wpAnyI P md ops Q I fuel (listed.setIfInBounds i true) (a.put oi.dst v) w → wpAnyI P md ops Q I (fuel + 1) listed a w := by
  intro fuel
  induction fuel with
  | zero =>
    intro listed a w _ hr hy H
    refine ⟨H.1, fun h => (by rw [h] at hr; cases hr), fun j hj => ?_⟩
    by_cases hji : j = i
    · subst hji; exact hy.wpOp hi H.1 H
    · have := ready_mono hj hji
      rw [H.2.1] at this
      cases this
  | succ fuel ih =>
    intro listed a w hfree hr hy H
    refine ⟨H.1, fun h => (by rw [h] at hr; cases hr), fun j hj => ?_⟩
    by_cases hji : j = i
    · subst hji; exact hy.wpOp hi H.1 H
    · have h1 := H.2.2 j (ready_mono hj hji)
      obtain ⟨hjun, oj, hoj, hall⟩ := mem_ready.1 hj
      have hnot : ∀ e ∈ oj.after, Region.binds md e = true → e.on ≠ i := fun e he hb heq => by
        have h1 := hall e he hb
        have h0 := (mem_ready.1 hr).1
        rw [heq] at h1
        rcases Nat.lt_or_ge i listed.size with h' | h'
        · simp [h'] at h0 h1; rw [h0] at h1; cases h1
        · simp [Array.getElem?_eq_none h'] at h1
      have h2 := wpOp_putI hoj (hfree j oj hoj hji hjun hnot) (fun cs b => hsel i oi cs b hi) (fun cs b => hsel j oj cs b hoj) hQ hy h1
      have hfree' : ∀ k ok, ops[k]? = some ok → k ≠ i → (listed.setIfInBounds j true).getD k true = false →
          (∀ e ∈ ok.after, Region.binds md e = true → e.on ≠ i) → oi.apart ops ok = true := fun k ok hk hki hun hno => by
        refine hfree k ok hk hki ?_ hno
        by_cases hjk : j = k
        · subst hjk; exact hjun
        · rw [getD_set_ne true hjk] at hun; exact hun
      refine wpOp_mono (fun a' w' h3 => ih (listed.setIfInBounds j true) a' w' hfree' (ready_mono hr (Ne.symm hji)) h3.1 ?_) h2
      rw [Array.setIfInBounds_comm _ _ hji]
      exact h3.2

/-- What is not one's own stays. -/
def Keep (c : Cx) (w : World) : Prop := ∀ b, c.I b → w.heap[b]? = c.w.heap[b]?
theorem Keep.refl (c : Cx) : Keep c c.w := fun _ _ => rfl
theorem Keep.trans {c c' : Cx} (h : ImmUp c c') {w : World} (k : Keep c' w) : Keep c w := fun b hb => (k b (h.up b hb)).trans (h.same b hb)
theorem Keep.cell {c : Cx} {w : World} (h : Keep c w) {b o : Nat} (hb : c.I b) : w.cell? ⟨b, o, none⟩ = c.w.cell? ⟨b, o, none⟩ := by
  simp only [World.cell?, h b hb]
theorem load_row_at {P : Program} {c : Cx} {t : TypeId} {b o : Nat} {xs : List AC} {r : AV} (hb : c.I b) (hr : loadRow P t xs = some r)
    (h : ∀ (m : Nat) (x : AC), xs[m]? = some x → ∃ u, c.w.cell? ⟨b, o + m, none⟩ = some u ∧ CRel c x u) :
    ∃ u, (∀ w, Keep c w → (loadVar t ⟨b, o, none⟩).run P w = .ok u w) ∧ VRel c r u := by
  unfold loadRow at hr
  split at hr
  · rename_i hl ha
    cases hr
    obtain ⟨d, hd⟩ := aggTy_some ha
    have hn := Nat.eq_of_beq_eq_true hl
    let f : Nat → Value := fun m => (c.w.cell? ⟨b, o + m, none⟩).getD undef
    refine ⟨.agg ((List.range (P.cellsOf t)).map f).toArray, fun w hk => ?_, .agg (by simp [hn]) (fun i x hx => ?_)⟩
    · have hf : ∀ m, m < P.cellsOf t → w.cell? ((⟨b, o, none⟩ : Addr).add m) = some (f m) := by
        intro m hm
        rw [Addr.add_lit, hk.cell hb]
        obtain ⟨u, hu, _⟩ := h m _ (List.getElem?_eq_getElem (by omega))
        simp [f, hu]
      have := run_loadCells (P := P) w ⟨b, o, none⟩ (P.cellsOf t) f hf
      simp [loadVar, run_isAgg ha, run_sizeOf hd, this]
    · obtain ⟨u, hu, hc⟩ := h i x hx
      have hi : i < P.cellsOf t := by have := (List.getElem?_eq_some_iff.1 hx).1; omega
      simpa [Array.getD_eq_getD_getElem?, hi, f, hu] using hc
  · rename_i hl ha
    split at hr
    · cases hr
      obtain ⟨u, hu, hc⟩ := h 0 _ rfl
      have hu : c.w.cell? ⟨b, o, none⟩ = some u := hu
      exact ⟨u, fun w hk => by simp [loadVar, run_isAgg ha, run_load, hk.cell hb, hu], .one hc⟩
    · cases hr
  · cases hr
/-- A load of what is not one's own. -/
theorem op_load_far {E : Env} {call : FuncId → List AV → List Blk → Kont → Bool} {w0 : World} {M : Nat → Prop} {c0 c : Cx} {n0 N : Nat} {st : St} {a : Act} {o : Oper} {K : St → Bool}
    (h : Good w0 M c0 n0 c N st a) (hd : ∀ n, o.dst = some n → n < N) {t : TypeId} {x : Operand} (ho : o.op = .load t x) {d : Cd} {y : den d} {i : Nat} (he : ev E 2 st x = .one (.pdat d y i))
    (hk : exOp E call n0 o st K = true) : ∃ v st', (∀ w, Keep c w → (execOp a.eval o).run E.P w = .ok (.value v) w) ∧ K st' = true ∧ Good w0 M c0 n0 c N st' (a.put o.dst v) := by
  unfold exOp at hk
  simp only [ho, he] at hk
  have hv := ev_ok (E := E) h 2 x
  rw [he] at hv
  split at hk
  · rename_i r hr
    simp only [loadA] at hr
    generalize hu : a.eval x = u at hv
    cases hv with
    | one hv =>
      cases hv with
      | @pdat _ _ _ b off vals hI hcell hrel =>
        obtain ⟨u, hw, hru⟩ := load_row_at (c := c) (b := b) (o := off + i) hI hr (fun m z hx => by
          rw [List.getElem?_take, List.getElem?_drop] at hx
          split at hx
          · exact ⟨_, by rw [Nat.add_assoc]; exact hcell _ (enc_lt hx), hrel _ _ hx⟩
          · cases hx)
        refine ⟨u, _, fun w hkw => ?_, hk, h.set hd hru⟩
        have := hw w hkw
        simp only [execOp, ho, hu]
        simp [Instr.loadAt, Instr.sureAddr, this]
  · cases hk
theorem Good.rebase {w0 : World} {M : Nat → Prop} {c0 c : Cx} {n0 N : Nat} {st : St} {a : Act} (h : Good w0 M c0 n0 c N st a) : Good w0 M c n0 c N st a :=
  ⟨h.own, ImmUp.refl c, fun j _ => At.refl c j, h.b, h.size, h.defers, h.t⟩
theorem Good.back {w0 : World} {M : Nat → Prop} {c0 c c' : Cx} {n0 N : Nat} {st st' : St} {a a' : Act} (h : Good w0 M c0 n0 c N st a) (g : Good w0 M c n0 c' N st' a') : Good w0 M c0 n0 c' N st' a' :=
  ⟨g.own, h.up.trans g.up, fun j hj => (h.old j hj).trans (g.old j hj), g.b, g.size, g.defers, g.t⟩
end Go.X
