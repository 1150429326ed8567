/- Steps of the functions that a law of this seat reaches, and what they come to, for all arguments of the shapes that are named. -/
import Derived.Test.YtmcgkokjcimckaaYTree
import Derived.Test.YtmcgkokjcimckaaProg
set_option linter.all false
namespace Go.X
open Go
noncomputable def ann0 : FuncId → Nat → List Nat := annOf [(12, 7, [0, 3, 4]), (15, 4, [0, 3]), (15, 7, [0, 3, 4]), (16, 3, [0, 3, 4]), (17, 5, [3, 12, 13, 14]), (18, 4, [0, 1, 5]), (19, 4, [0, 3]), (20, 4, [8, 9, 10]), (21, 5, [0, 1, 5, 6]), (22, 5, [1, 5, 12, 13, 14]), (23, 4, [0, 1, 5]), (24, 2, [0, 1, 5]), (25, 2, [0, 1, 5]), (26, 2, [0, 1, 5]), (27, 3, [0, 1, 5, 6]), (29, 2, [0, 1, 5]), (37, 7, [1, 2, 4, 5, 7, 8]), (40, 5, [0, 3, 4]), (41, 4, [0, 14]), (41, 8, [0, 4, 5, 14, 23, 24, 25]), (45, 5, [0, 3, 9, 10]), (54, 3, [1, 5, 9, 10, 11]), (55, 5, [0, 1, 5]), (56, 3, [0, 3, 4]), (57, 4, [2, 10, 11, 12]), (61, 4, [0, 1, 5]), (62, 2, [0, 1, 5]), (63, 2, [0, 1, 5]), (64, 4, [1, 3]), (64, 9, [1, 3, 4]), (66, 3, [0, 3, 4]), (67, 3, [0, 3, 4, 5]), (68, 3, [3, 7, 8, 9]), (69, 5, [1, 5, 6, 21, 22, 23]), (77, 5, [1, 3, 18, 19, 20]), (79, 4, [0, 3]), (81, 2, [0, 1, 5]), (83, 5, [0, 1, 5, 6, 7])]
def tab0 : Tab := [(3, .int), (4, .bool), (5, .byte), (52, .flight), (61, .told), (65, .told), (89, .look), (91, .reading), (97, .flight)]
noncomputable def E0 : Env := ⟨Go.Proofs.Try.prog, tab0, ann0, fun _ => []⟩
theorem hm : Go.Proofs.Try.prog.follows .mixedOrders = true := by kernel_rfl
theorem tab_ok0 : tabOk Go.Proofs.Try.prog tab0 = true := by kernel_rfl
theorem E0_ok : EnvOk E0 := EnvOk.base tab_ok0 _
set_option linter.unusedVariables false
set_option linter.unusedSimpArgs false
def laws_szToldS_K (K : Kont) (r : Int) : Bool := K [AV.one (AC.int .i64 r)] []
def laws_szToldS_T (a : List D.Told) (b : Int) : T (Int) :=
  .br (decide (((w64 (b - (a.length : Int))) : Int) < 0))
  (.ret (-1))
  (.ret (w64 (b - (a.length : Int))))
def laws_szToldS (a : List D.Told) (b : Int) : Int := (laws_szToldS_T a b).val
theorem laws_szToldS_start (a : List D.Told) (b : Int) (k : Nat) (K : Kont) : bodyA E0 (run E0 k 9) 14 k [AV.one (AC.dat .told a), AV.one (AC.int .i64 b)] [] (clean tab0 false 0 K) =
  (laws_szToldS_T a b).run (laws_szToldS_K K) := by kernel_rfl
theorem laws_szToldS_safe (a : List D.Told) (b : Int) (ok_a : okL (okD .told) a) (ok_b : i64 b) : (laws_szToldS_T a b).safe := by
  exact T.safe_free (by kernel_rfl)
theorem laws_szToldS_true (a : List D.Told) (b : Int) (ok_a : okL (okD .told) a) (ok_b : i64 b) (K : Kont) (h : (laws_szToldS_K K) (laws_szToldS a b) = true) : bodyA E0 (run E0 (0) 9) 14 (0) [AV.one (AC.dat .told a), AV.one (AC.int .i64 b)] [] (clean tab0 false 0 K) = true := by
  rw [laws_szToldS_start]
  refine T.run_true (laws_szToldS_safe a b ok_a ok_b) ?_
  exact h
theorem szToldS_le (a : List D.Told) (n : Int) (ha : a.length ≤ maxLen) (h0 : 0 ≤ n) (hn : n ≤ 9223372036854775807) (h : 0 ≤ laws_szToldS a n) : (a.length : Int) ≤ n := by
  have hml := maxLen_eq
  have hw : IntKind.i64.wrap (n - (a.length : Int)) = n - (a.length : Int) := wrap64 (by omega) (by omega)
  simp only [laws_szToldS, laws_szToldS_T, T.val, Bool.cond_eq_ite, w64, hw] at h
  split at h
  · omega
  · rename_i hh; simp at hh; omega
def laws_szToldS_go : List AV → List Blk → Kont → Bool
  | [.one (AC.dat .told a), .one (AC.int .i64 b)], [], K => laws_szToldS_K K (laws_szToldS a b)
  | _, _, _ => false
noncomputable def V14 : Env := E0.add 14 ⟨fun _ => true, [], laws_szToldS_go⟩
theorem V14_ok : EnvOk V14 := by
  refine E0_ok.put hm 14 _ _ laws_szToldS_go (fun args B K h oka okb => ?_)
  unfold laws_szToldS_go at h
  split at h
  · rename_i a b
    have ok_a : okL (okD .told) a := oka _ (List.mem_of_getElem? (i := 0) rfl)
    have ok_b : i64 b := by have := oka _ (List.mem_of_getElem? (i := 1) rfl); exact wf_i64.1 this
    exact ⟨_, 9, false, laws_szToldS_true a b ok_a ok_b K h⟩
  · cases h
def laws_toIval_K (K : Kont) (r : D.Ival) : Bool := K [AV.agg (D.Ival.cs r)] []
def laws_toIval_T (a : D.Ival) : T (D.Ival) :=
  .ret a
def laws_toIval (a : D.Ival) : D.Ival := (laws_toIval_T a).val
theorem laws_toIval_start (a : D.Ival) (k : Nat) (K : Kont) : bodyA V14 (run V14 k 9) 72 k [AV.agg (D.Ival.cs a)] [] (clean tab0 false 0 K) =
  (laws_toIval_T a).run (laws_toIval_K K) := by kernel_rfl
theorem laws_toIval_safe (a : D.Ival) (ok_a : D.Ival.ok a) : (laws_toIval_T a).safe := by
  exact T.safe_free (by kernel_rfl)
theorem laws_toIval_true (a : D.Ival) (ok_a : D.Ival.ok a) (K : Kont) (h : (laws_toIval_K K) (laws_toIval a) = true) : bodyA V14 (run V14 (0) 9) 72 (0) [AV.agg (D.Ival.cs a)] [] (clean tab0 false 0 K) = true := by
  rw [laws_toIval_start]
  refine T.run_true (laws_toIval_safe a ok_a) ?_
  exact h
def laws_toIval_go : List AV → List Blk → Kont → Bool
  | [.agg a_], [], K => (match D.Ival.dec a_ with | some a => laws_toIval_K K (laws_toIval a) | none => false)
  | _, _, _ => false
noncomputable def V72 : Env := V14.add 72 ⟨fun _ => true, [], laws_toIval_go⟩
theorem V72_ok : EnvOk V72 := by
  refine V14_ok.put hm 72 _ _ laws_toIval_go (fun args B K h oka okb => ?_)
  unfold laws_toIval_go at h
  split at h
  · rename_i a_
    split at h
    rotate_left
    · cases h
    rename_i a dec_a
    have dec_a := D.Ival.dec_ok dec_a
    subst dec_a
    have ok_a : D.Ival.ok a := D.Ival.okOf (oka _ (List.mem_of_getElem? (i := 0) rfl))
    exact ⟨_, 9, false, laws_toIval_true a ok_a K h⟩
  · cases h
def laws_toTold_K (K : Kont) (r : D.Told) : Bool := K [AV.agg (D.Told.cs r)] []
def laws_toTold_T (a : D.Told) : T (D.Told) :=
  let r1 : D.Ival := laws_toIval a.was
  let r2 : D.Ival := laws_toIval a.now
  .ret (⟨a.kind, a.node, a.code, a.value, a.holds, a.known, r1, r2⟩ : D.Told)
def laws_toTold (a : D.Told) : D.Told := (laws_toTold_T a).val
theorem laws_toTold_start (a : D.Told) (k : Nat) (K : Kont) : bodyA V72 (run V72 k 9) 46 k [AV.agg (D.Told.cs a)] [] (clean tab0 false 0 K) =
  (laws_toTold_T a).run (laws_toTold_K K) := by kernel_rfl
theorem laws_toTold_safe (a : D.Told) (ok_a : D.Told.ok a) : (laws_toTold_T a).safe := by
  exact T.safe_free (by kernel_rfl)
theorem laws_toTold_true (a : D.Told) (ok_a : D.Told.ok a) (K : Kont) (h : (laws_toTold_K K) (laws_toTold a) = true) : bodyA V72 (run V72 (0) 9) 46 (0) [AV.agg (D.Told.cs a)] [] (clean tab0 false 0 K) = true := by
  rw [laws_toTold_start]
  refine T.run_true (laws_toTold_safe a ok_a) ?_
  exact h
def laws_toTold_go : List AV → List Blk → Kont → Bool
  | [.agg a_], [], K => (match D.Told.dec a_ with | some a => laws_toTold_K K (laws_toTold a) | none => false)
  | _, _, _ => false
noncomputable def V46 : Env := V72.add 46 ⟨fun _ => true, [], laws_toTold_go⟩
theorem V46_ok : EnvOk V46 := by
  refine V72_ok.put hm 46 _ _ laws_toTold_go (fun args B K h oka okb => ?_)
  unfold laws_toTold_go at h
  split at h
  · rename_i a_
    split at h
    rotate_left
    · cases h
    rename_i a dec_a
    have dec_a := D.Told.dec_ok dec_a
    subst dec_a
    have ok_a : D.Told.ok a := D.Told.okOf (oka _ (List.mem_of_getElem? (i := 0) rfl))
    exact ⟨_, 9, false, laws_toTold_true a ok_a K h⟩
  · cases h
def laws_toToldS_K (K : Kont) (r : (List D.Told)) : Bool := K [AV.one (AC.own 0)] [Blk.rows 61 .told r]
def laws_toToldS_pre (a : List D.Told) : Bool := decide (a.length ≤ 1048576)
noncomputable def laws_toToldS_l3_L (k m : Nat) (K : Kont) (st : St) : Bool := iter tab0 0 (exC V46 (run V46 k 9) 0 16 k (fstC (fstC (sndC (fstC (sndC (sndC (bodyC V46.P 16)))))))) [0, 3, 4] m st (kBlk 0 (kSeq (exC V46 (run V46 k 9) 0 16 k (sndC (sndC (sndC (bodyC V46.P 16))))) (kBody V46.P (resC V46.P 16) (clean tab0 false 0 K))))
def laws_toToldS_l3_st (a : List D.Told) (i : Int) (s : (List D.Told)) : St := ⟨[(0, AV.one (AC.dat .told a)), (3, AV.one (AC.own 0)), (4, AV.one (AC.int .i64 (i)))], [Blk.rows 61 .told (s)]⟩
def laws_toToldS_l3_body (a : List D.Told) (i : Int) (x : D.Told) (s : (List D.Told)) : T (S ((List D.Told)) ((List D.Told))) :=
  .grd (decide (0 ≤ i) && decide (i < (a.length : Int))) (let r2 : D.Told := laws_toTold x
  .grd (decide (0 ≤ i) && decide (i < ((s).length : Int))) (.ret (.on ((s).set (Int.toNat (i)) r2))))
def laws_toToldS_l3_done (a : List D.Told) (s : (List D.Told)) : T ((List D.Told)) :=
  .ret s
theorem laws_toToldS_l3_step (a : List D.Told) (k m : Nat) (K : Kont) (i : Int) (s : (List D.Told)) : laws_toToldS_l3_L k (m + 1) K (laws_toToldS_l3_st a i s) =
  br (decide (i < (a.length : Int))) ((laws_toToldS_l3_body a i (elem .told a (Int.toNat i)) s).run (S.k (fun s' => laws_toToldS_l3_L k m K (laws_toToldS_l3_st a (w64 (i + 1)) s')) (laws_toToldS_K K))) ((laws_toToldS_l3_done a s).run (laws_toToldS_K K)) := by kernel_rfl
def laws_toToldS_l3 (a : List D.Told) (s : (List D.Told)) : (List D.Told) := forL (fun i x s => (laws_toToldS_l3_body a i x s).val) (fun s => (laws_toToldS_l3_done a s).val) a 0 s
theorem laws_toToldS_l3_ok (a : List D.Told) (k : Nat) (K : Kont) (s : (List D.Told)) (hl : a.length ≤ maxLen) (hp : laws_toToldS_pre a = true) (hk : a.length < k) (hi : (fun i s => s.length = ((List.replicate (Int.toNat (a.length : Int)) D.Told.zero)).length) 0 s) (h : (laws_toToldS_K K) (laws_toToldS_l3 a s) = true) : laws_toToldS_l3_L k k K (laws_toToldS_l3_st a 0 s) = true := by
  have hml := maxLen_eq
  have hmr := maxRows_eq
  have hpp := hp
  simp only [laws_toToldS_pre, Bool.and_eq_true, decide_eq_true_eq] at hpp
  refine forL_ok (L := fun m i s => laws_toToldS_l3_L k m K (laws_toToldS_l3_st a i s)) (l := a) (dv := dflt .told) (body := laws_toToldS_l3_body a) (done := laws_toToldS_l3_done a) (fb := (fun i x s c => c)) (fd := fun c => c) (Kb := fun m i => S.k (fun s' => laws_toToldS_l3_L k m K (laws_toToldS_l3_st a (w64 (i + 1)) s')) (laws_toToldS_K K)) (Kd := (laws_toToldS_K K)) (K := (laws_toToldS_K K)) (fun m i s => laws_toToldS_l3_step a k m K i s) (fun i s => s.length = ((List.replicate (Int.toNat (a.length : Int)) D.Told.zero)).length) hl ?hb ?hd ?hKb ?hKd _ k 0 s (by omega) rfl (by omega) (by simp; omega) hi h
  case hb =>
    intro i s h0 hN hi
    refine ⟨?safe, ?pres⟩
    case safe =>
      try simp only [bne_eq_false_iff_eq, beq_iff_eq, decide_eq_false_iff_not, decide_eq_true_eq, Bool.and_eq_true, Bool.or_eq_false_iff, Bool.not_eq_eq_eq_not, Bool.not_true, Bool.not_false, beq_eq_false_iff_ne, bne_iff_ne, List.length_replicate, Int.toNat_natCast, List.length_set, List.length_map, List.length_append, List.length_cons, List.length_nil] at hi
      simp only [laws_toToldS_l3_body, T.safe, and_true, true_and, implies_true, bne_eq_false_iff_eq, beq_iff_eq, decide_eq_false_iff_not, decide_eq_true_eq, Bool.and_eq_true, Bool.or_eq_false_iff, Bool.not_eq_eq_eq_not, Bool.not_true, Bool.not_false, beq_eq_false_iff_ne, bne_iff_ne, List.length_replicate, Int.toNat_natCast, List.length_set, List.length_map, List.length_append, List.length_cons, List.length_nil, laws_toToldS_pre]
      repeat' (first | exact trivial | apply And.intro | intro _)
      all_goals first | omega | (simp_all; done) | (simp_all; omega)
    case pres =>
      intro s' hs
      simp only [laws_toToldS_l3_body, T.val, Bool.cond_eq_ite] at hs
      repeat' split at hs
      all_goals first | (cases hs; done) | (cases hs; exact hi) | (cases hs; simp only [bne_eq_false_iff_eq, beq_iff_eq, decide_eq_false_iff_not, decide_eq_true_eq, Bool.and_eq_true, Bool.or_eq_false_iff, Bool.not_eq_eq_eq_not, Bool.not_true, Bool.not_false, beq_eq_false_iff_ne, bne_iff_ne, List.length_replicate, Int.toNat_natCast, List.length_set, List.length_map, List.length_append, List.length_cons, List.length_nil] at hi ⊢; first | exact hi | (simp_all; done) | omega)
  case hd =>
    intro s hi
    exact T.safe_free (by kernel_rfl)
  case hKb =>
    intro m i s h0 hN hi
    exact fun h => h
  case hKd =>
    intro s hi
    exact fun h => h
def laws_toToldS_T (a : List D.Told) : T (S ((List D.Told)) ((List D.Told))) :=
  .grd ((decide (0 ≤ (a.length : Int)) && decide ((a.length : Int) ≤ (a.length : Int))) && decide ((a.length : Int) * 72 ≤ maxRows)) (.ret (.on (List.replicate (Int.toNat (a.length : Int)) D.Told.zero)))
def laws_toToldS (a : List D.Told) : (List D.Told) := S.res (fun t => laws_toToldS_l3 a t) (laws_toToldS_T a).val
theorem laws_toToldS_start (a : List D.Told) (k : Nat) (K : Kont) : bodyA V46 (run V46 k 9) 16 k [AV.one (AC.dat .told a)] [] (clean tab0 false 0 K) =
  (laws_toToldS_T a).run (S.k (fun t => laws_toToldS_l3_L k k K (laws_toToldS_l3_st a 0 t)) (laws_toToldS_K K)) := by kernel_rfl
theorem laws_toToldS_safe (a : List D.Told) (ok_a : okL (okD .told) a) (hp : laws_toToldS_pre a = true) : (laws_toToldS_T a).safe := by
  have hml := maxLen_eq
  have hmr := maxRows_eq
  have q_a := (ok_a).1
  have hpp := hp
  simp only [laws_toToldS_pre, Bool.and_eq_true, decide_eq_true_eq] at hpp
  have hml := maxLen_eq
  have hmr := maxRows_eq
  simp only [laws_toToldS_T, T.safe, Bool.and_eq_true, decide_eq_true_eq, and_true, true_and, implies_true, laws_toToldS_pre]
  repeat' (first | exact trivial | apply And.intro | intro _)
  all_goals first | omega | (simp_all; done) | (simp_all; omega)
theorem laws_toToldS_true (a : List D.Told) (ok_a : okL (okD .told) a) (hp : laws_toToldS_pre a = true) (K : Kont) (h : (laws_toToldS_K K) (laws_toToldS a) = true) : bodyA V46 (run V46 ((a.length + 1)) 9) 16 ((a.length + 1)) [AV.one (AC.dat .told a)] [] (clean tab0 false 0 K) = true := by
  rw [laws_toToldS_start]
  refine T.run_true (laws_toToldS_safe a ok_a hp) ?_
  have hml := maxLen_eq
  have hmr := maxRows_eq
  have q_a := (ok_a).1
  have hpp := hp
  simp only [laws_toToldS_pre, Bool.and_eq_true, decide_eq_true_eq] at hpp
  unfold laws_toToldS at h
  revert h
  cases hv : (laws_toToldS_T a).val with
  | on t =>
    intro h
    simp only [S.res, S.res2, S.k] at h ⊢
    exact laws_toToldS_l3_ok a _ K _ (by first | omega | (dsimp only; omega)) hp (by first | omega | (dsimp only; omega)) (by simp only [laws_toToldS_T, T.val, Bool.cond_eq_ite] at hv; (repeat' split at hv) <;> first | (cases hv; done) | (cases hv; rfl) | (cases hv; simp_all; done) | (cases hv; simp_all; omega) | (cases hv; simp only [bne_eq_false_iff_eq, beq_iff_eq, decide_eq_false_iff_not, decide_eq_true_eq, Bool.and_eq_true, Bool.or_eq_false_iff, Bool.not_eq_eq_eq_not, Bool.not_true, Bool.not_false, beq_eq_false_iff_ne, bne_iff_ne, List.length_replicate, Int.toNat_natCast, List.length_set, List.length_map, List.length_append, List.length_cons, List.length_nil]; omega)) h
  | out r => exact fun h => h
def laws_toToldS_go : List AV → List Blk → Kont → Bool
  | [.one (AC.dat .told a)], [], K => grd (laws_toToldS_pre a) (laws_toToldS_K K (laws_toToldS a))
  | _, _, _ => false
noncomputable def V16 : Env := V46.add 16 ⟨fun _ => true, [], laws_toToldS_go⟩
theorem V16_ok : EnvOk V16 := by
  refine V46_ok.put hm 16 _ _ laws_toToldS_go (fun args B K h oka okb => ?_)
  unfold laws_toToldS_go at h
  split at h
  · rename_i a
    have ok_a : okL (okD .told) a := oka _ (List.mem_of_getElem? (i := 0) rfl)
    obtain ⟨hp, h⟩ := grd_ok h
    exact ⟨_, 9, false, laws_toToldS_true a ok_a hp K h⟩
  · cases h
def laws_eqIval_K (K : Kont) (r : Bool) : Bool := K [AV.one (AC.bool r)] []
def laws_eqIval_T (a : D.Ival) (b : D.Ival) : T (Bool) :=
  .br ((a.lo : Int) != b.lo)
  (.ret false)
  (.br ((a.hi : Int) != b.hi)
   (.ret false)
   (.ret true))
def laws_eqIval (a : D.Ival) (b : D.Ival) : Bool := (laws_eqIval_T a b).val
theorem laws_eqIval_start (a : D.Ival) (b : D.Ival) (k : Nat) (K : Kont) : bodyA V16 (run V16 k 9) 73 k [AV.agg (D.Ival.cs a), AV.agg (D.Ival.cs b)] [] (clean tab0 false 0 K) =
  (laws_eqIval_T a b).run (laws_eqIval_K K) := by kernel_rfl
theorem laws_eqIval_safe (a : D.Ival) (b : D.Ival) (ok_a : D.Ival.ok a) (ok_b : D.Ival.ok b) : (laws_eqIval_T a b).safe := by
  exact T.safe_free (by kernel_rfl)
theorem laws_eqIval_true (a : D.Ival) (b : D.Ival) (ok_a : D.Ival.ok a) (ok_b : D.Ival.ok b) (K : Kont) (h : (laws_eqIval_K K) (laws_eqIval a b) = true) : bodyA V16 (run V16 (0) 9) 73 (0) [AV.agg (D.Ival.cs a), AV.agg (D.Ival.cs b)] [] (clean tab0 false 0 K) = true := by
  rw [laws_eqIval_start]
  refine T.run_true (laws_eqIval_safe a b ok_a ok_b) ?_
  exact h
def laws_eqIval_go : List AV → List Blk → Kont → Bool
  | [.agg a_, .agg b_], [], K => (match D.Ival.dec a_ with | some a => (match D.Ival.dec b_ with | some b => laws_eqIval_K K (laws_eqIval a b) | none => false) | none => false)
  | _, _, _ => false
noncomputable def V73 : Env := V16.add 73 ⟨fun _ => true, [], laws_eqIval_go⟩
theorem V73_ok : EnvOk V73 := by
  refine V16_ok.put hm 73 _ _ laws_eqIval_go (fun args B K h oka okb => ?_)
  unfold laws_eqIval_go at h
  split at h
  · rename_i a_ b_
    split at h
    rotate_left
    · cases h
    rename_i a dec_a
    have dec_a := D.Ival.dec_ok dec_a
    subst dec_a
    split at h
    rotate_left
    · cases h
    rename_i b dec_b
    have dec_b := D.Ival.dec_ok dec_b
    subst dec_b
    have ok_a : D.Ival.ok a := D.Ival.okOf (oka _ (List.mem_of_getElem? (i := 0) rfl))
    have ok_b : D.Ival.ok b := D.Ival.okOf (oka _ (List.mem_of_getElem? (i := 1) rfl))
    exact ⟨_, 9, false, laws_eqIval_true a b ok_a ok_b K h⟩
  · cases h
def laws_eqTold_K (K : Kont) (r : Bool) : Bool := K [AV.one (AC.bool r)] []
def laws_eqTold_T (a : D.Told) (b : D.Told) : T (Bool) :=
  .br ((a.kind : Int) != b.kind)
  (.ret false)
  (.br ((a.node : Int) != b.node)
   (.ret false)
   (.br ((a.code : Int) != b.code)
    (.ret false)
    (.br ((a.value : Int) != b.value)
     (.ret false)
     (.br (!(a.holds == b.holds))
      (.ret false)
      (.br (!(a.known == b.known))
       (.ret false)
       (.br (!(laws_eqIval a.was b.was))
        (.ret false)
        (.br (!(laws_eqIval a.now b.now))
         (.ret false)
         (.ret true))))))))
def laws_eqTold (a : D.Told) (b : D.Told) : Bool := (laws_eqTold_T a b).val
theorem laws_eqTold_start (a : D.Told) (b : D.Told) (k : Nat) (K : Kont) : bodyA V73 (run V73 k 9) 47 k [AV.agg (D.Told.cs a), AV.agg (D.Told.cs b)] [] (clean tab0 false 0 K) =
  (laws_eqTold_T a b).run (laws_eqTold_K K) := by kernel_rfl
theorem laws_eqTold_safe (a : D.Told) (b : D.Told) (ok_a : D.Told.ok a) (ok_b : D.Told.ok b) : (laws_eqTold_T a b).safe := by
  exact T.safe_free (by kernel_rfl)
theorem laws_eqTold_true (a : D.Told) (b : D.Told) (ok_a : D.Told.ok a) (ok_b : D.Told.ok b) (K : Kont) (h : (laws_eqTold_K K) (laws_eqTold a b) = true) : bodyA V73 (run V73 (0) 9) 47 (0) [AV.agg (D.Told.cs a), AV.agg (D.Told.cs b)] [] (clean tab0 false 0 K) = true := by
  rw [laws_eqTold_start]
  refine T.run_true (laws_eqTold_safe a b ok_a ok_b) ?_
  exact h
def laws_eqTold_go : List AV → List Blk → Kont → Bool
  | [.agg a_, .agg b_], [], K => (match D.Told.dec a_ with | some a => (match D.Told.dec b_ with | some b => laws_eqTold_K K (laws_eqTold a b) | none => false) | none => false)
  | _, _, _ => false
noncomputable def V47 : Env := V73.add 47 ⟨fun _ => true, [], laws_eqTold_go⟩
theorem V47_ok : EnvOk V47 := by
  refine V73_ok.put hm 47 _ _ laws_eqTold_go (fun args B K h oka okb => ?_)
  unfold laws_eqTold_go at h
  split at h
  · rename_i a_ b_
    split at h
    rotate_left
    · cases h
    rename_i a dec_a
    have dec_a := D.Told.dec_ok dec_a
    subst dec_a
    split at h
    rotate_left
    · cases h
    rename_i b dec_b
    have dec_b := D.Told.dec_ok dec_b
    subst dec_b
    have ok_a : D.Told.ok a := D.Told.okOf (oka _ (List.mem_of_getElem? (i := 0) rfl))
    have ok_b : D.Told.ok b := D.Told.okOf (oka _ (List.mem_of_getElem? (i := 1) rfl))
    exact ⟨_, 9, false, laws_eqTold_true a b ok_a ok_b K h⟩
  · cases h
def laws_eqToldS_K (K : Kont) (r : Bool) : Bool := K [AV.one (AC.bool r)] []
noncomputable def laws_eqToldS_l4_L (k m : Nat) (K : Kont) (st : St) : Bool := iter tab0 0 (exC V47 (run V47 k 9) 0 18 k (fstC (fstC (sndC (fstC (sndC (sndC (bodyC V47.P 18)))))))) [0, 1, 5] m st (kBlk 0 (kSeq (exC V47 (run V47 k 9) 0 18 k (sndC (sndC (sndC (bodyC V47.P 18))))) (kBody V47.P (resC V47.P 18) (clean tab0 false 0 K))))
def laws_eqToldS_l4_st (a : List D.Told) (b : List D.Told) (i : Int) (s : Unit) : St := ⟨[(0, AV.one (AC.dat .told a)), (1, AV.one (AC.dat .told b)), (5, AV.one (AC.int .i64 (i)))], []⟩
def laws_eqToldS_l4_body (a : List D.Told) (b : List D.Told) (i : Int) (x : D.Told) (s : Unit) : T (S (Unit) (Bool)) :=
  .grd (decide (0 ≤ i) && decide (i < (a.length : Int))) (.grd (decide (0 ≤ i) && decide (i < (b.length : Int))) (.both (.br (!(laws_eqTold x (elem .told b (Int.toNat (i)))))
   (.ret (.out (false)))
   (.ret (.on ())))
  (.br (!(laws_eqTold x (elem .told b (Int.toNat (i)))))
   (.ret (.out (false)))
   (.ret (.on ())))))
def laws_eqToldS_l4_done (a : List D.Told) (b : List D.Told) (s : Unit) : T (Bool) :=
  .ret true
theorem laws_eqToldS_l4_step (a : List D.Told) (b : List D.Told) (k m : Nat) (K : Kont) (i : Int) (s : Unit) : laws_eqToldS_l4_L k (m + 1) K (laws_eqToldS_l4_st a b i s) =
  br (decide (i < (a.length : Int))) ((laws_eqToldS_l4_body a b i (elem .told a (Int.toNat i)) s).run (S.k (fun s' => laws_eqToldS_l4_L k m K (laws_eqToldS_l4_st a b (w64 (i + 1)) s')) (laws_eqToldS_K K))) ((laws_eqToldS_l4_done a b s).run (laws_eqToldS_K K)) := by kernel_rfl
def laws_eqToldS_l4 (a : List D.Told) (b : List D.Told) (s : Unit) : Bool := forL (fun i x s => (laws_eqToldS_l4_body a b i x s).val) (fun s => (laws_eqToldS_l4_done a b s).val) a 0 s
theorem laws_eqToldS_l4_ok (a : List D.Told) (b : List D.Told) (k : Nat) (K : Kont) (s : Unit) (hl : a.length ≤ maxLen) (hk : a.length < k) (hi : (fun i s => (((a.length : Int) : Int) != (b.length : Int)) = false) 0 s) (h : (laws_eqToldS_K K) (laws_eqToldS_l4 a b s) = true) : laws_eqToldS_l4_L k k K (laws_eqToldS_l4_st a b 0 s) = true := by
  have hml := maxLen_eq
  have hmr := maxRows_eq
  refine forL_ok (L := fun m i s => laws_eqToldS_l4_L k m K (laws_eqToldS_l4_st a b i s)) (l := a) (dv := dflt .told) (body := laws_eqToldS_l4_body a b) (done := laws_eqToldS_l4_done a b) (fb := (fun i x s c => c)) (fd := fun c => c) (Kb := fun m i => S.k (fun s' => laws_eqToldS_l4_L k m K (laws_eqToldS_l4_st a b (w64 (i + 1)) s')) (laws_eqToldS_K K)) (Kd := (laws_eqToldS_K K)) (K := (laws_eqToldS_K K)) (fun m i s => laws_eqToldS_l4_step a b k m K i s) (fun i s => (((a.length : Int) : Int) != (b.length : Int)) = false) hl ?hb ?hd ?hKb ?hKd _ k 0 s (by omega) rfl (by omega) (by simp; omega) hi h
  case hb =>
    intro i s h0 hN hi
    refine ⟨?safe, ?pres⟩
    case safe =>
      try simp only [bne_eq_false_iff_eq, beq_iff_eq, decide_eq_false_iff_not, decide_eq_true_eq, Bool.and_eq_true, Bool.or_eq_false_iff, Bool.not_eq_eq_eq_not, Bool.not_true, Bool.not_false, beq_eq_false_iff_ne, bne_iff_ne, List.length_replicate, Int.toNat_natCast, List.length_set, List.length_map, List.length_append, List.length_cons, List.length_nil] at hi
      simp only [laws_eqToldS_l4_body, T.safe, and_true, true_and, implies_true, bne_eq_false_iff_eq, beq_iff_eq, decide_eq_false_iff_not, decide_eq_true_eq, Bool.and_eq_true, Bool.or_eq_false_iff, Bool.not_eq_eq_eq_not, Bool.not_true, Bool.not_false, beq_eq_false_iff_ne, bne_iff_ne, List.length_replicate, Int.toNat_natCast, List.length_set, List.length_map, List.length_append, List.length_cons, List.length_nil, laws_toToldS_pre]
      repeat' (first | exact trivial | apply And.intro | intro _)
      all_goals first | omega | (simp_all; done) | (simp_all; omega)
    case pres =>
      intro s' hs
      simp only [laws_eqToldS_l4_body, T.val, Bool.cond_eq_ite] at hs
      repeat' split at hs
      all_goals first | (cases hs; done) | (cases hs; exact hi) | (cases hs; simp only [bne_eq_false_iff_eq, beq_iff_eq, decide_eq_false_iff_not, decide_eq_true_eq, Bool.and_eq_true, Bool.or_eq_false_iff, Bool.not_eq_eq_eq_not, Bool.not_true, Bool.not_false, beq_eq_false_iff_ne, bne_iff_ne, List.length_replicate, Int.toNat_natCast, List.length_set, List.length_map, List.length_append, List.length_cons, List.length_nil] at hi ⊢; first | exact hi | (simp_all; done) | omega)
  case hd =>
    intro s hi
    exact T.safe_free (by kernel_rfl)
  case hKb =>
    intro m i s h0 hN hi
    exact fun h => h
  case hKd =>
    intro s hi
    exact fun h => h
def laws_eqToldS_T (a : List D.Told) (b : List D.Told) : T (S (Unit) (Bool)) :=
  .br (((a.length : Int) : Int) != (b.length : Int))
  (.ret (.out (false)))
  (.ret (.on ()))
def laws_eqToldS (a : List D.Told) (b : List D.Told) : Bool := S.res (fun t => laws_eqToldS_l4 a b t) (laws_eqToldS_T a b).val
theorem laws_eqToldS_start (a : List D.Told) (b : List D.Told) (k : Nat) (K : Kont) : bodyA V47 (run V47 k 9) 18 k [AV.one (AC.dat .told a), AV.one (AC.dat .told b)] [] (clean tab0 false 0 K) =
  (laws_eqToldS_T a b).run (S.k (fun t => laws_eqToldS_l4_L k k K (laws_eqToldS_l4_st a b 0 t)) (laws_eqToldS_K K)) := by kernel_rfl
theorem laws_eqToldS_safe (a : List D.Told) (b : List D.Told) (ok_a : okL (okD .told) a) (ok_b : okL (okD .told) b) : (laws_eqToldS_T a b).safe := by
  exact T.safe_free (by kernel_rfl)
theorem laws_eqToldS_true (a : List D.Told) (b : List D.Told) (ok_a : okL (okD .told) a) (ok_b : okL (okD .told) b) (K : Kont) (h : (laws_eqToldS_K K) (laws_eqToldS a b) = true) : bodyA V47 (run V47 ((a.length + 1)) 9) 18 ((a.length + 1)) [AV.one (AC.dat .told a), AV.one (AC.dat .told b)] [] (clean tab0 false 0 K) = true := by
  rw [laws_eqToldS_start]
  refine T.run_true (laws_eqToldS_safe a b ok_a ok_b) ?_
  have hml := maxLen_eq
  have hmr := maxRows_eq
  have q_a := (ok_a).1
  have q_b := (ok_b).1
  unfold laws_eqToldS at h
  revert h
  cases hv : (laws_eqToldS_T a b).val with
  | on t =>
    intro h
    simp only [S.res, S.res2, S.k] at h ⊢
    exact laws_eqToldS_l4_ok a b _ K _ (by first | omega | (dsimp only; omega)) (by first | omega | (dsimp only; omega)) (by simp only [laws_eqToldS_T, T.val, Bool.cond_eq_ite] at hv; (repeat' split at hv) <;> first | (cases hv; done) | (cases hv; rfl) | (cases hv; simp_all; done) | (cases hv; simp_all; omega) | (cases hv; simp only [bne_eq_false_iff_eq, beq_iff_eq, decide_eq_false_iff_not, decide_eq_true_eq, Bool.and_eq_true, Bool.or_eq_false_iff, Bool.not_eq_eq_eq_not, Bool.not_true, Bool.not_false, beq_eq_false_iff_ne, bne_iff_ne, List.length_replicate, Int.toNat_natCast, List.length_set, List.length_map, List.length_append, List.length_cons, List.length_nil]; omega)) h
  | out r => exact fun h => h
def laws_eqToldS_go : List AV → List Blk → Kont → Bool
  | [.one (AC.dat .told a), .one (AC.dat .told b)], [], K => laws_eqToldS_K K (laws_eqToldS a b)
  | _, _, _ => false
noncomputable def V18 : Env := V47.add 18 ⟨fun _ => true, [], laws_eqToldS_go⟩
theorem V18_ok : EnvOk V18 := by
  refine V47_ok.put hm 18 _ _ laws_eqToldS_go (fun args B K h oka okb => ?_)
  unfold laws_eqToldS_go at h
  split at h
  · rename_i a b
    have ok_a : okL (okD .told) a := oka _ (List.mem_of_getElem? (i := 0) rfl)
    have ok_b : okL (okD .told) b := oka _ (List.mem_of_getElem? (i := 1) rfl)
    exact ⟨_, 9, false, laws_eqToldS_true a b ok_a ok_b K h⟩
  · cases h
def spec_l1In_K (K : Kont) (r : Bool) : Bool := K [AV.one (AC.bool r)] []
def spec_l1In_T (a : Int) (b : Int) (c : Int) : T (Bool) :=
  .br (decide ((b : Int) ≤ a))
  (.ret (decide ((a : Int) ≤ c)))
  (.ret false)
def spec_l1In (a : Int) (b : Int) (c : Int) : Bool := (spec_l1In_T a b c).val
theorem spec_l1In_start (a : Int) (b : Int) (c : Int) (k : Nat) (K : Kont) : bodyA V18 (run V18 k 9) 52 k [AV.one (AC.int .i64 a), AV.one (AC.int .i64 b), AV.one (AC.int .i64 c)] [] (clean tab0 false 0 K) =
  (spec_l1In_T a b c).run (spec_l1In_K K) := by kernel_rfl
theorem spec_l1In_safe (a : Int) (b : Int) (c : Int) (ok_a : i64 a) (ok_b : i64 b) (ok_c : i64 c) : (spec_l1In_T a b c).safe := by
  exact T.safe_free (by kernel_rfl)
theorem spec_l1In_true (a : Int) (b : Int) (c : Int) (ok_a : i64 a) (ok_b : i64 b) (ok_c : i64 c) (K : Kont) (h : (spec_l1In_K K) (spec_l1In a b c) = true) : bodyA V18 (run V18 (0) 9) 52 (0) [AV.one (AC.int .i64 a), AV.one (AC.int .i64 b), AV.one (AC.int .i64 c)] [] (clean tab0 false 0 K) = true := by
  rw [spec_l1In_start]
  refine T.run_true (spec_l1In_safe a b c ok_a ok_b ok_c) ?_
  exact h
def spec_l1In_go : List AV → List Blk → Kont → Bool
  | [.one (AC.int .i64 a), .one (AC.int .i64 b), .one (AC.int .i64 c)], [], K => spec_l1In_K K (spec_l1In a b c)
  | _, _, _ => false
noncomputable def V52 : Env := V18.add 52 ⟨fun _ => true, [], spec_l1In_go⟩
theorem V52_ok : EnvOk V52 := by
  refine V18_ok.put hm 52 _ _ spec_l1In_go (fun args B K h oka okb => ?_)
  unfold spec_l1In_go at h
  split at h
  · rename_i a b c
    have ok_a : i64 a := by have := oka _ (List.mem_of_getElem? (i := 0) rfl); exact wf_i64.1 this
    have ok_b : i64 b := by have := oka _ (List.mem_of_getElem? (i := 1) rfl); exact wf_i64.1 this
    have ok_c : i64 c := by have := oka _ (List.mem_of_getElem? (i := 2) rfl); exact wf_i64.1 this
    exact ⟨_, 9, false, spec_l1In_true a b c ok_a ok_b ok_c K h⟩
  · cases h
def spec_IvalOk_K (K : Kont) (r : Bool) : Bool := K [AV.one (AC.bool r)] []
def spec_IvalOk_T (a : D.Ival) : T (Bool) :=
  .br (decide ((a.lo : Int) ≤ a.hi))
  (.br (spec_l1In a.lo (-1000000000000) 1000000000000)
   (.ret (spec_l1In a.hi (-1000000000000) 1000000000000))
   (.ret false))
  (.ret false)
def spec_IvalOk (a : D.Ival) : Bool := (spec_IvalOk_T a).val
theorem spec_IvalOk_start (a : D.Ival) (k : Nat) (K : Kont) : bodyA V52 (run V52 k 9) 48 k [AV.agg (D.Ival.cs a)] [] (clean tab0 false 0 K) =
  (spec_IvalOk_T a).run (spec_IvalOk_K K) := by kernel_rfl
theorem spec_IvalOk_safe (a : D.Ival) (ok_a : D.Ival.ok a) : (spec_IvalOk_T a).safe := by
  exact T.safe_free (by kernel_rfl)
theorem spec_IvalOk_true (a : D.Ival) (ok_a : D.Ival.ok a) (K : Kont) (h : (spec_IvalOk_K K) (spec_IvalOk a) = true) : bodyA V52 (run V52 (0) 9) 48 (0) [AV.agg (D.Ival.cs a)] [] (clean tab0 false 0 K) = true := by
  rw [spec_IvalOk_start]
  refine T.run_true (spec_IvalOk_safe a ok_a) ?_
  exact h
def spec_IvalOk_go : List AV → List Blk → Kont → Bool
  | [.agg a_], [], K => (match D.Ival.dec a_ with | some a => spec_IvalOk_K K (spec_IvalOk a) | none => false)
  | _, _, _ => false
noncomputable def V48 : Env := V52.add 48 ⟨fun _ => true, [], spec_IvalOk_go⟩
theorem V48_ok : EnvOk V48 := by
  refine V52_ok.put hm 48 _ _ spec_IvalOk_go (fun args B K h oka okb => ?_)
  unfold spec_IvalOk_go at h
  split at h
  · rename_i a_
    split at h
    rotate_left
    · cases h
    rename_i a dec_a
    have dec_a := D.Ival.dec_ok dec_a
    subst dec_a
    have ok_a : D.Ival.ok a := D.Ival.okOf (oka _ (List.mem_of_getElem? (i := 0) rfl))
    exact ⟨_, 9, false, spec_IvalOk_true a ok_a K h⟩
  · cases h
def spec_Holds_K (K : Kont) (r : Bool) : Bool := K [AV.one (AC.bool r)] []
def spec_Holds_T (a : D.Ival) (b : Int) : T (Bool) :=
  .br (spec_IvalOk a)
  (.ret (spec_l1In b a.lo a.hi))
  (.ret false)
def spec_Holds (a : D.Ival) (b : Int) : Bool := (spec_Holds_T a b).val
theorem spec_Holds_start (a : D.Ival) (b : Int) (k : Nat) (K : Kont) : bodyA V48 (run V48 k 9) 74 k [AV.agg (D.Ival.cs a), AV.one (AC.int .i64 b)] [] (clean tab0 false 0 K) =
  (spec_Holds_T a b).run (spec_Holds_K K) := by kernel_rfl
theorem spec_Holds_safe (a : D.Ival) (b : Int) (ok_a : D.Ival.ok a) (ok_b : i64 b) : (spec_Holds_T a b).safe := by
  exact T.safe_free (by kernel_rfl)
theorem spec_Holds_true (a : D.Ival) (b : Int) (ok_a : D.Ival.ok a) (ok_b : i64 b) (K : Kont) (h : (spec_Holds_K K) (spec_Holds a b) = true) : bodyA V48 (run V48 (0) 9) 74 (0) [AV.agg (D.Ival.cs a), AV.one (AC.int .i64 b)] [] (clean tab0 false 0 K) = true := by
  rw [spec_Holds_start]
  refine T.run_true (spec_Holds_safe a b ok_a ok_b) ?_
  exact h
def spec_Holds_go : List AV → List Blk → Kont → Bool
  | [.agg a_, .one (AC.int .i64 b)], [], K => (match D.Ival.dec a_ with | some a => spec_Holds_K K (spec_Holds a b) | none => false)
  | _, _, _ => false
noncomputable def V74 : Env := V48.add 74 ⟨fun _ => true, [], spec_Holds_go⟩
theorem V74_ok : EnvOk V74 := by
  refine V48_ok.put hm 74 _ _ spec_Holds_go (fun args B K h oka okb => ?_)
  unfold spec_Holds_go at h
  split at h
  · rename_i a_ b
    split at h
    rotate_left
    · cases h
    rename_i a dec_a
    have dec_a := D.Ival.dec_ok dec_a
    subst dec_a
    have ok_a : D.Ival.ok a := D.Ival.okOf (oka _ (List.mem_of_getElem? (i := 0) rfl))
    have ok_b : i64 b := by have := oka _ (List.mem_of_getElem? (i := 1) rfl); exact wf_i64.1 this
    exact ⟨_, 9, false, spec_Holds_true a b ok_a ok_b K h⟩
  · cases h
def spec_Within_K (K : Kont) (r : Bool) : Bool := K [AV.one (AC.bool r)] []
def spec_Within_T (a : D.Ival) (b : D.Ival) : T (Bool) :=
  .br (spec_IvalOk a)
  (.br (spec_Holds b a.lo)
   (.ret (spec_Holds b a.hi))
   (.ret false))
  (.ret false)
def spec_Within (a : D.Ival) (b : D.Ival) : Bool := (spec_Within_T a b).val
theorem spec_Within_start (a : D.Ival) (b : D.Ival) (k : Nat) (K : Kont) : bodyA V74 (run V74 k 9) 49 k [AV.agg (D.Ival.cs a), AV.agg (D.Ival.cs b)] [] (clean tab0 false 0 K) =
  (spec_Within_T a b).run (spec_Within_K K) := by kernel_rfl
theorem spec_Within_safe (a : D.Ival) (b : D.Ival) (ok_a : D.Ival.ok a) (ok_b : D.Ival.ok b) : (spec_Within_T a b).safe := by
  exact T.safe_free (by kernel_rfl)
theorem spec_Within_true (a : D.Ival) (b : D.Ival) (ok_a : D.Ival.ok a) (ok_b : D.Ival.ok b) (K : Kont) (h : (spec_Within_K K) (spec_Within a b) = true) : bodyA V74 (run V74 (0) 9) 49 (0) [AV.agg (D.Ival.cs a), AV.agg (D.Ival.cs b)] [] (clean tab0 false 0 K) = true := by
  rw [spec_Within_start]
  refine T.run_true (spec_Within_safe a b ok_a ok_b) ?_
  exact h
def spec_Within_go : List AV → List Blk → Kont → Bool
  | [.agg a_, .agg b_], [], K => (match D.Ival.dec a_ with | some a => (match D.Ival.dec b_ with | some b => spec_Within_K K (spec_Within a b) | none => false) | none => false)
  | _, _, _ => false
noncomputable def V49 : Env := V74.add 49 ⟨fun _ => true, [], spec_Within_go⟩
theorem V49_ok : EnvOk V49 := by
  refine V74_ok.put hm 49 _ _ spec_Within_go (fun args B K h oka okb => ?_)
  unfold spec_Within_go at h
  split at h
  · rename_i a_ b_
    split at h
    rotate_left
    · cases h
    rename_i a dec_a
    have dec_a := D.Ival.dec_ok dec_a
    subst dec_a
    split at h
    rotate_left
    · cases h
    rename_i b dec_b
    have dec_b := D.Ival.dec_ok dec_b
    subst dec_b
    have ok_a : D.Ival.ok a := D.Ival.okOf (oka _ (List.mem_of_getElem? (i := 0) rfl))
    have ok_b : D.Ival.ok b := D.Ival.okOf (oka _ (List.mem_of_getElem? (i := 1) rfl))
    exact ⟨_, 9, false, spec_Within_true a b ok_a ok_b K h⟩
  · cases h
def spec_JudgeFuses_K (K : Kont) (r : Bool) : Bool := K [AV.one (AC.bool r)] []
noncomputable def spec_JudgeFuses_l4_L (k m : Nat) (K : Kont) (st : St) : Bool := iter tab0 0 (exC V49 (run V49 k 9) 0 19 k (fstC (fstC (sndC (fstC (sndC (sndC (bodyC V49.P 19)))))))) [0, 3] m st (kBlk 0 (kSeq (exC V49 (run V49 k 9) 0 19 k (sndC (sndC (sndC (bodyC V49.P 19))))) (kBody V49.P (resC V49.P 19) (clean tab0 false 0 K))))
def spec_JudgeFuses_l4_st (a : List D.Told) (i : Int) (s : Unit) : St := ⟨[(0, AV.one (AC.dat .told a)), (3, AV.one (AC.int .i64 (i)))], []⟩
def spec_JudgeFuses_l4_body (a : List D.Told) (i : Int) (x : D.Told) (s : Unit) : T (S (Unit) (Bool)) :=
  .grd (decide (0 ≤ i) && decide (i < (a.length : Int))) (.br ((x.kind : Int) == 7)
  (.br ((x.code : Int) == 0)
   (.br (!(spec_IvalOk (x.now)))
    (.ret (.out (false)))
    (.br (x.known)
     (.br (!(spec_Within (x.now) (x.was)))
      (.ret (.out (false)))
      (.ret (.on ())))
     (.ret (.on ()))))
   (.ret (.on ())))
  (.ret (.on ())))
def spec_JudgeFuses_l4_done (a : List D.Told) (s : Unit) : T (Bool) :=
  .ret true
theorem spec_JudgeFuses_l4_step (a : List D.Told) (k m : Nat) (K : Kont) (i : Int) (s : Unit) : spec_JudgeFuses_l4_L k (m + 1) K (spec_JudgeFuses_l4_st a i s) =
  br (decide (i < (a.length : Int))) ((spec_JudgeFuses_l4_body a i (elem .told a (Int.toNat i)) s).run (S.k (fun s' => spec_JudgeFuses_l4_L k m K (spec_JudgeFuses_l4_st a (w64 (i + 1)) s')) (spec_JudgeFuses_K K))) ((spec_JudgeFuses_l4_done a s).run (spec_JudgeFuses_K K)) := by kernel_rfl
def spec_JudgeFuses_l4 (a : List D.Told) (s : Unit) : Bool := forL (fun i x s => (spec_JudgeFuses_l4_body a i x s).val) (fun s => (spec_JudgeFuses_l4_done a s).val) a 0 s
theorem spec_JudgeFuses_l4_ok (a : List D.Told) (k : Nat) (K : Kont) (s : Unit) (hl : a.length ≤ maxLen) (hk : a.length < k) (hi : (fun i s => (decide ((200 : Int) < (a.length : Int))) = false) 0 s) (h : (spec_JudgeFuses_K K) (spec_JudgeFuses_l4 a s) = true) : spec_JudgeFuses_l4_L k k K (spec_JudgeFuses_l4_st a 0 s) = true := by
  have hml := maxLen_eq
  have hmr := maxRows_eq
  refine forL_ok (L := fun m i s => spec_JudgeFuses_l4_L k m K (spec_JudgeFuses_l4_st a i s)) (l := a) (dv := dflt .told) (body := spec_JudgeFuses_l4_body a) (done := spec_JudgeFuses_l4_done a) (fb := (fun i x s c => c)) (fd := fun c => c) (Kb := fun m i => S.k (fun s' => spec_JudgeFuses_l4_L k m K (spec_JudgeFuses_l4_st a (w64 (i + 1)) s')) (spec_JudgeFuses_K K)) (Kd := (spec_JudgeFuses_K K)) (K := (spec_JudgeFuses_K K)) (fun m i s => spec_JudgeFuses_l4_step a k m K i s) (fun i s => (decide ((200 : Int) < (a.length : Int))) = false) hl ?hb ?hd ?hKb ?hKd _ k 0 s (by omega) rfl (by omega) (by simp; omega) hi h
  case hb =>
    intro i s h0 hN hi
    refine ⟨?safe, ?pres⟩
    case safe =>
      try simp only [bne_eq_false_iff_eq, beq_iff_eq, decide_eq_false_iff_not, decide_eq_true_eq, Bool.and_eq_true, Bool.or_eq_false_iff, Bool.not_eq_eq_eq_not, Bool.not_true, Bool.not_false, beq_eq_false_iff_ne, bne_iff_ne, List.length_replicate, Int.toNat_natCast, List.length_set, List.length_map, List.length_append, List.length_cons, List.length_nil] at hi
      simp only [spec_JudgeFuses_l4_body, T.safe, and_true, true_and, implies_true, bne_eq_false_iff_eq, beq_iff_eq, decide_eq_false_iff_not, decide_eq_true_eq, Bool.and_eq_true, Bool.or_eq_false_iff, Bool.not_eq_eq_eq_not, Bool.not_true, Bool.not_false, beq_eq_false_iff_ne, bne_iff_ne, List.length_replicate, Int.toNat_natCast, List.length_set, List.length_map, List.length_append, List.length_cons, List.length_nil, laws_toToldS_pre, spec_l1In, spec_l1In_T, T.val, Bool.cond_eq_ite]
      repeat' (first | exact trivial | apply And.intro | intro _)
      all_goals first | omega | (simp_all; done) | (simp_all; omega)
    case pres =>
      intro s' hs
      simp only [spec_JudgeFuses_l4_body, T.val, Bool.cond_eq_ite] at hs
      repeat' split at hs
      all_goals first | (cases hs; done) | (cases hs; exact hi) | (cases hs; simp only [bne_eq_false_iff_eq, beq_iff_eq, decide_eq_false_iff_not, decide_eq_true_eq, Bool.and_eq_true, Bool.or_eq_false_iff, Bool.not_eq_eq_eq_not, Bool.not_true, Bool.not_false, beq_eq_false_iff_ne, bne_iff_ne, List.length_replicate, Int.toNat_natCast, List.length_set, List.length_map, List.length_append, List.length_cons, List.length_nil] at hi ⊢; first | exact hi | (simp_all; done) | omega)
  case hd =>
    intro s hi
    exact T.safe_free (by kernel_rfl)
  case hKb =>
    intro m i s h0 hN hi
    exact fun h => h
  case hKd =>
    intro s hi
    exact fun h => h
def spec_JudgeFuses_T (a : List D.Told) : T (S (Unit) (Bool)) :=
  .br (decide ((200 : Int) < (a.length : Int)))
  (.ret (.out (false)))
  (.ret (.on ()))
def spec_JudgeFuses (a : List D.Told) : Bool := S.res (fun t => spec_JudgeFuses_l4 a t) (spec_JudgeFuses_T a).val
theorem spec_JudgeFuses_start (a : List D.Told) (k : Nat) (K : Kont) : bodyA V49 (run V49 k 9) 19 k [AV.one (AC.dat .told a)] [] (clean tab0 false 0 K) =
  (spec_JudgeFuses_T a).run (S.k (fun t => spec_JudgeFuses_l4_L k k K (spec_JudgeFuses_l4_st a 0 t)) (spec_JudgeFuses_K K)) := by kernel_rfl
theorem spec_JudgeFuses_safe (a : List D.Told) (ok_a : okL (okD .told) a) : (spec_JudgeFuses_T a).safe := by
  exact T.safe_free (by kernel_rfl)
theorem spec_JudgeFuses_true (a : List D.Told) (ok_a : okL (okD .told) a) (K : Kont) (h : (spec_JudgeFuses_K K) (spec_JudgeFuses a) = true) : bodyA V49 (run V49 ((a.length + 1)) 9) 19 ((a.length + 1)) [AV.one (AC.dat .told a)] [] (clean tab0 false 0 K) = true := by
  rw [spec_JudgeFuses_start]
  refine T.run_true (spec_JudgeFuses_safe a ok_a) ?_
  have hml := maxLen_eq
  have hmr := maxRows_eq
  have q_a := (ok_a).1
  unfold spec_JudgeFuses at h
  revert h
  cases hv : (spec_JudgeFuses_T a).val with
  | on t =>
    intro h
    simp only [S.res, S.res2, S.k] at h ⊢
    exact spec_JudgeFuses_l4_ok a _ K _ (by first | omega | (dsimp only; omega)) (by first | omega | (dsimp only; omega)) (by simp only [spec_JudgeFuses_T, T.val, Bool.cond_eq_ite] at hv; (repeat' split at hv) <;> first | (cases hv; done) | (cases hv; rfl) | (cases hv; simp_all; done) | (cases hv; simp_all; omega) | (cases hv; simp only [bne_eq_false_iff_eq, beq_iff_eq, decide_eq_false_iff_not, decide_eq_true_eq, Bool.and_eq_true, Bool.or_eq_false_iff, Bool.not_eq_eq_eq_not, Bool.not_true, Bool.not_false, beq_eq_false_iff_ne, bne_iff_ne, List.length_replicate, Int.toNat_natCast, List.length_set, List.length_map, List.length_append, List.length_cons, List.length_nil]; omega)) h
  | out r => exact fun h => h
def spec_JudgeFuses_go : List AV → List Blk → Kont → Bool
  | [.one (AC.dat .told a)], [], K => spec_JudgeFuses_K K (spec_JudgeFuses a)
  | _, _, _ => false
noncomputable def V19 : Env := V49.add 19 ⟨fun _ => true, [], spec_JudgeFuses_go⟩
theorem V19_ok : EnvOk V19 := by
  refine V49_ok.put hm 19 _ _ spec_JudgeFuses_go (fun args B K h oka okb => ?_)
  unfold spec_JudgeFuses_go at h
  split at h
  · rename_i a
    have ok_a : okL (okD .told) a := oka _ (List.mem_of_getElem? (i := 0) rfl)
    exact ⟨_, 9, false, spec_JudgeFuses_true a ok_a K h⟩
  · cases h
def impl_IvalOk_K (K : Kont) (r : Bool) : Bool := K [AV.one (AC.bool r)] []
def impl_IvalOk_T (a : D.Ival) : T (Bool) :=
  .br (decide (((-1000000000000) : Int) ≤ a.lo))
  (.br (decide ((a.lo : Int) ≤ a.hi))
   (.ret (decide ((a.hi : Int) ≤ 1000000000000)))
   (.ret false))
  (.ret false)
def impl_IvalOk (a : D.Ival) : Bool := (impl_IvalOk_T a).val
theorem impl_IvalOk_start (a : D.Ival) (k : Nat) (K : Kont) : bodyA V19 (run V19 k 9) 50 k [AV.agg (D.Ival.cs a)] [] (clean tab0 false 0 K) =
  (impl_IvalOk_T a).run (impl_IvalOk_K K) := by kernel_rfl
theorem impl_IvalOk_safe (a : D.Ival) (ok_a : D.Ival.ok a) : (impl_IvalOk_T a).safe := by
  exact T.safe_free (by kernel_rfl)
theorem impl_IvalOk_true (a : D.Ival) (ok_a : D.Ival.ok a) (K : Kont) (h : (impl_IvalOk_K K) (impl_IvalOk a) = true) : bodyA V19 (run V19 (0) 9) 50 (0) [AV.agg (D.Ival.cs a)] [] (clean tab0 false 0 K) = true := by
  rw [impl_IvalOk_start]
  refine T.run_true (impl_IvalOk_safe a ok_a) ?_
  exact h
def impl_IvalOk_go : List AV → List Blk → Kont → Bool
  | [.agg a_], [], K => (match D.Ival.dec a_ with | some a => impl_IvalOk_K K (impl_IvalOk a) | none => false)
  | _, _, _ => false
noncomputable def V50 : Env := V19.add 50 ⟨fun _ => true, [], impl_IvalOk_go⟩
theorem V50_ok : EnvOk V50 := by
  refine V19_ok.put hm 50 _ _ impl_IvalOk_go (fun args B K h oka okb => ?_)
  unfold impl_IvalOk_go at h
  split at h
  · rename_i a_
    split at h
    rotate_left
    · cases h
    rename_i a dec_a
    have dec_a := D.Ival.dec_ok dec_a
    subst dec_a
    have ok_a : D.Ival.ok a := D.Ival.okOf (oka _ (List.mem_of_getElem? (i := 0) rfl))
    exact ⟨_, 9, false, impl_IvalOk_true a ok_a K h⟩
  · cases h
def impl_Within_K (K : Kont) (r : Bool) : Bool := K [AV.one (AC.bool r)] []
def impl_Within_T (a : D.Ival) (b : D.Ival) : T (Bool) :=
  .br (impl_IvalOk a)
  (.br (impl_IvalOk b)
   (.br (decide ((b.lo : Int) ≤ a.lo))
    (.ret (decide ((a.hi : Int) ≤ b.hi)))
    (.ret false))
   (.ret false))
  (.ret false)
def impl_Within (a : D.Ival) (b : D.Ival) : Bool := (impl_Within_T a b).val
theorem impl_Within_start (a : D.Ival) (b : D.Ival) (k : Nat) (K : Kont) : bodyA V50 (run V50 k 9) 51 k [AV.agg (D.Ival.cs a), AV.agg (D.Ival.cs b)] [] (clean tab0 false 0 K) =
  (impl_Within_T a b).run (impl_Within_K K) := by kernel_rfl
theorem impl_Within_safe (a : D.Ival) (b : D.Ival) (ok_a : D.Ival.ok a) (ok_b : D.Ival.ok b) : (impl_Within_T a b).safe := by
  exact T.safe_free (by kernel_rfl)
theorem impl_Within_true (a : D.Ival) (b : D.Ival) (ok_a : D.Ival.ok a) (ok_b : D.Ival.ok b) (K : Kont) (h : (impl_Within_K K) (impl_Within a b) = true) : bodyA V50 (run V50 (0) 9) 51 (0) [AV.agg (D.Ival.cs a), AV.agg (D.Ival.cs b)] [] (clean tab0 false 0 K) = true := by
  rw [impl_Within_start]
  refine T.run_true (impl_Within_safe a b ok_a ok_b) ?_
  exact h
def impl_Within_go : List AV → List Blk → Kont → Bool
  | [.agg a_, .agg b_], [], K => (match D.Ival.dec a_ with | some a => (match D.Ival.dec b_ with | some b => impl_Within_K K (impl_Within a b) | none => false) | none => false)
  | _, _, _ => false
noncomputable def V51 : Env := V50.add 51 ⟨fun _ => true, [], impl_Within_go⟩
theorem V51_ok : EnvOk V51 := by
  refine V50_ok.put hm 51 _ _ impl_Within_go (fun args B K h oka okb => ?_)
  unfold impl_Within_go at h
  split at h
  · rename_i a_ b_
    split at h
    rotate_left
    · cases h
    rename_i a dec_a
    have dec_a := D.Ival.dec_ok dec_a
    subst dec_a
    split at h
    rotate_left
    · cases h
    rename_i b dec_b
    have dec_b := D.Ival.dec_ok dec_b
    subst dec_b
    have ok_a : D.Ival.ok a := D.Ival.okOf (oka _ (List.mem_of_getElem? (i := 0) rfl))
    have ok_b : D.Ival.ok b := D.Ival.okOf (oka _ (List.mem_of_getElem? (i := 1) rfl))
    exact ⟨_, 9, false, impl_Within_true a b ok_a ok_b K h⟩
  · cases h
def impl_JudgeFuses_K (K : Kont) (r : Bool) : Bool := K [AV.one (AC.bool r)] []
noncomputable def impl_JudgeFuses_l4_L (k m : Nat) (K : Kont) (st : St) : Bool := iter tab0 0 (exC V51 (run V51 k 9) 0 20 k (fstC (fstC (sndC (fstC (sndC (sndC (bodyC V51.P 20)))))))) [8, 9, 10] m st (kBlk 0 (kSeq (exC V51 (run V51 k 9) 0 20 k (sndC (sndC (sndC (bodyC V51.P 20))))) (kBody V51.P (resC V51.P 20) (clean tab0 false 0 K))))
def impl_JudgeFuses_l4_st (a : List D.Told) (i : Int) (s : Unit) : St := ⟨[(8, AV.one (AC.dat .told a)), (9, AV.one (AC.int .i64 (a.length : Int))), (10, AV.one (AC.int .i64 (i)))], []⟩
def impl_JudgeFuses_l4_body (a : List D.Told) (i : Int) (x : D.Told) (s : Unit) : T (S (Unit) (Bool)) :=
  .grd (decide (0 ≤ i) && decide (i < (a.length : Int))) (.br ((x.kind : Int) == 7)
  (.br ((x.code : Int) == 0)
   (.br (!(impl_IvalOk (x.now)))
    (.ret (.out (false)))
    (.br (x.known)
     (.br (!(impl_Within (x.now) (x.was)))
      (.ret (.out (false)))
      (.ret (.on ())))
     (.ret (.on ()))))
   (.ret (.on ())))
  (.ret (.on ())))
def impl_JudgeFuses_l4_done (a : List D.Told) (s : Unit) : T (Bool) :=
  .ret true
theorem impl_JudgeFuses_l4_step (a : List D.Told) (k m : Nat) (K : Kont) (i : Int) (s : Unit) : impl_JudgeFuses_l4_L k (m + 1) K (impl_JudgeFuses_l4_st a i s) =
  br (decide (i < (a.length : Int))) ((impl_JudgeFuses_l4_body a i (elem .told a (Int.toNat i)) s).run (S.k (fun s' => impl_JudgeFuses_l4_L k m K (impl_JudgeFuses_l4_st a (w64 (i + 1)) s')) (impl_JudgeFuses_K K))) ((impl_JudgeFuses_l4_done a s).run (impl_JudgeFuses_K K)) := by kernel_rfl
def impl_JudgeFuses_l4 (a : List D.Told) (s : Unit) : Bool := forL (fun i x s => (impl_JudgeFuses_l4_body a i x s).val) (fun s => (impl_JudgeFuses_l4_done a s).val) a 0 s
theorem impl_JudgeFuses_l4_ok (a : List D.Told) (k : Nat) (K : Kont) (s : Unit) (hl : a.length ≤ maxLen) (hk : a.length < k) (hi : (fun i s => (decide ((200 : Int) < (a.length : Int))) = false) 0 s) (h : (impl_JudgeFuses_K K) (impl_JudgeFuses_l4 a s) = true) : impl_JudgeFuses_l4_L k k K (impl_JudgeFuses_l4_st a 0 s) = true := by
  have hml := maxLen_eq
  have hmr := maxRows_eq
  refine forL_ok (L := fun m i s => impl_JudgeFuses_l4_L k m K (impl_JudgeFuses_l4_st a i s)) (l := a) (dv := dflt .told) (body := impl_JudgeFuses_l4_body a) (done := impl_JudgeFuses_l4_done a) (fb := (fun i x s c => c)) (fd := fun c => c) (Kb := fun m i => S.k (fun s' => impl_JudgeFuses_l4_L k m K (impl_JudgeFuses_l4_st a (w64 (i + 1)) s')) (impl_JudgeFuses_K K)) (Kd := (impl_JudgeFuses_K K)) (K := (impl_JudgeFuses_K K)) (fun m i s => impl_JudgeFuses_l4_step a k m K i s) (fun i s => (decide ((200 : Int) < (a.length : Int))) = false) hl ?hb ?hd ?hKb ?hKd _ k 0 s (by omega) rfl (by omega) (by simp; omega) hi h
  case hb =>
    intro i s h0 hN hi
    refine ⟨?safe, ?pres⟩
    case safe =>
      try simp only [bne_eq_false_iff_eq, beq_iff_eq, decide_eq_false_iff_not, decide_eq_true_eq, Bool.and_eq_true, Bool.or_eq_false_iff, Bool.not_eq_eq_eq_not, Bool.not_true, Bool.not_false, beq_eq_false_iff_ne, bne_iff_ne, List.length_replicate, Int.toNat_natCast, List.length_set, List.length_map, List.length_append, List.length_cons, List.length_nil] at hi
      simp only [impl_JudgeFuses_l4_body, T.safe, and_true, true_and, implies_true, bne_eq_false_iff_eq, beq_iff_eq, decide_eq_false_iff_not, decide_eq_true_eq, Bool.and_eq_true, Bool.or_eq_false_iff, Bool.not_eq_eq_eq_not, Bool.not_true, Bool.not_false, beq_eq_false_iff_ne, bne_iff_ne, List.length_replicate, Int.toNat_natCast, List.length_set, List.length_map, List.length_append, List.length_cons, List.length_nil, laws_toToldS_pre, spec_l1In, spec_l1In_T, T.val, Bool.cond_eq_ite]
      repeat' (first | exact trivial | apply And.intro | intro _)
      all_goals first | omega | (simp_all; done) | (simp_all; omega)
    case pres =>
      intro s' hs
      simp only [impl_JudgeFuses_l4_body, T.val, Bool.cond_eq_ite] at hs
      repeat' split at hs
      all_goals first | (cases hs; done) | (cases hs; exact hi) | (cases hs; simp only [bne_eq_false_iff_eq, beq_iff_eq, decide_eq_false_iff_not, decide_eq_true_eq, Bool.and_eq_true, Bool.or_eq_false_iff, Bool.not_eq_eq_eq_not, Bool.not_true, Bool.not_false, beq_eq_false_iff_ne, bne_iff_ne, List.length_replicate, Int.toNat_natCast, List.length_set, List.length_map, List.length_append, List.length_cons, List.length_nil] at hi ⊢; first | exact hi | (simp_all; done) | omega)
  case hd =>
    intro s hi
    exact T.safe_free (by kernel_rfl)
  case hKb =>
    intro m i s h0 hN hi
    exact fun h => h
  case hKd =>
    intro s hi
    exact fun h => h
def impl_JudgeFuses_T (a : List D.Told) : T (S (Unit) (Bool)) :=
  .br (decide ((200 : Int) < (a.length : Int)))
  (.ret (.out (false)))
  (.ret (.on ()))
def impl_JudgeFuses (a : List D.Told) : Bool := S.res (fun t => impl_JudgeFuses_l4 a t) (impl_JudgeFuses_T a).val
theorem impl_JudgeFuses_start (a : List D.Told) (k : Nat) (K : Kont) : bodyA V51 (run V51 k 9) 20 k [AV.one (AC.dat .told a)] [] (clean tab0 false 0 K) =
  (impl_JudgeFuses_T a).run (S.k (fun t => impl_JudgeFuses_l4_L k k K (impl_JudgeFuses_l4_st a 0 t)) (impl_JudgeFuses_K K)) := by kernel_rfl
theorem impl_JudgeFuses_safe (a : List D.Told) (ok_a : okL (okD .told) a) : (impl_JudgeFuses_T a).safe := by
  exact T.safe_free (by kernel_rfl)
theorem impl_JudgeFuses_true (a : List D.Told) (ok_a : okL (okD .told) a) (K : Kont) (h : (impl_JudgeFuses_K K) (impl_JudgeFuses a) = true) : bodyA V51 (run V51 ((a.length + 1)) 9) 20 ((a.length + 1)) [AV.one (AC.dat .told a)] [] (clean tab0 false 0 K) = true := by
  rw [impl_JudgeFuses_start]
  refine T.run_true (impl_JudgeFuses_safe a ok_a) ?_
  have hml := maxLen_eq
  have hmr := maxRows_eq
  have q_a := (ok_a).1
  unfold impl_JudgeFuses at h
  revert h
  cases hv : (impl_JudgeFuses_T a).val with
  | on t =>
    intro h
    simp only [S.res, S.res2, S.k] at h ⊢
    exact impl_JudgeFuses_l4_ok a _ K _ (by first | omega | (dsimp only; omega)) (by first | omega | (dsimp only; omega)) (by simp only [impl_JudgeFuses_T, T.val, Bool.cond_eq_ite] at hv; (repeat' split at hv) <;> first | (cases hv; done) | (cases hv; rfl) | (cases hv; simp_all; done) | (cases hv; simp_all; omega) | (cases hv; simp only [bne_eq_false_iff_eq, beq_iff_eq, decide_eq_false_iff_not, decide_eq_true_eq, Bool.and_eq_true, Bool.or_eq_false_iff, Bool.not_eq_eq_eq_not, Bool.not_true, Bool.not_false, beq_eq_false_iff_ne, bne_iff_ne, List.length_replicate, Int.toNat_natCast, List.length_set, List.length_map, List.length_append, List.length_cons, List.length_nil]; omega)) h
  | out r => exact fun h => h
def impl_JudgeFuses_go : List AV → List Blk → Kont → Bool
  | [.one (AC.dat .told a)], [], K => impl_JudgeFuses_K K (impl_JudgeFuses a)
  | _, _, _ => false
noncomputable def V20 : Env := V51.add 20 ⟨fun _ => true, [], impl_JudgeFuses_go⟩
theorem V20_ok : EnvOk V20 := by
  refine V51_ok.put hm 20 _ _ impl_JudgeFuses_go (fun args B K h oka okb => ?_)
  unfold impl_JudgeFuses_go at h
  split at h
  · rename_i a
    have ok_a : okL (okD .told) a := oka _ (List.mem_of_getElem? (i := 0) rfl)
    exact ⟨_, 9, false, impl_JudgeFuses_true a ok_a K h⟩
  · cases h
def laws_FnExactJudgeFuses_K (K : Kont) (r : Bool) : Bool := K [AV.one (AC.bool r)] []
def laws_FnExactJudgeFuses_T (a : List D.Told) : T (Bool) :=
  .br (decide (((laws_szToldS a 1048576) : Int) < 0))
  (.ret true)
  (let r1 : (List D.Told) := laws_toToldS a
   .grd (laws_toToldS_pre a) (let r2 : (List D.Told) := laws_toToldS a
   .grd (laws_toToldS_pre a) (.br (!((impl_JudgeFuses r2) == (spec_JudgeFuses r1)))
   (.ret false)
   (let r3 : (List D.Told) := laws_toToldS a
    .grd (laws_toToldS_pre a) (.br (!(laws_eqToldS r2 r3))
    (.ret false)
    (.ret true))))))
def laws_FnExactJudgeFuses (a : List D.Told) : Bool := (laws_FnExactJudgeFuses_T a).val
theorem laws_FnExactJudgeFuses_start (a : List D.Told) (k : Nat) : bodyA V20 (run V20 k 9) 5 k [AV.one (AC.dat .told a)] [] isTrue =
  (laws_FnExactJudgeFuses_T a).run (fun r => r) := by kernel_rfl
theorem laws_FnExactJudgeFuses_safe (a : List D.Told) (ok_a : okL (okD .told) a) : (laws_FnExactJudgeFuses_T a).safe := by
  have hml := maxLen_eq
  have hmr := maxRows_eq
  have q_a := (ok_a).1
  have hz := szToldS_le a 1048576 q_a (by omega) (by omega)
  have hml := maxLen_eq
  have hmr := maxRows_eq
  simp only [laws_FnExactJudgeFuses_T, T.safe, Bool.and_eq_true, decide_eq_true_eq, and_true, true_and, implies_true, laws_toToldS_pre, spec_l1In, spec_l1In_T, T.val, Bool.cond_eq_ite]
  repeat' (first | exact trivial | apply And.intro | intro _)
  all_goals first | omega | (simp_all; done) | (simp_all; omega)
theorem laws_FnExactJudgeFuses_true (a : List D.Told) (ok_a : okL (okD .told) a) (h : laws_FnExactJudgeFuses a = true) : bodyA V20 (run V20 (0) 9) 5 (0) [AV.one (AC.dat .told a)] [] isTrue = true := by
  rw [laws_FnExactJudgeFuses_start]
  exact T.run_true (laws_FnExactJudgeFuses_safe a ok_a) h
def spec_JudgeTally_K (K : Kont) (r : (List Int)) : Bool := K [AV.one (AC.own 0)] [Blk.rows 3 .int r]
noncomputable def spec_JudgeTally_l5_L (k m : Nat) (K : Kont) (st : St) : Bool := iter tab0 0 (exC V20 (run V20 k 9) 0 21 k (fstC (fstC (sndC (fstC (sndC (sndC (sndC (bodyC V20.P 21))))))))) [0, 1, 5, 6] m st (kBlk 0 (kSeq (exC V20 (run V20 k 9) 0 21 k (sndC (sndC (sndC (sndC (bodyC V20.P 21)))))) (kBody V20.P (resC V20.P 21) (clean tab0 false 0 K))))
def spec_JudgeTally_l5_st (a : List D.Told) (b : Int) (i : Int) (s : (List Int)) : St := ⟨[(0, AV.one (AC.dat .told a)), (1, AV.one (AC.int .i64 b)), (5, AV.one (AC.own 0)), (6, AV.one (AC.int .i64 (i)))], [Blk.rows 3 .int (s)]⟩
def spec_JudgeTally_l5_body (a : List D.Told) (b : Int) (i : Int) (x : D.Told) (s : (List Int)) : T (S ((List Int)) ((List Int))) :=
  .grd (decide (0 ≤ i) && decide (i < (a.length : Int))) (.br ((x.kind : Int) == b)
  (.grd (decide (0 ≤ i) && decide (i < (a.length : Int))) (.br (spec_l1In (x.code) 0 14)
   (.grd (decide (0 ≤ i) && decide (i < (a.length : Int))) (.grd (decide (0 ≤ i) && decide (i < (a.length : Int))) (.both (.grd (decide (0 ≤ x.code) && decide (x.code < ((s).length : Int))) (.grd (decide (0 ≤ x.code) && decide (x.code < ((s).length : Int))) (.ret (.on ((s).set (Int.toNat (x.code)) (w64 ((elem .int (s) (Int.toNat (x.code))) + 1)))))))
    (.grd (decide (0 ≤ x.code) && decide (x.code < ((s).length : Int))) (.both (.grd (decide (0 ≤ x.code) && decide (x.code < ((s).length : Int))) (.ret (.on ((s).set (Int.toNat (x.code)) (w64 ((elem .int (s) (Int.toNat (x.code))) + 1))))))
     (.grd (decide (0 ≤ x.code) && decide (x.code < ((s).length : Int))) (.ret (.on ((s).set (Int.toNat (x.code)) (w64 ((elem .int (s) (Int.toNat (x.code))) + 1)))))))))))
   (.ret (.on s))))
  (.ret (.on s)))
def spec_JudgeTally_l5_done (a : List D.Told) (b : Int) (s : (List Int)) : T ((List Int)) :=
  .ret s
theorem spec_JudgeTally_l5_step (a : List D.Told) (b : Int) (k m : Nat) (K : Kont) (i : Int) (s : (List Int)) : spec_JudgeTally_l5_L k (m + 1) K (spec_JudgeTally_l5_st a b i s) =
  br (decide (i < (a.length : Int))) ((spec_JudgeTally_l5_body a b i (elem .told a (Int.toNat i)) s).run (S.k (fun s' => spec_JudgeTally_l5_L k m K (spec_JudgeTally_l5_st a b (w64 (i + 1)) s')) (spec_JudgeTally_K K))) ((spec_JudgeTally_l5_done a b s).run (spec_JudgeTally_K K)) := by kernel_rfl
def spec_JudgeTally_l5 (a : List D.Told) (b : Int) (s : (List Int)) : (List Int) := forL (fun i x s => (spec_JudgeTally_l5_body a b i x s).val) (fun s => (spec_JudgeTally_l5_done a b s).val) a 0 s
theorem spec_JudgeTally_l5_ok (a : List D.Told) (b : Int) (k : Nat) (K : Kont) (s : (List Int)) (hl : a.length ≤ maxLen) (hk : a.length < k) (hi : (fun i s => s.length = ((List.replicate 15 0)).length ∧ (decide ((200 : Int) < (a.length : Int))) = false) 0 s) (h : (spec_JudgeTally_K K) (spec_JudgeTally_l5 a b s) = true) : spec_JudgeTally_l5_L k k K (spec_JudgeTally_l5_st a b 0 s) = true := by
  have hml := maxLen_eq
  have hmr := maxRows_eq
  refine forL_ok (L := fun m i s => spec_JudgeTally_l5_L k m K (spec_JudgeTally_l5_st a b i s)) (l := a) (dv := dflt .told) (body := spec_JudgeTally_l5_body a b) (done := spec_JudgeTally_l5_done a b) (fb := (fun i x s c => c)) (fd := fun c => c) (Kb := fun m i => S.k (fun s' => spec_JudgeTally_l5_L k m K (spec_JudgeTally_l5_st a b (w64 (i + 1)) s')) (spec_JudgeTally_K K)) (Kd := (spec_JudgeTally_K K)) (K := (spec_JudgeTally_K K)) (fun m i s => spec_JudgeTally_l5_step a b k m K i s) (fun i s => s.length = ((List.replicate 15 0)).length ∧ (decide ((200 : Int) < (a.length : Int))) = false) hl ?hb ?hd ?hKb ?hKd _ k 0 s (by omega) rfl (by omega) (by simp; omega) hi h
  case hb =>
    intro i s h0 hN hi
    refine ⟨?safe, ?pres⟩
    case safe =>
      try simp only [bne_eq_false_iff_eq, beq_iff_eq, decide_eq_false_iff_not, decide_eq_true_eq, Bool.and_eq_true, Bool.or_eq_false_iff, Bool.not_eq_eq_eq_not, Bool.not_true, Bool.not_false, beq_eq_false_iff_ne, bne_iff_ne, List.length_replicate, Int.toNat_natCast, List.length_set, List.length_map, List.length_append, List.length_cons, List.length_nil] at hi
      simp only [spec_JudgeTally_l5_body, T.safe, and_true, true_and, implies_true, bne_eq_false_iff_eq, beq_iff_eq, decide_eq_false_iff_not, decide_eq_true_eq, Bool.and_eq_true, Bool.or_eq_false_iff, Bool.not_eq_eq_eq_not, Bool.not_true, Bool.not_false, beq_eq_false_iff_ne, bne_iff_ne, List.length_replicate, Int.toNat_natCast, List.length_set, List.length_map, List.length_append, List.length_cons, List.length_nil, laws_toToldS_pre, spec_l1In, spec_l1In_T, T.val, Bool.cond_eq_ite]
      repeat' (first | exact trivial | apply And.intro | intro _)
      all_goals first | omega | (simp_all; done) | (simp_all; omega)
    case pres =>
      intro s' hs
      simp only [spec_JudgeTally_l5_body, T.val, Bool.cond_eq_ite] at hs
      repeat' split at hs
      all_goals first | (cases hs; done) | (cases hs; exact hi) | (cases hs; simp only [bne_eq_false_iff_eq, beq_iff_eq, decide_eq_false_iff_not, decide_eq_true_eq, Bool.and_eq_true, Bool.or_eq_false_iff, Bool.not_eq_eq_eq_not, Bool.not_true, Bool.not_false, beq_eq_false_iff_ne, bne_iff_ne, List.length_replicate, Int.toNat_natCast, List.length_set, List.length_map, List.length_append, List.length_cons, List.length_nil] at hi ⊢; first | exact hi | (simp_all; done) | omega)
  case hd =>
    intro s hi
    exact T.safe_free (by kernel_rfl)
  case hKb =>
    intro m i s h0 hN hi
    exact fun h => h
  case hKd =>
    intro s hi
    exact fun h => h
def spec_JudgeTally_T (a : List D.Told) (b : Int) : T (S ((List Int)) ((List Int))) :=
  .br (decide ((200 : Int) < (a.length : Int)))
  (.ret (.out ([])))
  (.ret (.on (List.replicate 15 0)))
def spec_JudgeTally (a : List D.Told) (b : Int) : (List Int) := S.res (fun t => spec_JudgeTally_l5 a b t) (spec_JudgeTally_T a b).val
theorem spec_JudgeTally_start (a : List D.Told) (b : Int) (k : Nat) (K : Kont) : bodyA V20 (run V20 k 9) 21 k [AV.one (AC.dat .told a), AV.one (AC.int .i64 b)] [] (clean tab0 false 0 K) =
  (spec_JudgeTally_T a b).run (S.k (fun t => spec_JudgeTally_l5_L k k K (spec_JudgeTally_l5_st a b 0 t)) (spec_JudgeTally_K K)) := by kernel_rfl
theorem spec_JudgeTally_safe (a : List D.Told) (b : Int) (ok_a : okL (okD .told) a) (ok_b : i64 b) : (spec_JudgeTally_T a b).safe := by
  exact T.safe_free (by kernel_rfl)
theorem spec_JudgeTally_true (a : List D.Told) (b : Int) (ok_a : okL (okD .told) a) (ok_b : i64 b) (K : Kont) (h : (spec_JudgeTally_K K) (spec_JudgeTally a b) = true) : bodyA V20 (run V20 ((a.length + 1)) 9) 21 ((a.length + 1)) [AV.one (AC.dat .told a), AV.one (AC.int .i64 b)] [] (clean tab0 false 0 K) = true := by
  rw [spec_JudgeTally_start]
  refine T.run_true (spec_JudgeTally_safe a b ok_a ok_b) ?_
  have hml := maxLen_eq
  have hmr := maxRows_eq
  have q_a := (ok_a).1
  unfold spec_JudgeTally at h
  revert h
  cases hv : (spec_JudgeTally_T a b).val with
  | on t =>
    intro h
    simp only [S.res, S.res2, S.k] at h ⊢
    exact spec_JudgeTally_l5_ok a b _ K _ (by first | omega | (dsimp only; omega)) (by first | omega | (dsimp only; omega)) (by simp only [spec_JudgeTally_T, T.val, Bool.cond_eq_ite] at hv; (repeat' split at hv) <;> first | (cases hv; done) | (cases hv; rfl) | (cases hv; simp_all; done) | (cases hv; simp_all; omega) | (cases hv; simp only [bne_eq_false_iff_eq, beq_iff_eq, decide_eq_false_iff_not, decide_eq_true_eq, Bool.and_eq_true, Bool.or_eq_false_iff, Bool.not_eq_eq_eq_not, Bool.not_true, Bool.not_false, beq_eq_false_iff_ne, bne_iff_ne, List.length_replicate, Int.toNat_natCast, List.length_set, List.length_map, List.length_append, List.length_cons, List.length_nil]; omega)) h
  | out r => exact fun h => h
def spec_JudgeTally_go : List AV → List Blk → Kont → Bool
  | [.one (AC.dat .told a), .one (AC.int .i64 b)], [], K => spec_JudgeTally_K K (spec_JudgeTally a b)
  | _, _, _ => false
noncomputable def V21 : Env := V20.add 21 ⟨fun _ => true, [], spec_JudgeTally_go⟩
theorem V21_ok : EnvOk V21 := by
  refine V20_ok.put hm 21 _ _ spec_JudgeTally_go (fun args B K h oka okb => ?_)
  unfold spec_JudgeTally_go at h
  split at h
  · rename_i a b
    have ok_a : okL (okD .told) a := oka _ (List.mem_of_getElem? (i := 0) rfl)
    have ok_b : i64 b := by have := oka _ (List.mem_of_getElem? (i := 1) rfl); exact wf_i64.1 this
    exact ⟨_, 9, false, spec_JudgeTally_true a b ok_a ok_b K h⟩
  · cases h
def impl_in_K (K : Kont) (r : Bool) : Bool := K [AV.one (AC.bool r)] []
def impl_in_T (a : Int) (b : Int) (c : Int) : T (Bool) :=
  .br (decide ((b : Int) ≤ a))
  (.ret (decide ((a : Int) ≤ c)))
  (.ret false)
def impl_in (a : Int) (b : Int) (c : Int) : Bool := (impl_in_T a b c).val
theorem impl_in_start (a : Int) (b : Int) (c : Int) (k : Nat) (K : Kont) : bodyA V21 (run V21 k 9) 53 k [AV.one (AC.int .i64 a), AV.one (AC.int .i64 b), AV.one (AC.int .i64 c)] [] (clean tab0 false 0 K) =
  (impl_in_T a b c).run (impl_in_K K) := by kernel_rfl
theorem impl_in_safe (a : Int) (b : Int) (c : Int) (ok_a : i64 a) (ok_b : i64 b) (ok_c : i64 c) : (impl_in_T a b c).safe := by
  exact T.safe_free (by kernel_rfl)
theorem impl_in_true (a : Int) (b : Int) (c : Int) (ok_a : i64 a) (ok_b : i64 b) (ok_c : i64 c) (K : Kont) (h : (impl_in_K K) (impl_in a b c) = true) : bodyA V21 (run V21 (0) 9) 53 (0) [AV.one (AC.int .i64 a), AV.one (AC.int .i64 b), AV.one (AC.int .i64 c)] [] (clean tab0 false 0 K) = true := by
  rw [impl_in_start]
  refine T.run_true (impl_in_safe a b c ok_a ok_b ok_c) ?_
  exact h
def impl_in_go : List AV → List Blk → Kont → Bool
  | [.one (AC.int .i64 a), .one (AC.int .i64 b), .one (AC.int .i64 c)], [], K => impl_in_K K (impl_in a b c)
  | _, _, _ => false
noncomputable def V53 : Env := V21.add 53 ⟨fun _ => true, [], impl_in_go⟩
theorem V53_ok : EnvOk V53 := by
  refine V21_ok.put hm 53 _ _ impl_in_go (fun args B K h oka okb => ?_)
  unfold impl_in_go at h
  split at h
  · rename_i a b c
    have ok_a : i64 a := by have := oka _ (List.mem_of_getElem? (i := 0) rfl); exact wf_i64.1 this
    have ok_b : i64 b := by have := oka _ (List.mem_of_getElem? (i := 1) rfl); exact wf_i64.1 this
    have ok_c : i64 c := by have := oka _ (List.mem_of_getElem? (i := 2) rfl); exact wf_i64.1 this
    exact ⟨_, 9, false, impl_in_true a b c ok_a ok_b ok_c K h⟩
  · cases h
def impl_JudgeTally_K (K : Kont) (r : (List Int)) : Bool := K [AV.one (AC.own 0)] [Blk.rows 3 .int r]
noncomputable def impl_JudgeTally_l5_L (k m : Nat) (K : Kont) (st : St) : Bool := iter tab0 0 (exC V53 (run V53 k 9) 0 22 k (fstC (fstC (sndC (fstC (sndC (sndC (sndC (bodyC V53.P 22))))))))) [1, 5, 12, 13, 14] m st (kBlk 0 (kSeq (exC V53 (run V53 k 9) 0 22 k (sndC (sndC (sndC (sndC (bodyC V53.P 22)))))) (kBody V53.P (resC V53.P 22) (clean tab0 false 0 K))))
def impl_JudgeTally_l5_st (a : List D.Told) (b : Int) (i : Int) (s : (List Int)) : St := ⟨[(1, AV.one (AC.int .i64 b)), (5, AV.one (AC.own 0)), (12, AV.one (AC.dat .told a)), (13, AV.one (AC.int .i64 (a.length : Int))), (14, AV.one (AC.int .i64 (i)))], [Blk.rows 3 .int (s)]⟩
def impl_JudgeTally_l5_body (a : List D.Told) (b : Int) (i : Int) (x : D.Told) (s : (List Int)) : T (S ((List Int)) ((List Int))) :=
  .grd (decide (0 ≤ i) && decide (i < (a.length : Int))) (.br ((x.kind : Int) == b)
  (.br (impl_in (x.code) 0 14)
   (.grd (decide (0 ≤ x.code) && decide (x.code < ((s).length : Int))) (.grd (decide (0 ≤ x.code) && decide (x.code < ((s).length : Int))) (.ret (.on ((s).set (Int.toNat (x.code)) (w64 ((elem .int (s) (Int.toNat (x.code))) + 1)))))))
   (.ret (.on s)))
  (.ret (.on s)))
def impl_JudgeTally_l5_done (a : List D.Told) (b : Int) (s : (List Int)) : T ((List Int)) :=
  .ret s
theorem impl_JudgeTally_l5_step (a : List D.Told) (b : Int) (k m : Nat) (K : Kont) (i : Int) (s : (List Int)) : impl_JudgeTally_l5_L k (m + 1) K (impl_JudgeTally_l5_st a b i s) =
  br (decide (i < (a.length : Int))) ((impl_JudgeTally_l5_body a b i (elem .told a (Int.toNat i)) s).run (S.k (fun s' => impl_JudgeTally_l5_L k m K (impl_JudgeTally_l5_st a b (w64 (i + 1)) s')) (impl_JudgeTally_K K))) ((impl_JudgeTally_l5_done a b s).run (impl_JudgeTally_K K)) := by kernel_rfl
def impl_JudgeTally_l5 (a : List D.Told) (b : Int) (s : (List Int)) : (List Int) := forL (fun i x s => (impl_JudgeTally_l5_body a b i x s).val) (fun s => (impl_JudgeTally_l5_done a b s).val) a 0 s
theorem impl_JudgeTally_l5_ok (a : List D.Told) (b : Int) (k : Nat) (K : Kont) (s : (List Int)) (hl : a.length ≤ maxLen) (hk : a.length < k) (hi : (fun i s => s.length = ((List.replicate 15 0)).length ∧ (decide ((200 : Int) < (a.length : Int))) = false) 0 s) (h : (impl_JudgeTally_K K) (impl_JudgeTally_l5 a b s) = true) : impl_JudgeTally_l5_L k k K (impl_JudgeTally_l5_st a b 0 s) = true := by
  have hml := maxLen_eq
  have hmr := maxRows_eq
  refine forL_ok (L := fun m i s => impl_JudgeTally_l5_L k m K (impl_JudgeTally_l5_st a b i s)) (l := a) (dv := dflt .told) (body := impl_JudgeTally_l5_body a b) (done := impl_JudgeTally_l5_done a b) (fb := (fun i x s c => c)) (fd := fun c => c) (Kb := fun m i => S.k (fun s' => impl_JudgeTally_l5_L k m K (impl_JudgeTally_l5_st a b (w64 (i + 1)) s')) (impl_JudgeTally_K K)) (Kd := (impl_JudgeTally_K K)) (K := (impl_JudgeTally_K K)) (fun m i s => impl_JudgeTally_l5_step a b k m K i s) (fun i s => s.length = ((List.replicate 15 0)).length ∧ (decide ((200 : Int) < (a.length : Int))) = false) hl ?hb ?hd ?hKb ?hKd _ k 0 s (by omega) rfl (by omega) (by simp; omega) hi h
  case hb =>
    intro i s h0 hN hi
    refine ⟨?safe, ?pres⟩
    case safe =>
      try simp only [bne_eq_false_iff_eq, beq_iff_eq, decide_eq_false_iff_not, decide_eq_true_eq, Bool.and_eq_true, Bool.or_eq_false_iff, Bool.not_eq_eq_eq_not, Bool.not_true, Bool.not_false, beq_eq_false_iff_ne, bne_iff_ne, List.length_replicate, Int.toNat_natCast, List.length_set, List.length_map, List.length_append, List.length_cons, List.length_nil] at hi
      simp only [impl_JudgeTally_l5_body, T.safe, and_true, true_and, implies_true, bne_eq_false_iff_eq, beq_iff_eq, decide_eq_false_iff_not, decide_eq_true_eq, Bool.and_eq_true, Bool.or_eq_false_iff, Bool.not_eq_eq_eq_not, Bool.not_true, Bool.not_false, beq_eq_false_iff_ne, bne_iff_ne, List.length_replicate, Int.toNat_natCast, List.length_set, List.length_map, List.length_append, List.length_cons, List.length_nil, laws_toToldS_pre, spec_l1In, spec_l1In_T, T.val, Bool.cond_eq_ite, impl_in, impl_in_T]
      repeat' (first | exact trivial | apply And.intro | intro _)
      all_goals first | omega | (simp_all; done) | (simp_all; omega)
    case pres =>
      intro s' hs
      simp only [impl_JudgeTally_l5_body, T.val, Bool.cond_eq_ite] at hs
      repeat' split at hs
      all_goals first | (cases hs; done) | (cases hs; exact hi) | (cases hs; simp only [bne_eq_false_iff_eq, beq_iff_eq, decide_eq_false_iff_not, decide_eq_true_eq, Bool.and_eq_true, Bool.or_eq_false_iff, Bool.not_eq_eq_eq_not, Bool.not_true, Bool.not_false, beq_eq_false_iff_ne, bne_iff_ne, List.length_replicate, Int.toNat_natCast, List.length_set, List.length_map, List.length_append, List.length_cons, List.length_nil] at hi ⊢; first | exact hi | (simp_all; done) | omega)
  case hd =>
    intro s hi
    exact T.safe_free (by kernel_rfl)
  case hKb =>
    intro m i s h0 hN hi
    exact fun h => h
  case hKd =>
    intro s hi
    exact fun h => h
def impl_JudgeTally_T (a : List D.Told) (b : Int) : T (S ((List Int)) ((List Int))) :=
  .br (decide ((200 : Int) < (a.length : Int)))
  (.ret (.out ([])))
  (.ret (.on (List.replicate 15 0)))
def impl_JudgeTally (a : List D.Told) (b : Int) : (List Int) := S.res (fun t => impl_JudgeTally_l5 a b t) (impl_JudgeTally_T a b).val
theorem impl_JudgeTally_start (a : List D.Told) (b : Int) (k : Nat) (K : Kont) : bodyA V53 (run V53 k 9) 22 k [AV.one (AC.dat .told a), AV.one (AC.int .i64 b)] [] (clean tab0 false 0 K) =
  (impl_JudgeTally_T a b).run (S.k (fun t => impl_JudgeTally_l5_L k k K (impl_JudgeTally_l5_st a b 0 t)) (impl_JudgeTally_K K)) := by kernel_rfl
theorem impl_JudgeTally_safe (a : List D.Told) (b : Int) (ok_a : okL (okD .told) a) (ok_b : i64 b) : (impl_JudgeTally_T a b).safe := by
  exact T.safe_free (by kernel_rfl)
theorem impl_JudgeTally_true (a : List D.Told) (b : Int) (ok_a : okL (okD .told) a) (ok_b : i64 b) (K : Kont) (h : (impl_JudgeTally_K K) (impl_JudgeTally a b) = true) : bodyA V53 (run V53 ((a.length + 1)) 9) 22 ((a.length + 1)) [AV.one (AC.dat .told a), AV.one (AC.int .i64 b)] [] (clean tab0 false 0 K) = true := by
  rw [impl_JudgeTally_start]
  refine T.run_true (impl_JudgeTally_safe a b ok_a ok_b) ?_
  have hml := maxLen_eq
  have hmr := maxRows_eq
  have q_a := (ok_a).1
  unfold impl_JudgeTally at h
  revert h
  cases hv : (impl_JudgeTally_T a b).val with
  | on t =>
    intro h
    simp only [S.res, S.res2, S.k] at h ⊢
    exact impl_JudgeTally_l5_ok a b _ K _ (by first | omega | (dsimp only; omega)) (by first | omega | (dsimp only; omega)) (by simp only [impl_JudgeTally_T, T.val, Bool.cond_eq_ite] at hv; (repeat' split at hv) <;> first | (cases hv; done) | (cases hv; rfl) | (cases hv; simp_all; done) | (cases hv; simp_all; omega) | (cases hv; simp only [bne_eq_false_iff_eq, beq_iff_eq, decide_eq_false_iff_not, decide_eq_true_eq, Bool.and_eq_true, Bool.or_eq_false_iff, Bool.not_eq_eq_eq_not, Bool.not_true, Bool.not_false, beq_eq_false_iff_ne, bne_iff_ne, List.length_replicate, Int.toNat_natCast, List.length_set, List.length_map, List.length_append, List.length_cons, List.length_nil]; omega)) h
  | out r => exact fun h => h
def impl_JudgeTally_go : List AV → List Blk → Kont → Bool
  | [.one (AC.dat .told a), .one (AC.int .i64 b)], [], K => impl_JudgeTally_K K (impl_JudgeTally a b)
  | _, _, _ => false
noncomputable def V22 : Env := V53.add 22 ⟨fun _ => true, [], impl_JudgeTally_go⟩
theorem V22_ok : EnvOk V22 := by
  refine V53_ok.put hm 22 _ _ impl_JudgeTally_go (fun args B K h oka okb => ?_)
  unfold impl_JudgeTally_go at h
  split at h
  · rename_i a b
    have ok_a : okL (okD .told) a := oka _ (List.mem_of_getElem? (i := 0) rfl)
    have ok_b : i64 b := by have := oka _ (List.mem_of_getElem? (i := 1) rfl); exact wf_i64.1 this
    exact ⟨_, 9, false, impl_JudgeTally_true a b ok_a ok_b K h⟩
  · cases h
def laws_eqIntS_K (K : Kont) (r : Bool) : Bool := K [AV.one (AC.bool r)] []
noncomputable def laws_eqIntS_l4_L (k m : Nat) (K : Kont) (st : St) : Bool := iter tab0 0 (exC V22 (run V22 k 9) 0 23 k (fstC (fstC (sndC (fstC (sndC (sndC (bodyC V22.P 23)))))))) [0, 1, 5] m st (kBlk 0 (kSeq (exC V22 (run V22 k 9) 0 23 k (sndC (sndC (sndC (bodyC V22.P 23))))) (kBody V22.P (resC V22.P 23) (clean tab0 false 0 K))))
def laws_eqIntS_l4_st (a : List Int) (b : List Int) (i : Int) (s : Unit) : St := ⟨[(0, AV.one (AC.dat .int a)), (1, AV.one (AC.dat .int b)), (5, AV.one (AC.int .i64 (i)))], []⟩
def laws_eqIntS_l4_body (a : List Int) (b : List Int) (i : Int) (x : Int) (s : Unit) : T (S (Unit) (Bool)) :=
  .grd (decide (0 ≤ i) && decide (i < (a.length : Int))) (.grd (decide (0 ≤ i) && decide (i < (b.length : Int))) (.both (.br ((x : Int) != (elem .int b (Int.toNat (i))))
   (.ret (.out (false)))
   (.ret (.on ())))
  (.br ((x : Int) != (elem .int b (Int.toNat (i))))
   (.ret (.out (false)))
   (.ret (.on ())))))
def laws_eqIntS_l4_done (a : List Int) (b : List Int) (s : Unit) : T (Bool) :=
  .ret true
theorem laws_eqIntS_l4_step (a : List Int) (b : List Int) (k m : Nat) (K : Kont) (i : Int) (s : Unit) : laws_eqIntS_l4_L k (m + 1) K (laws_eqIntS_l4_st a b i s) =
  br (decide (i < (a.length : Int))) ((laws_eqIntS_l4_body a b i (elem .int a (Int.toNat i)) s).run (S.k (fun s' => laws_eqIntS_l4_L k m K (laws_eqIntS_l4_st a b (w64 (i + 1)) s')) (laws_eqIntS_K K))) ((laws_eqIntS_l4_done a b s).run (laws_eqIntS_K K)) := by kernel_rfl
def laws_eqIntS_l4 (a : List Int) (b : List Int) (s : Unit) : Bool := forL (fun i x s => (laws_eqIntS_l4_body a b i x s).val) (fun s => (laws_eqIntS_l4_done a b s).val) a 0 s
theorem laws_eqIntS_l4_ok (a : List Int) (b : List Int) (k : Nat) (K : Kont) (s : Unit) (hl : a.length ≤ maxLen) (hk : a.length < k) (hi : (fun i s => (((a.length : Int) : Int) != (b.length : Int)) = false) 0 s) (h : (laws_eqIntS_K K) (laws_eqIntS_l4 a b s) = true) : laws_eqIntS_l4_L k k K (laws_eqIntS_l4_st a b 0 s) = true := by
  have hml := maxLen_eq
  have hmr := maxRows_eq
  refine forL_ok (L := fun m i s => laws_eqIntS_l4_L k m K (laws_eqIntS_l4_st a b i s)) (l := a) (dv := dflt .int) (body := laws_eqIntS_l4_body a b) (done := laws_eqIntS_l4_done a b) (fb := (fun i x s c => c)) (fd := fun c => c) (Kb := fun m i => S.k (fun s' => laws_eqIntS_l4_L k m K (laws_eqIntS_l4_st a b (w64 (i + 1)) s')) (laws_eqIntS_K K)) (Kd := (laws_eqIntS_K K)) (K := (laws_eqIntS_K K)) (fun m i s => laws_eqIntS_l4_step a b k m K i s) (fun i s => (((a.length : Int) : Int) != (b.length : Int)) = false) hl ?hb ?hd ?hKb ?hKd _ k 0 s (by omega) rfl (by omega) (by simp; omega) hi h
  case hb =>
    intro i s h0 hN hi
    refine ⟨?safe, ?pres⟩
    case safe =>
      try simp only [bne_eq_false_iff_eq, beq_iff_eq, decide_eq_false_iff_not, decide_eq_true_eq, Bool.and_eq_true, Bool.or_eq_false_iff, Bool.not_eq_eq_eq_not, Bool.not_true, Bool.not_false, beq_eq_false_iff_ne, bne_iff_ne, List.length_replicate, Int.toNat_natCast, List.length_set, List.length_map, List.length_append, List.length_cons, List.length_nil] at hi
      simp only [laws_eqIntS_l4_body, T.safe, and_true, true_and, implies_true, bne_eq_false_iff_eq, beq_iff_eq, decide_eq_false_iff_not, decide_eq_true_eq, Bool.and_eq_true, Bool.or_eq_false_iff, Bool.not_eq_eq_eq_not, Bool.not_true, Bool.not_false, beq_eq_false_iff_ne, bne_iff_ne, List.length_replicate, Int.toNat_natCast, List.length_set, List.length_map, List.length_append, List.length_cons, List.length_nil, laws_toToldS_pre, spec_l1In, spec_l1In_T, T.val, Bool.cond_eq_ite, impl_in, impl_in_T]
      repeat' (first | exact trivial | apply And.intro | intro _)
      all_goals first | omega | (simp_all; done) | (simp_all; omega)
    case pres =>
      intro s' hs
      simp only [laws_eqIntS_l4_body, T.val, Bool.cond_eq_ite] at hs
      repeat' split at hs
      all_goals first | (cases hs; done) | (cases hs; exact hi) | (cases hs; simp only [bne_eq_false_iff_eq, beq_iff_eq, decide_eq_false_iff_not, decide_eq_true_eq, Bool.and_eq_true, Bool.or_eq_false_iff, Bool.not_eq_eq_eq_not, Bool.not_true, Bool.not_false, beq_eq_false_iff_ne, bne_iff_ne, List.length_replicate, Int.toNat_natCast, List.length_set, List.length_map, List.length_append, List.length_cons, List.length_nil] at hi ⊢; first | exact hi | (simp_all; done) | omega)
  case hd =>
    intro s hi
    exact T.safe_free (by kernel_rfl)
  case hKb =>
    intro m i s h0 hN hi
    exact fun h => h
  case hKd =>
    intro s hi
    exact fun h => h
def laws_eqIntS_T (a : List Int) (b : List Int) : T (S (Unit) (Bool)) :=
  .br (((a.length : Int) : Int) != (b.length : Int))
  (.ret (.out (false)))
  (.ret (.on ()))
def laws_eqIntS (a : List Int) (b : List Int) : Bool := S.res (fun t => laws_eqIntS_l4 a b t) (laws_eqIntS_T a b).val
theorem laws_eqIntS_start (a : List Int) (b : List Int) (k : Nat) (K : Kont) : bodyA V22 (run V22 k 9) 23 k [AV.one (AC.dat .int a), AV.one (AC.dat .int b)] [] (clean tab0 false 0 K) =
  (laws_eqIntS_T a b).run (S.k (fun t => laws_eqIntS_l4_L k k K (laws_eqIntS_l4_st a b 0 t)) (laws_eqIntS_K K)) := by kernel_rfl
theorem laws_eqIntS_safe (a : List Int) (b : List Int) (ok_a : okL (okD .int) a) (ok_b : okL (okD .int) b) : (laws_eqIntS_T a b).safe := by
  exact T.safe_free (by kernel_rfl)
theorem laws_eqIntS_true (a : List Int) (b : List Int) (ok_a : okL (okD .int) a) (ok_b : okL (okD .int) b) (K : Kont) (h : (laws_eqIntS_K K) (laws_eqIntS a b) = true) : bodyA V22 (run V22 ((a.length + 1)) 9) 23 ((a.length + 1)) [AV.one (AC.dat .int a), AV.one (AC.dat .int b)] [] (clean tab0 false 0 K) = true := by
  rw [laws_eqIntS_start]
  refine T.run_true (laws_eqIntS_safe a b ok_a ok_b) ?_
  have hml := maxLen_eq
  have hmr := maxRows_eq
  have q_a := (ok_a).1
  have q_b := (ok_b).1
  unfold laws_eqIntS at h
  revert h
  cases hv : (laws_eqIntS_T a b).val with
  | on t =>
    intro h
    simp only [S.res, S.res2, S.k] at h ⊢
    exact laws_eqIntS_l4_ok a b _ K _ (by first | omega | (dsimp only; omega)) (by first | omega | (dsimp only; omega)) (by simp only [laws_eqIntS_T, T.val, Bool.cond_eq_ite] at hv; (repeat' split at hv) <;> first | (cases hv; done) | (cases hv; rfl) | (cases hv; simp_all; done) | (cases hv; simp_all; omega) | (cases hv; simp only [bne_eq_false_iff_eq, beq_iff_eq, decide_eq_false_iff_not, decide_eq_true_eq, Bool.and_eq_true, Bool.or_eq_false_iff, Bool.not_eq_eq_eq_not, Bool.not_true, Bool.not_false, beq_eq_false_iff_ne, bne_iff_ne, List.length_replicate, Int.toNat_natCast, List.length_set, List.length_map, List.length_append, List.length_cons, List.length_nil]; omega)) h
  | out r => exact fun h => h
def laws_eqIntS_go : List AV → List Blk → Kont → Bool
  | [.one (AC.dat .int a), .one (AC.dat .int b)], [], K => laws_eqIntS_K K (laws_eqIntS a b)
  | _, _, _ => false
noncomputable def V23 : Env := V22.add 23 ⟨fun _ => true, [], laws_eqIntS_go⟩
theorem V23_ok : EnvOk V23 := by
  refine V22_ok.put hm 23 _ _ laws_eqIntS_go (fun args B K h oka okb => ?_)
  unfold laws_eqIntS_go at h
  split at h
  · rename_i a b
    have ok_a : okL (okD .int) a := oka _ (List.mem_of_getElem? (i := 0) rfl)
    have ok_b : okL (okD .int) b := oka _ (List.mem_of_getElem? (i := 1) rfl)
    exact ⟨_, 9, false, laws_eqIntS_true a b ok_a ok_b K h⟩
  · cases h
def laws_markToldS_K (K : Kont) (r : Int × (List D.Told)) : Bool := K [AV.one (AC.int .i64 r.1)] [Blk.rows 61 .told r.2]
noncomputable def laws_markToldS_l2_L (k m : Nat) (K : Kont) (st : St) : Bool := iter tab0 1 (exC V23 (run V23 k 9) 1 24 k (fstC (fstC (sndC (fstC (sndC (bodyC V23.P 24))))))) [0, 1, 5] m st (kBlk 0 (kSeq (exC V23 (run V23 k 9) 1 24 k (sndC (sndC (bodyC V23.P 24)))) (kBody V23.P (resC V23.P 24) (clean tab0 false 1 K))))
def laws_markToldS_l2_st (i : Int) (s : Int × (List D.Told)) : St := ⟨[(0, AV.one (AC.own 0)), (1, AV.one (AC.int .i64 (s.1))), (5, AV.one (AC.int .i64 (i)))], [Blk.rows 61 .told (s.2)]⟩
def laws_markToldS_l2_body (i : Int) (s : Int × (List D.Told)) : T (S (Int × (List D.Told)) (Int × (List D.Told))) :=
  .grd (decide (0 ≤ i) && decide (i < ((s.2).length : Int))) (let r11 : List D.Told := ((s.2).set (Int.toNat (i)) (⟨s.1, (elem .told (s.2) (Int.toNat (i))).node, (elem .told (s.2) (Int.toNat (i))).code, (elem .told (s.2) (Int.toNat (i))).value, (elem .told (s.2) (Int.toNat (i))).holds, (elem .told (s.2) (Int.toNat (i))).known, (elem .told (s.2) (Int.toNat (i))).was, (elem .told (s.2) (Int.toNat (i))).now⟩ : D.Told))
  .grd (decide (0 ≤ i) && decide (i < (r11.length : Int))) (let r12 : List D.Told := (r11.set (Int.toNat (i)) (⟨(elem .told r11 (Int.toNat (i))).kind, (w64 (s.1 + 1)), (elem .told r11 (Int.toNat (i))).code, (elem .told r11 (Int.toNat (i))).value, (elem .told r11 (Int.toNat (i))).holds, (elem .told r11 (Int.toNat (i))).known, (elem .told r11 (Int.toNat (i))).was, (elem .told r11 (Int.toNat (i))).now⟩ : D.Told))
  .grd (decide (0 ≤ i) && decide (i < (r12.length : Int))) (let r13 : List D.Told := (r12.set (Int.toNat (i)) (⟨(elem .told r12 (Int.toNat (i))).kind, (elem .told r12 (Int.toNat (i))).node, (w64 ((w64 (s.1 + 1)) + 1)), (elem .told r12 (Int.toNat (i))).value, (elem .told r12 (Int.toNat (i))).holds, (elem .told r12 (Int.toNat (i))).known, (elem .told r12 (Int.toNat (i))).was, (elem .told r12 (Int.toNat (i))).now⟩ : D.Told))
  .grd (decide (0 ≤ i) && decide (i < (r13.length : Int))) (let r14 : List D.Told := (r13.set (Int.toNat (i)) (⟨(elem .told r13 (Int.toNat (i))).kind, (elem .told r13 (Int.toNat (i))).node, (elem .told r13 (Int.toNat (i))).code, (w64 ((w64 ((w64 (s.1 + 1)) + 1)) + 1)), (elem .told r13 (Int.toNat (i))).holds, (elem .told r13 (Int.toNat (i))).known, (elem .told r13 (Int.toNat (i))).was, (elem .told r13 (Int.toNat (i))).now⟩ : D.Told))
  .grd (decide (0 ≤ i) && decide (i < (r14.length : Int))) (let r15 : List D.Told := (r14.set (Int.toNat (i)) (⟨(elem .told r14 (Int.toNat (i))).kind, (elem .told r14 (Int.toNat (i))).node, (elem .told r14 (Int.toNat (i))).code, (elem .told r14 (Int.toNat (i))).value, (((Int.tmod (w64 ((w64 ((w64 ((w64 (s.1 + 1)) + 1)) + 1)) + 1)) 3) : Int) == 0), (elem .told r14 (Int.toNat (i))).known, (elem .told r14 (Int.toNat (i))).was, (elem .told r14 (Int.toNat (i))).now⟩ : D.Told))
  .grd (decide (0 ≤ i) && decide (i < (r15.length : Int))) (let r16 : List D.Told := (r15.set (Int.toNat (i)) (⟨(elem .told r15 (Int.toNat (i))).kind, (elem .told r15 (Int.toNat (i))).node, (elem .told r15 (Int.toNat (i))).code, (elem .told r15 (Int.toNat (i))).value, (elem .told r15 (Int.toNat (i))).holds, (((Int.tmod (w64 ((w64 ((w64 ((w64 ((w64 (s.1 + 1)) + 1)) + 1)) + 1)) + 1)) 3) : Int) == 0), (elem .told r15 (Int.toNat (i))).was, (elem .told r15 (Int.toNat (i))).now⟩ : D.Told))
  .grd (decide (0 ≤ i) && decide (i < (r16.length : Int))) (let r17 : List D.Told := (r16.set (Int.toNat (i)) (⟨(elem .told r16 (Int.toNat (i))).kind, (elem .told r16 (Int.toNat (i))).node, (elem .told r16 (Int.toNat (i))).code, (elem .told r16 (Int.toNat (i))).value, (elem .told r16 (Int.toNat (i))).holds, (elem .told r16 (Int.toNat (i))).known, (⟨(w64 ((w64 ((w64 ((w64 ((w64 ((w64 (s.1 + 1)) + 1)) + 1)) + 1)) + 1)) + 1)), (elem .told r16 (Int.toNat (i))).was.hi⟩ : D.Ival), (elem .told r16 (Int.toNat (i))).now⟩ : D.Told))
  .grd (decide (0 ≤ i) && decide (i < (r17.length : Int))) (let r18 : List D.Told := (r17.set (Int.toNat (i)) (⟨(elem .told r17 (Int.toNat (i))).kind, (elem .told r17 (Int.toNat (i))).node, (elem .told r17 (Int.toNat (i))).code, (elem .told r17 (Int.toNat (i))).value, (elem .told r17 (Int.toNat (i))).holds, (elem .told r17 (Int.toNat (i))).known, (⟨(elem .told r17 (Int.toNat (i))).was.lo, (w64 ((w64 ((w64 ((w64 ((w64 ((w64 ((w64 (s.1 + 1)) + 1)) + 1)) + 1)) + 1)) + 1)) + 1))⟩ : D.Ival), (elem .told r17 (Int.toNat (i))).now⟩ : D.Told))
  .grd (decide (0 ≤ i) && decide (i < (r18.length : Int))) (let r19 : List D.Told := (r18.set (Int.toNat (i)) (⟨(elem .told r18 (Int.toNat (i))).kind, (elem .told r18 (Int.toNat (i))).node, (elem .told r18 (Int.toNat (i))).code, (elem .told r18 (Int.toNat (i))).value, (elem .told r18 (Int.toNat (i))).holds, (elem .told r18 (Int.toNat (i))).known, (elem .told r18 (Int.toNat (i))).was, (⟨(w64 ((w64 ((w64 ((w64 ((w64 ((w64 ((w64 ((w64 (s.1 + 1)) + 1)) + 1)) + 1)) + 1)) + 1)) + 1)) + 1)), (elem .told r18 (Int.toNat (i))).now.hi⟩ : D.Ival)⟩ : D.Told))
  .grd (decide (0 ≤ i) && decide (i < (r19.length : Int))) (let r20 : List D.Told := (r19.set (Int.toNat (i)) (⟨(elem .told r19 (Int.toNat (i))).kind, (elem .told r19 (Int.toNat (i))).node, (elem .told r19 (Int.toNat (i))).code, (elem .told r19 (Int.toNat (i))).value, (elem .told r19 (Int.toNat (i))).holds, (elem .told r19 (Int.toNat (i))).known, (elem .told r19 (Int.toNat (i))).was, (⟨(elem .told r19 (Int.toNat (i))).now.lo, (w64 ((w64 ((w64 ((w64 ((w64 ((w64 ((w64 ((w64 ((w64 (s.1 + 1)) + 1)) + 1)) + 1)) + 1)) + 1)) + 1)) + 1)) + 1))⟩ : D.Ival)⟩ : D.Told))
  .ret (.on ((w64 ((w64 ((w64 ((w64 ((w64 ((w64 ((w64 ((w64 ((w64 ((w64 (s.1 + 1)) + 1)) + 1)) + 1)) + 1)) + 1)) + 1)) + 1)) + 1)) + 1)), r20))))))))))))
def laws_markToldS_l2_done (s : Int × (List D.Told)) : T (Int × (List D.Told)) :=
  .ret (s.1, s.2)
theorem laws_markToldS_l2_step (k m : Nat) (K : Kont) (i : Int) (s : Int × (List D.Told)) : laws_markToldS_l2_L k (m + 1) K (laws_markToldS_l2_st i s) =
  br (decide (i < ((s.2).length : Int))) ((laws_markToldS_l2_body i s).run (S.k (fun s' => laws_markToldS_l2_L k m K (laws_markToldS_l2_st (w64 (i + 1)) s')) (laws_markToldS_K K))) ((laws_markToldS_l2_done s).run (laws_markToldS_K K)) := by kernel_rfl
def laws_markToldS_l2 (s : Int × (List D.Told)) : Int × (List D.Told) := forN (fun i s => (laws_markToldS_l2_body i s).val) (fun s => (laws_markToldS_l2_done s).val) (Int.toNat (((s.2).length : Int) - 0)) 0 s
theorem laws_markToldS_l2_ok (k : Nat) (K : Kont) (s : Int × (List D.Told)) (hl : ((s.2).length : Int) ≤ 9223372036854775807) (hk : Int.toNat (((s.2).length : Int) - 0) < k) (hi : (fun i s' => s'.2.length = s.2.length) 0 s) (h : (laws_markToldS_K K) (laws_markToldS_l2 s) = true) : laws_markToldS_l2_L k k K (laws_markToldS_l2_st 0 s) = true := by
  have hml := maxLen_eq
  have hmr := maxRows_eq
  refine forN_ok (L := fun m i s => laws_markToldS_l2_L k m K (laws_markToldS_l2_st i s)) (N := ((s.2).length : Int)) (body := laws_markToldS_l2_body) (done := laws_markToldS_l2_done) (fb := (fun i s c => c)) (fd := fun c => c) (Kb := fun m i => S.k (fun s' => laws_markToldS_l2_L k m K (laws_markToldS_l2_st (w64 (i + 1)) s')) (laws_markToldS_K K)) (Kd := (laws_markToldS_K K)) (K := (laws_markToldS_K K)) (fun i s' => s'.2.length = s.2.length) (fun m i s' hi => by rw [laws_markToldS_l2_step k m K i s', show decide (i < ((s'.2).length : Int)) = decide (i < ((s.2).length : Int)) by first | rw [hi] | rw [hi.1]]) hl ?hb ?hd ?hKb ?hKd _ k 0 s (by omega) rfl hk hi h
  case hb =>
    intro i s h0 hN hi
    refine ⟨?safe, ?pres⟩
    case safe =>
      try simp only [bne_eq_false_iff_eq, beq_iff_eq, decide_eq_false_iff_not, decide_eq_true_eq, Bool.and_eq_true, Bool.or_eq_false_iff, Bool.not_eq_eq_eq_not, Bool.not_true, Bool.not_false, beq_eq_false_iff_ne, bne_iff_ne, List.length_replicate, Int.toNat_natCast, List.length_set, List.length_map, List.length_append, List.length_cons, List.length_nil] at hi
      simp only [laws_markToldS_l2_body, T.safe, and_true, true_and, implies_true, bne_eq_false_iff_eq, beq_iff_eq, decide_eq_false_iff_not, decide_eq_true_eq, Bool.and_eq_true, Bool.or_eq_false_iff, Bool.not_eq_eq_eq_not, Bool.not_true, Bool.not_false, beq_eq_false_iff_ne, bne_iff_ne, List.length_replicate, Int.toNat_natCast, List.length_set, List.length_map, List.length_append, List.length_cons, List.length_nil, laws_toToldS_pre, spec_l1In, spec_l1In_T, T.val, Bool.cond_eq_ite, impl_in, impl_in_T]
      repeat' (first | exact trivial | apply And.intro | intro _)
      all_goals first | omega | (simp_all; done) | (simp_all; omega)
    case pres =>
      intro s' hs
      simp only [laws_markToldS_l2_body, T.val, Bool.cond_eq_ite] at hs
      repeat' split at hs
      all_goals first | (cases hs; done) | (cases hs; exact hi) | (cases hs; simp only [bne_eq_false_iff_eq, beq_iff_eq, decide_eq_false_iff_not, decide_eq_true_eq, Bool.and_eq_true, Bool.or_eq_false_iff, Bool.not_eq_eq_eq_not, Bool.not_true, Bool.not_false, beq_eq_false_iff_ne, bne_iff_ne, List.length_replicate, Int.toNat_natCast, List.length_set, List.length_map, List.length_append, List.length_cons, List.length_nil] at hi ⊢; first | exact hi | (simp_all; done) | omega)
  case hd =>
    intro s i h0 hN hi
    exact T.safe_free (by kernel_rfl)
  case hKb =>
    intro m i s h0 hN hi
    exact fun h => h
  case hKd =>
    intro s i h0 hN hi
    exact fun h => h
def laws_markToldS_T (a : List D.Told) (b : Int) : T (S (Int × (List D.Told)) (Int × (List D.Told))) :=
  .ret (.on (b, a))
def laws_markToldS (a : List D.Told) (b : Int) : Int × (List D.Told) := S.res (fun t => laws_markToldS_l2 t) (laws_markToldS_T a b).val
theorem laws_markToldS_start (a : List D.Told) (b : Int) (k : Nat) (K : Kont) : bodyA V23 (run V23 k 9) 24 k [AV.one (AC.own 0), AV.one (AC.int .i64 b)] [Blk.rows 61 .told a] (clean tab0 false 1 K) =
  (laws_markToldS_T a b).run (S.k (fun t => laws_markToldS_l2_L k k K (laws_markToldS_l2_st 0 t)) (laws_markToldS_K K)) := by kernel_rfl
theorem laws_markToldS_safe (a : List D.Told) (b : Int) (ok_a : okL (okD .told) a) (ok_b : i64 b) : (laws_markToldS_T a b).safe := by
  exact T.safe_free (by kernel_rfl)
theorem laws_markToldS_true (a : List D.Told) (b : Int) (ok_a : okL (okD .told) a) (ok_b : i64 b) (K : Kont) (h : (laws_markToldS_K K) (laws_markToldS a b) = true) : bodyA V23 (run V23 ((Int.toNat ((a.length : Int) - 0) + 1)) 9) 24 ((Int.toNat ((a.length : Int) - 0) + 1)) [AV.one (AC.own 0), AV.one (AC.int .i64 b)] [Blk.rows 61 .told a] (clean tab0 false 1 K) = true := by
  rw [laws_markToldS_start]
  refine T.run_true (laws_markToldS_safe a b ok_a ok_b) ?_
  have hml := maxLen_eq
  have hmr := maxRows_eq
  have q_a := (ok_a).1
  unfold laws_markToldS at h
  revert h
  cases hv : (laws_markToldS_T a b).val with
  | on t =>
    intro h
    simp only [S.res, S.res2, S.k] at h ⊢
    simp only [laws_markToldS_T, T.val, Bool.cond_eq_ite] at hv
    cases hv
    exact laws_markToldS_l2_ok _ K _ (by first | omega | (dsimp only; omega)) (by first | omega | (dsimp only; omega)) rfl h
  | out r => exact fun h => h
def laws_markToldS_go : List AV → List Blk → Kont → Bool
  | [AV.one (AC.own 0), .one (AC.int .i64 b)], [Blk.rows 61 .told a], K => laws_markToldS_K K (laws_markToldS a b)
  | _, _, _ => false
noncomputable def V24 : Env := V23.add 24 ⟨fun _ => true, [true], laws_markToldS_go⟩
theorem V24_ok : EnvOk V24 := by
  refine V23_ok.put hm 24 _ _ laws_markToldS_go (fun args B K h oka okb => ?_)
  unfold laws_markToldS_go at h
  split at h
  · rename_i b a
    have ok_a : okL (okD .told) a := okb _ (List.mem_of_getElem? (i := 0) rfl)
    have ok_b : i64 b := by have := oka _ (List.mem_of_getElem? (i := 1) rfl); exact wf_i64.1 this
    exact ⟨_, 9, false, laws_markToldS_true a b ok_a ok_b K h⟩
  · cases h
def laws_markIntS_K (K : Kont) (r : Int × (List Int)) : Bool := K [AV.one (AC.int .i64 r.1)] [Blk.rows 3 .int r.2]
noncomputable def laws_markIntS_l2_L (k m : Nat) (K : Kont) (st : St) : Bool := iter tab0 1 (exC V24 (run V24 k 9) 1 25 k (fstC (fstC (sndC (fstC (sndC (bodyC V24.P 25))))))) [0, 1, 5] m st (kBlk 0 (kSeq (exC V24 (run V24 k 9) 1 25 k (sndC (sndC (bodyC V24.P 25)))) (kBody V24.P (resC V24.P 25) (clean tab0 false 1 K))))
def laws_markIntS_l2_st (i : Int) (s : Int × (List Int)) : St := ⟨[(0, AV.one (AC.own 0)), (1, AV.one (AC.int .i64 (s.1))), (5, AV.one (AC.int .i64 (i)))], [Blk.rows 3 .int (s.2)]⟩
def laws_markIntS_l2_body (i : Int) (s : Int × (List Int)) : T (S (Int × (List Int)) (Int × (List Int))) :=
  .grd (decide (0 ≤ i) && decide (i < ((s.2).length : Int))) (.ret (.on ((w64 (s.1 + 1)), ((s.2).set (Int.toNat (i)) (s.1)))))
def laws_markIntS_l2_done (s : Int × (List Int)) : T (Int × (List Int)) :=
  .ret (s.1, s.2)
theorem laws_markIntS_l2_step (k m : Nat) (K : Kont) (i : Int) (s : Int × (List Int)) : laws_markIntS_l2_L k (m + 1) K (laws_markIntS_l2_st i s) =
  br (decide (i < ((s.2).length : Int))) ((laws_markIntS_l2_body i s).run (S.k (fun s' => laws_markIntS_l2_L k m K (laws_markIntS_l2_st (w64 (i + 1)) s')) (laws_markIntS_K K))) ((laws_markIntS_l2_done s).run (laws_markIntS_K K)) := by kernel_rfl
def laws_markIntS_l2 (s : Int × (List Int)) : Int × (List Int) := forN (fun i s => (laws_markIntS_l2_body i s).val) (fun s => (laws_markIntS_l2_done s).val) (Int.toNat (((s.2).length : Int) - 0)) 0 s
theorem laws_markIntS_l2_ok (k : Nat) (K : Kont) (s : Int × (List Int)) (hl : ((s.2).length : Int) ≤ 9223372036854775807) (hk : Int.toNat (((s.2).length : Int) - 0) < k) (hi : (fun i s' => s'.2.length = s.2.length) 0 s) (h : (laws_markIntS_K K) (laws_markIntS_l2 s) = true) : laws_markIntS_l2_L k k K (laws_markIntS_l2_st 0 s) = true := by
  have hml := maxLen_eq
  have hmr := maxRows_eq
  refine forN_ok (L := fun m i s => laws_markIntS_l2_L k m K (laws_markIntS_l2_st i s)) (N := ((s.2).length : Int)) (body := laws_markIntS_l2_body) (done := laws_markIntS_l2_done) (fb := (fun i s c => c)) (fd := fun c => c) (Kb := fun m i => S.k (fun s' => laws_markIntS_l2_L k m K (laws_markIntS_l2_st (w64 (i + 1)) s')) (laws_markIntS_K K)) (Kd := (laws_markIntS_K K)) (K := (laws_markIntS_K K)) (fun i s' => s'.2.length = s.2.length) (fun m i s' hi => by rw [laws_markIntS_l2_step k m K i s', show decide (i < ((s'.2).length : Int)) = decide (i < ((s.2).length : Int)) by first | rw [hi] | rw [hi.1]]) hl ?hb ?hd ?hKb ?hKd _ k 0 s (by omega) rfl hk hi h
  case hb =>
    intro i s h0 hN hi
    refine ⟨?safe, ?pres⟩
    case safe =>
      try simp only [bne_eq_false_iff_eq, beq_iff_eq, decide_eq_false_iff_not, decide_eq_true_eq, Bool.and_eq_true, Bool.or_eq_false_iff, Bool.not_eq_eq_eq_not, Bool.not_true, Bool.not_false, beq_eq_false_iff_ne, bne_iff_ne, List.length_replicate, Int.toNat_natCast, List.length_set, List.length_map, List.length_append, List.length_cons, List.length_nil] at hi
      simp only [laws_markIntS_l2_body, T.safe, and_true, true_and, implies_true, bne_eq_false_iff_eq, beq_iff_eq, decide_eq_false_iff_not, decide_eq_true_eq, Bool.and_eq_true, Bool.or_eq_false_iff, Bool.not_eq_eq_eq_not, Bool.not_true, Bool.not_false, beq_eq_false_iff_ne, bne_iff_ne, List.length_replicate, Int.toNat_natCast, List.length_set, List.length_map, List.length_append, List.length_cons, List.length_nil, laws_toToldS_pre, spec_l1In, spec_l1In_T, T.val, Bool.cond_eq_ite, impl_in, impl_in_T]
      repeat' (first | exact trivial | apply And.intro | intro _)
      all_goals first | omega | (simp_all; done) | (simp_all; omega)
    case pres =>
      intro s' hs
      simp only [laws_markIntS_l2_body, T.val, Bool.cond_eq_ite] at hs
      repeat' split at hs
      all_goals first | (cases hs; done) | (cases hs; exact hi) | (cases hs; simp only [bne_eq_false_iff_eq, beq_iff_eq, decide_eq_false_iff_not, decide_eq_true_eq, Bool.and_eq_true, Bool.or_eq_false_iff, Bool.not_eq_eq_eq_not, Bool.not_true, Bool.not_false, beq_eq_false_iff_ne, bne_iff_ne, List.length_replicate, Int.toNat_natCast, List.length_set, List.length_map, List.length_append, List.length_cons, List.length_nil] at hi ⊢; first | exact hi | (simp_all; done) | omega)
  case hd =>
    intro s i h0 hN hi
    exact T.safe_free (by kernel_rfl)
  case hKb =>
    intro m i s h0 hN hi
    exact fun h => h
  case hKd =>
    intro s i h0 hN hi
    exact fun h => h
def laws_markIntS_T (a : List Int) (b : Int) : T (S (Int × (List Int)) (Int × (List Int))) :=
  .ret (.on (b, a))
def laws_markIntS (a : List Int) (b : Int) : Int × (List Int) := S.res (fun t => laws_markIntS_l2 t) (laws_markIntS_T a b).val
theorem laws_markIntS_start (a : List Int) (b : Int) (k : Nat) (K : Kont) : bodyA V24 (run V24 k 9) 25 k [AV.one (AC.own 0), AV.one (AC.int .i64 b)] [Blk.rows 3 .int a] (clean tab0 false 1 K) =
  (laws_markIntS_T a b).run (S.k (fun t => laws_markIntS_l2_L k k K (laws_markIntS_l2_st 0 t)) (laws_markIntS_K K)) := by kernel_rfl
theorem laws_markIntS_safe (a : List Int) (b : Int) (ok_a : okL (okD .int) a) (ok_b : i64 b) : (laws_markIntS_T a b).safe := by
  exact T.safe_free (by kernel_rfl)
theorem laws_markIntS_true (a : List Int) (b : Int) (ok_a : okL (okD .int) a) (ok_b : i64 b) (K : Kont) (h : (laws_markIntS_K K) (laws_markIntS a b) = true) : bodyA V24 (run V24 ((Int.toNat ((a.length : Int) - 0) + 1)) 9) 25 ((Int.toNat ((a.length : Int) - 0) + 1)) [AV.one (AC.own 0), AV.one (AC.int .i64 b)] [Blk.rows 3 .int a] (clean tab0 false 1 K) = true := by
  rw [laws_markIntS_start]
  refine T.run_true (laws_markIntS_safe a b ok_a ok_b) ?_
  have hml := maxLen_eq
  have hmr := maxRows_eq
  have q_a := (ok_a).1
  unfold laws_markIntS at h
  revert h
  cases hv : (laws_markIntS_T a b).val with
  | on t =>
    intro h
    simp only [S.res, S.res2, S.k] at h ⊢
    simp only [laws_markIntS_T, T.val, Bool.cond_eq_ite] at hv
    cases hv
    exact laws_markIntS_l2_ok _ K _ (by first | omega | (dsimp only; omega)) (by first | omega | (dsimp only; omega)) rfl h
  | out r => exact fun h => h
def laws_markIntS_go : List AV → List Blk → Kont → Bool
  | [AV.one (AC.own 0), .one (AC.int .i64 b)], [Blk.rows 3 .int a], K => laws_markIntS_K K (laws_markIntS a b)
  | _, _, _ => false
noncomputable def V25 : Env := V24.add 25 ⟨fun _ => true, [true], laws_markIntS_go⟩
theorem V25_ok : EnvOk V25 := by
  refine V24_ok.put hm 25 _ _ laws_markIntS_go (fun args B K h oka okb => ?_)
  unfold laws_markIntS_go at h
  split at h
  · rename_i b a
    have ok_a : okL (okD .int) a := okb _ (List.mem_of_getElem? (i := 0) rfl)
    have ok_b : i64 b := by have := oka _ (List.mem_of_getElem? (i := 1) rfl); exact wf_i64.1 this
    exact ⟨_, 9, false, laws_markIntS_true a b ok_a ok_b K h⟩
  · cases h
def laws_heldIntS_K (K : Kont) (r : Int) : Bool := K [AV.one (AC.int .i64 r)] []
noncomputable def laws_heldIntS_l2_L (k m : Nat) (K : Kont) (st : St) : Bool := iter tab0 0 (exC V25 (run V25 k 9) 0 26 k (fstC (fstC (sndC (fstC (sndC (bodyC V25.P 26))))))) [0, 1, 5] m st (kBlk 0 (kSeq (exC V25 (run V25 k 9) 0 26 k (sndC (sndC (bodyC V25.P 26)))) (kBody V25.P (resC V25.P 26) (clean tab0 false 0 K))))
def laws_heldIntS_l2_st (a : List Int) (i : Int) (s : Int) : St := ⟨[(0, AV.one (AC.dat .int a)), (1, AV.one (AC.int .i64 (s))), (5, AV.one (AC.int .i64 (i)))], []⟩
def laws_heldIntS_l2_body (a : List Int) (i : Int) (x : Int) (s : Int) : T (S (Int) (Int)) :=
  .grd (decide (0 ≤ i) && decide (i < (a.length : Int))) (.br ((x : Int) != s)
  (.ret (.out ((-1))))
  (.ret (.on (w64 (s + 1)))))
def laws_heldIntS_l2_done (a : List Int) (s : Int) : T (Int) :=
  .ret s
theorem laws_heldIntS_l2_step (a : List Int) (k m : Nat) (K : Kont) (i : Int) (s : Int) : laws_heldIntS_l2_L k (m + 1) K (laws_heldIntS_l2_st a i s) =
  br (decide (i < (a.length : Int))) ((laws_heldIntS_l2_body a i (elem .int a (Int.toNat i)) s).run (S.k (fun s' => laws_heldIntS_l2_L k m K (laws_heldIntS_l2_st a (w64 (i + 1)) s')) (laws_heldIntS_K K))) ((laws_heldIntS_l2_done a s).run (laws_heldIntS_K K)) := by kernel_rfl
def laws_heldIntS_l2 (a : List Int) (s : Int) : Int := forL (fun i x s => (laws_heldIntS_l2_body a i x s).val) (fun s => (laws_heldIntS_l2_done a s).val) a 0 s
theorem laws_heldIntS_l2_ok (a : List Int) (k : Nat) (K : Kont) (s : Int) (hl : a.length ≤ maxLen) (hk : a.length < k) (hi : (fun i s => True) 0 s) (h : (laws_heldIntS_K K) (laws_heldIntS_l2 a s) = true) : laws_heldIntS_l2_L k k K (laws_heldIntS_l2_st a 0 s) = true := by
  have hml := maxLen_eq
  have hmr := maxRows_eq
  refine forL_ok (L := fun m i s => laws_heldIntS_l2_L k m K (laws_heldIntS_l2_st a i s)) (l := a) (dv := dflt .int) (body := laws_heldIntS_l2_body a) (done := laws_heldIntS_l2_done a) (fb := (fun i x s c => c)) (fd := fun c => c) (Kb := fun m i => S.k (fun s' => laws_heldIntS_l2_L k m K (laws_heldIntS_l2_st a (w64 (i + 1)) s')) (laws_heldIntS_K K)) (Kd := (laws_heldIntS_K K)) (K := (laws_heldIntS_K K)) (fun m i s => laws_heldIntS_l2_step a k m K i s) (fun i s => True) hl ?hb ?hd ?hKb ?hKd _ k 0 s (by omega) rfl (by omega) (by simp; omega) hi h
  case hb =>
    intro i s h0 hN hi
    refine ⟨?safe, fun _ _ => trivial⟩
    case safe =>
      simp only [laws_heldIntS_l2_body, T.safe, and_true, true_and, implies_true, bne_eq_false_iff_eq, beq_iff_eq, decide_eq_false_iff_not, decide_eq_true_eq, Bool.and_eq_true, Bool.or_eq_false_iff, Bool.not_eq_eq_eq_not, Bool.not_true, Bool.not_false, beq_eq_false_iff_ne, bne_iff_ne, List.length_replicate, Int.toNat_natCast, List.length_set, List.length_map, List.length_append, List.length_cons, List.length_nil, laws_toToldS_pre, spec_l1In, spec_l1In_T, T.val, Bool.cond_eq_ite, impl_in, impl_in_T]
      repeat' (first | exact trivial | apply And.intro | intro _)
      all_goals first | omega | (simp_all; done) | (simp_all; omega)
  case hd =>
    intro s hi
    exact T.safe_free (by kernel_rfl)
  case hKb =>
    intro m i s h0 hN hi
    exact fun h => h
  case hKd =>
    intro s hi
    exact fun h => h
def laws_heldIntS_T (a : List Int) (b : Int) : T (S (Int) (Int)) :=
  .ret (.on b)
def laws_heldIntS (a : List Int) (b : Int) : Int := S.res (fun t => laws_heldIntS_l2 a t) (laws_heldIntS_T a b).val
theorem laws_heldIntS_start (a : List Int) (b : Int) (k : Nat) (K : Kont) : bodyA V25 (run V25 k 9) 26 k [AV.one (AC.dat .int a), AV.one (AC.int .i64 b)] [] (clean tab0 false 0 K) =
  (laws_heldIntS_T a b).run (S.k (fun t => laws_heldIntS_l2_L k k K (laws_heldIntS_l2_st a 0 t)) (laws_heldIntS_K K)) := by kernel_rfl
theorem laws_heldIntS_safe (a : List Int) (b : Int) (ok_a : okL (okD .int) a) (ok_b : i64 b) : (laws_heldIntS_T a b).safe := by
  exact T.safe_free (by kernel_rfl)
theorem laws_heldIntS_true (a : List Int) (b : Int) (ok_a : okL (okD .int) a) (ok_b : i64 b) (K : Kont) (h : (laws_heldIntS_K K) (laws_heldIntS a b) = true) : bodyA V25 (run V25 ((a.length + 1)) 9) 26 ((a.length + 1)) [AV.one (AC.dat .int a), AV.one (AC.int .i64 b)] [] (clean tab0 false 0 K) = true := by
  rw [laws_heldIntS_start]
  refine T.run_true (laws_heldIntS_safe a b ok_a ok_b) ?_
  have hml := maxLen_eq
  have hmr := maxRows_eq
  have q_a := (ok_a).1
  unfold laws_heldIntS at h
  revert h
  cases hv : (laws_heldIntS_T a b).val with
  | on t =>
    intro h
    simp only [S.res, S.res2, S.k] at h ⊢
    exact laws_heldIntS_l2_ok a _ K _ (by first | omega | (dsimp only; omega)) (by first | omega | (dsimp only; omega)) trivial h
  | out r => exact fun h => h
def laws_heldIntS_go : List AV → List Blk → Kont → Bool
  | [.one (AC.dat .int a), .one (AC.int .i64 b)], [], K => laws_heldIntS_K K (laws_heldIntS a b)
  | _, _, _ => false
noncomputable def V26 : Env := V25.add 26 ⟨fun _ => true, [], laws_heldIntS_go⟩
theorem V26_ok : EnvOk V26 := by
  refine V25_ok.put hm 26 _ _ laws_heldIntS_go (fun args B K h oka okb => ?_)
  unfold laws_heldIntS_go at h
  split at h
  · rename_i a b
    have ok_a : okL (okD .int) a := oka _ (List.mem_of_getElem? (i := 0) rfl)
    have ok_b : i64 b := by have := oka _ (List.mem_of_getElem? (i := 1) rfl); exact wf_i64.1 this
    exact ⟨_, 9, false, laws_heldIntS_true a b ok_a ok_b K h⟩
  · cases h
def laws_FnExactJudgeTally_K (K : Kont) (r : Bool) : Bool := K [AV.one (AC.bool r)] []
def laws_FnExactJudgeTally_T (a : List D.Told) (b : Int) : T (Bool) :=
  .br (decide (((laws_szToldS a 1048576) : Int) < 0))
  (.ret true)
  (let r1 : (List D.Told) := laws_toToldS a
   .grd (laws_toToldS_pre a) (let r2 : (List Int) := spec_JudgeTally r1 b
   let r3 : (List D.Told) := laws_toToldS a
   .grd (laws_toToldS_pre a) (let r4 : (List Int) := impl_JudgeTally r3 b
   .br (!(laws_eqIntS r4 r2))
   (.ret false)
   (let r5 : (List D.Told) := laws_toToldS a
    .grd (laws_toToldS_pre a) (.br (!(laws_eqToldS r3 r5))
    (.ret false)
    (let r6 : Int × (List D.Told) := laws_markToldS r3 1
     .br (decide ((r6.1 : Int) < 0))
     (.ret false)
     (.br (!(laws_eqIntS r4 r2))
      (.ret false)
      (let r7 : Int × (List Int) := laws_markIntS r4 1
       .br (decide (((laws_heldIntS r7.2 1) : Int) < 0))
       (.ret false)
       (.br (((laws_heldIntS r7.2 1) : Int) != r7.1)
        (.ret false)
        (let r8 : (List D.Told) := laws_toToldS a
         .grd (laws_toToldS_pre a) (let r9 : (List Int) := impl_JudgeTally r8 b
         .br (!(laws_eqIntS r9 r2))
         (.ret false)
         (.br (decide (((laws_heldIntS r7.2 1) : Int) < 0))
          (.ret false)
          (.br (((laws_heldIntS r7.2 1) : Int) != r7.1)
           (.ret false)
           (.ret true))))))))))))))
def laws_FnExactJudgeTally (a : List D.Told) (b : Int) : Bool := (laws_FnExactJudgeTally_T a b).val
theorem laws_FnExactJudgeTally_start (a : List D.Told) (b : Int) (k : Nat) : bodyA V26 (run V26 k 9) 6 k [AV.one (AC.dat .told a), AV.one (AC.int .i64 b)] [] isTrue =
  (laws_FnExactJudgeTally_T a b).run (fun r => r) := by kernel_rfl
theorem laws_FnExactJudgeTally_safe (a : List D.Told) (b : Int) (ok_a : okL (okD .told) a) (ok_b : i64 b) : (laws_FnExactJudgeTally_T a b).safe := by
  have hml := maxLen_eq
  have hmr := maxRows_eq
  have q_a := (ok_a).1
  have hz := szToldS_le a 1048576 q_a (by omega) (by omega)
  have hml := maxLen_eq
  have hmr := maxRows_eq
  simp only [laws_FnExactJudgeTally_T, T.safe, Bool.and_eq_true, decide_eq_true_eq, and_true, true_and, implies_true, laws_toToldS_pre, spec_l1In, spec_l1In_T, T.val, Bool.cond_eq_ite, impl_in, impl_in_T]
  repeat' (first | exact trivial | apply And.intro | intro _)
  all_goals first | omega | (simp_all; done) | (simp_all; omega)
theorem laws_FnExactJudgeTally_true (a : List D.Told) (b : Int) (ok_a : okL (okD .told) a) (ok_b : i64 b) (h : laws_FnExactJudgeTally a b = true) : bodyA V26 (run V26 (0) 9) 6 (0) [AV.one (AC.dat .told a), AV.one (AC.int .i64 b)] [] isTrue = true := by
  rw [laws_FnExactJudgeTally_start]
  exact T.run_true (laws_FnExactJudgeTally_safe a b ok_a ok_b) h
def spec_TellsOf_K (K : Kont) (r : (List D.Told)) : Bool := K [AV.one (AC.own 0)] [Blk.rows 61 .told r]
noncomputable def spec_TellsOf_l3_L (k m : Nat) (K : Kont) (st : St) : Bool := iter tab0 0 (exC V26 (run V26 k 9) 0 27 k (fstC (fstC (sndC (fstC (sndC (sndC (bodyC V26.P 27)))))))) [0, 1, 5, 6] m st (kBlk 0 (kSeq (exC V26 (run V26 k 9) 0 27 k (sndC (sndC (sndC (bodyC V26.P 27))))) (kBody V26.P (resC V26.P 27) (clean tab0 false 0 K))))
def spec_TellsOf_l3_st (a : List D.Told) (b : Int) (i : Int) (s : (List D.Told)) : St := ⟨[(0, AV.one (AC.dat .told a)), (1, AV.one (AC.int .i64 b)), (5, AV.one (AC.own 0)), (6, AV.one (AC.int .i64 (i)))], [Blk.rows 61 .told (s)]⟩
def spec_TellsOf_l3_body (a : List D.Told) (b : Int) (i : Int) (x : D.Told) (s : (List D.Told)) : T (S ((List D.Told)) ((List D.Told))) :=
  .br (decide (((a.length : Int) : Int) ≤ 200))
  (.grd (decide (0 ≤ i) && decide (i < (a.length : Int))) (.br ((x.node : Int) == b)
   (.grd (decide (0 ≤ i) && decide (i < (a.length : Int))) (.grd (decide (((s).length + 1) * 72 ≤ maxRows)) (.ret (.on (s ++ [x])))))
   (.ret (.on s))))
  (.ret (.out (s)))
def spec_TellsOf_l3_done (a : List D.Told) (b : Int) (s : (List D.Told)) : T ((List D.Told)) :=
  .ret s
theorem spec_TellsOf_l3_step (a : List D.Told) (b : Int) (k m : Nat) (K : Kont) (i : Int) (s : (List D.Told)) : spec_TellsOf_l3_L k (m + 1) K (spec_TellsOf_l3_st a b i s) =
  br (decide (i < (a.length : Int))) ((spec_TellsOf_l3_body a b i (elem .told a (Int.toNat i)) s).run (S.k (fun s' => spec_TellsOf_l3_L k m K (spec_TellsOf_l3_st a b (w64 (i + 1)) s')) (spec_TellsOf_K K))) ((spec_TellsOf_l3_done a b s).run (spec_TellsOf_K K)) := by kernel_rfl
def spec_TellsOf_l3 (a : List D.Told) (b : Int) (s : (List D.Told)) : (List D.Told) := forL (fun i x s => (spec_TellsOf_l3_body a b i x s).val) (fun s => (spec_TellsOf_l3_done a b s).val) a 0 s
theorem spec_TellsOf_l3_ok (a : List D.Told) (b : Int) (k : Nat) (K : Kont) (s : (List D.Told)) (hl : a.length ≤ maxLen) (hk : a.length < k) (hi : (fun i s => (s.length : Int) ≤ (([] : List D.Told).length : Int) + i) 0 s) (h : (spec_TellsOf_K K) (spec_TellsOf_l3 a b s) = true) : spec_TellsOf_l3_L k k K (spec_TellsOf_l3_st a b 0 s) = true := by
  have hml := maxLen_eq
  have hmr := maxRows_eq
  refine forL_ok (L := fun m i s => spec_TellsOf_l3_L k m K (spec_TellsOf_l3_st a b i s)) (l := a) (dv := dflt .told) (body := spec_TellsOf_l3_body a b) (done := spec_TellsOf_l3_done a b) (fb := (fun i x s c => c)) (fd := fun c => c) (Kb := fun m i => S.k (fun s' => spec_TellsOf_l3_L k m K (spec_TellsOf_l3_st a b (w64 (i + 1)) s')) (spec_TellsOf_K K)) (Kd := (spec_TellsOf_K K)) (K := (spec_TellsOf_K K)) (fun m i s => spec_TellsOf_l3_step a b k m K i s) (fun i s => (s.length : Int) ≤ (([] : List D.Told).length : Int) + i) hl ?hb ?hd ?hKb ?hKd _ k 0 s (by omega) rfl (by omega) (by simp; omega) hi h
  case hb =>
    intro i s h0 hN hi
    refine ⟨?safe, ?pres⟩
    case safe =>
      try simp only [bne_eq_false_iff_eq, beq_iff_eq, decide_eq_false_iff_not, decide_eq_true_eq, Bool.and_eq_true, Bool.or_eq_false_iff, Bool.not_eq_eq_eq_not, Bool.not_true, Bool.not_false, beq_eq_false_iff_ne, bne_iff_ne, List.length_replicate, Int.toNat_natCast, List.length_set, List.length_map, List.length_append, List.length_cons, List.length_nil] at hi
      simp only [spec_TellsOf_l3_body, T.safe, and_true, true_and, implies_true, bne_eq_false_iff_eq, beq_iff_eq, decide_eq_false_iff_not, decide_eq_true_eq, Bool.and_eq_true, Bool.or_eq_false_iff, Bool.not_eq_eq_eq_not, Bool.not_true, Bool.not_false, beq_eq_false_iff_ne, bne_iff_ne, List.length_replicate, Int.toNat_natCast, List.length_set, List.length_map, List.length_append, List.length_cons, List.length_nil, laws_toToldS_pre, spec_l1In, spec_l1In_T, T.val, Bool.cond_eq_ite, impl_in, impl_in_T]
      repeat' (first | exact trivial | apply And.intro | intro _)
      all_goals first | omega | (simp_all; done) | (simp_all; omega)
    case pres =>
      intro s' hs
      simp only [spec_TellsOf_l3_body, T.val, Bool.cond_eq_ite] at hs
      repeat' split at hs
      all_goals first | (cases hs; done) | (cases hs; exact hi) | (cases hs; simp only [bne_eq_false_iff_eq, beq_iff_eq, decide_eq_false_iff_not, decide_eq_true_eq, Bool.and_eq_true, Bool.or_eq_false_iff, Bool.not_eq_eq_eq_not, Bool.not_true, Bool.not_false, beq_eq_false_iff_ne, bne_iff_ne, List.length_replicate, Int.toNat_natCast, List.length_set, List.length_map, List.length_append, List.length_cons, List.length_nil] at hi ⊢; first | exact hi | (simp_all; done) | omega)
  case hd =>
    intro s hi
    exact T.safe_free (by kernel_rfl)
  case hKb =>
    intro m i s h0 hN hi
    exact fun h => h
  case hKd =>
    intro s hi
    exact fun h => h
def spec_TellsOf_T (a : List D.Told) (b : Int) : T (S ((List D.Told)) ((List D.Told))) :=
  .ret (.on [])
def spec_TellsOf (a : List D.Told) (b : Int) : (List D.Told) := S.res (fun t => spec_TellsOf_l3 a b t) (spec_TellsOf_T a b).val
theorem spec_TellsOf_start (a : List D.Told) (b : Int) (k : Nat) (K : Kont) : bodyA V26 (run V26 k 9) 27 k [AV.one (AC.dat .told a), AV.one (AC.int .i64 b)] [] (clean tab0 false 0 K) =
  (spec_TellsOf_T a b).run (S.k (fun t => spec_TellsOf_l3_L k k K (spec_TellsOf_l3_st a b 0 t)) (spec_TellsOf_K K)) := by kernel_rfl
theorem spec_TellsOf_safe (a : List D.Told) (b : Int) (ok_a : okL (okD .told) a) (ok_b : i64 b) : (spec_TellsOf_T a b).safe := by
  exact T.safe_free (by kernel_rfl)
theorem spec_TellsOf_true (a : List D.Told) (b : Int) (ok_a : okL (okD .told) a) (ok_b : i64 b) (K : Kont) (h : (spec_TellsOf_K K) (spec_TellsOf a b) = true) : bodyA V26 (run V26 ((a.length + 1)) 9) 27 ((a.length + 1)) [AV.one (AC.dat .told a), AV.one (AC.int .i64 b)] [] (clean tab0 false 0 K) = true := by
  rw [spec_TellsOf_start]
  refine T.run_true (spec_TellsOf_safe a b ok_a ok_b) ?_
  have hml := maxLen_eq
  have hmr := maxRows_eq
  have q_a := (ok_a).1
  unfold spec_TellsOf at h
  revert h
  cases hv : (spec_TellsOf_T a b).val with
  | on t =>
    intro h
    simp only [S.res, S.res2, S.k] at h ⊢
    exact spec_TellsOf_l3_ok a b _ K _ (by first | omega | (dsimp only; omega)) (by first | omega | (dsimp only; omega)) (by simp only [spec_TellsOf_T, T.val, Bool.cond_eq_ite] at hv; (repeat' split at hv) <;> first | (cases hv; done) | (cases hv; rfl) | (cases hv; simp_all; done) | (cases hv; simp_all; omega) | (cases hv; simp only [bne_eq_false_iff_eq, beq_iff_eq, decide_eq_false_iff_not, decide_eq_true_eq, Bool.and_eq_true, Bool.or_eq_false_iff, Bool.not_eq_eq_eq_not, Bool.not_true, Bool.not_false, beq_eq_false_iff_ne, bne_iff_ne, List.length_replicate, Int.toNat_natCast, List.length_set, List.length_map, List.length_append, List.length_cons, List.length_nil]; omega)) h
  | out r => exact fun h => h
def spec_TellsOf_go : List AV → List Blk → Kont → Bool
  | [.one (AC.dat .told a), .one (AC.int .i64 b)], [], K => spec_TellsOf_K K (spec_TellsOf a b)
  | _, _, _ => false
noncomputable def V27 : Env := V26.add 27 ⟨fun _ => true, [], spec_TellsOf_go⟩
theorem V27_ok : EnvOk V27 := by
  refine V26_ok.put hm 27 _ _ spec_TellsOf_go (fun args B K h oka okb => ?_)
  unfold spec_TellsOf_go at h
  split at h
  · rename_i a b
    have ok_a : okL (okD .told) a := oka _ (List.mem_of_getElem? (i := 0) rfl)
    have ok_b : i64 b := by have := oka _ (List.mem_of_getElem? (i := 1) rfl); exact wf_i64.1 this
    exact ⟨_, 9, false, spec_TellsOf_true a b ok_a ok_b K h⟩
  · cases h
def impl_ofNode_K (K : Kont) (r : (List D.Told)) : Bool := K [AV.one (AC.own 0)] [Blk.rows 61 .told r]
def impl_ofNode_pre (a : List D.Told) (b : Int) : Bool := decide (a.length ≤ 1048576)
noncomputable def impl_ofNode_l3_L (k m : Nat) (K : Kont) (st : St) : Bool := iter tab0 0 (exC V27 (run V27 k 9) 0 54 k (fstC (fstC (sndC (fstC (sndC (sndC (bodyC V27.P 54)))))))) [1, 5, 9, 10, 11] m st (kBlk 0 (kSeq (exC V27 (run V27 k 9) 0 54 k (sndC (sndC (sndC (bodyC V27.P 54))))) (kBody V27.P (resC V27.P 54) (clean tab0 false 0 K))))
def impl_ofNode_l3_st (a : List D.Told) (b : Int) (i : Int) (s : (List D.Told)) : St := ⟨[(1, AV.one (AC.int .i64 b)), (5, AV.one (AC.own 0)), (9, AV.one (AC.dat .told a)), (10, AV.one (AC.int .i64 (a.length : Int))), (11, AV.one (AC.int .i64 (i)))], [Blk.rows 61 .told (s)]⟩
def impl_ofNode_l3_body (a : List D.Told) (b : Int) (i : Int) (x : D.Told) (s : (List D.Told)) : T (S ((List D.Told)) ((List D.Told))) :=
  .grd (decide (0 ≤ i) && decide (i < (a.length : Int))) (.br ((x.node : Int) == b)
  (.grd (decide (((s).length + 1) * 72 ≤ maxRows)) (.ret (.on (s ++ [x]))))
  (.ret (.on s)))
def impl_ofNode_l3_done (a : List D.Told) (b : Int) (s : (List D.Told)) : T ((List D.Told)) :=
  .ret s
theorem impl_ofNode_l3_step (a : List D.Told) (b : Int) (k m : Nat) (K : Kont) (i : Int) (s : (List D.Told)) : impl_ofNode_l3_L k (m + 1) K (impl_ofNode_l3_st a b i s) =
  br (decide (i < (a.length : Int))) ((impl_ofNode_l3_body a b i (elem .told a (Int.toNat i)) s).run (S.k (fun s' => impl_ofNode_l3_L k m K (impl_ofNode_l3_st a b (w64 (i + 1)) s')) (impl_ofNode_K K))) ((impl_ofNode_l3_done a b s).run (impl_ofNode_K K)) := by kernel_rfl
def impl_ofNode_l3 (a : List D.Told) (b : Int) (s : (List D.Told)) : (List D.Told) := forL (fun i x s => (impl_ofNode_l3_body a b i x s).val) (fun s => (impl_ofNode_l3_done a b s).val) a 0 s
theorem impl_ofNode_l3_ok (a : List D.Told) (b : Int) (k : Nat) (K : Kont) (s : (List D.Told)) (hl : a.length ≤ maxLen) (hp : impl_ofNode_pre a b = true) (hk : a.length < k) (hi : (fun i s => (s.length : Int) ≤ (([] : List D.Told).length : Int) + i) 0 s) (h : (impl_ofNode_K K) (impl_ofNode_l3 a b s) = true) : impl_ofNode_l3_L k k K (impl_ofNode_l3_st a b 0 s) = true := by
  have hml := maxLen_eq
  have hmr := maxRows_eq
  have hpp := hp
  simp only [impl_ofNode_pre, Bool.and_eq_true, decide_eq_true_eq] at hpp
  refine forL_ok (L := fun m i s => impl_ofNode_l3_L k m K (impl_ofNode_l3_st a b i s)) (l := a) (dv := dflt .told) (body := impl_ofNode_l3_body a b) (done := impl_ofNode_l3_done a b) (fb := (fun i x s c => c)) (fd := fun c => c) (Kb := fun m i => S.k (fun s' => impl_ofNode_l3_L k m K (impl_ofNode_l3_st a b (w64 (i + 1)) s')) (impl_ofNode_K K)) (Kd := (impl_ofNode_K K)) (K := (impl_ofNode_K K)) (fun m i s => impl_ofNode_l3_step a b k m K i s) (fun i s => (s.length : Int) ≤ (([] : List D.Told).length : Int) + i) hl ?hb ?hd ?hKb ?hKd _ k 0 s (by omega) rfl (by omega) (by simp; omega) hi h
  case hb =>
    intro i s h0 hN hi
    refine ⟨?safe, ?pres⟩
    case safe =>
      try simp only [bne_eq_false_iff_eq, beq_iff_eq, decide_eq_false_iff_not, decide_eq_true_eq, Bool.and_eq_true, Bool.or_eq_false_iff, Bool.not_eq_eq_eq_not, Bool.not_true, Bool.not_false, beq_eq_false_iff_ne, bne_iff_ne, List.length_replicate, Int.toNat_natCast, List.length_set, List.length_map, List.length_append, List.length_cons, List.length_nil] at hi
      simp only [impl_ofNode_l3_body, T.safe, and_true, true_and, implies_true, bne_eq_false_iff_eq, beq_iff_eq, decide_eq_false_iff_not, decide_eq_true_eq, Bool.and_eq_true, Bool.or_eq_false_iff, Bool.not_eq_eq_eq_not, Bool.not_true, Bool.not_false, beq_eq_false_iff_ne, bne_iff_ne, List.length_replicate, Int.toNat_natCast, List.length_set, List.length_map, List.length_append, List.length_cons, List.length_nil, laws_toToldS_pre, spec_l1In, spec_l1In_T, T.val, Bool.cond_eq_ite, impl_in, impl_in_T, impl_ofNode_pre]
      repeat' (first | exact trivial | apply And.intro | intro _)
      all_goals first | omega | (simp_all; done) | (simp_all; omega)
    case pres =>
      intro s' hs
      simp only [impl_ofNode_l3_body, T.val, Bool.cond_eq_ite] at hs
      repeat' split at hs
      all_goals first | (cases hs; done) | (cases hs; exact hi) | (cases hs; simp only [bne_eq_false_iff_eq, beq_iff_eq, decide_eq_false_iff_not, decide_eq_true_eq, Bool.and_eq_true, Bool.or_eq_false_iff, Bool.not_eq_eq_eq_not, Bool.not_true, Bool.not_false, beq_eq_false_iff_ne, bne_iff_ne, List.length_replicate, Int.toNat_natCast, List.length_set, List.length_map, List.length_append, List.length_cons, List.length_nil] at hi ⊢; first | exact hi | (simp_all; done) | omega)
  case hd =>
    intro s hi
    exact T.safe_free (by kernel_rfl)
  case hKb =>
    intro m i s h0 hN hi
    exact fun h => h
  case hKd =>
    intro s hi
    exact fun h => h
def impl_ofNode_T (a : List D.Told) (b : Int) : T (S ((List D.Told)) ((List D.Told))) :=
  .ret (.on [])
def impl_ofNode (a : List D.Told) (b : Int) : (List D.Told) := S.res (fun t => impl_ofNode_l3 a b t) (impl_ofNode_T a b).val
theorem impl_ofNode_start (a : List D.Told) (b : Int) (k : Nat) (K : Kont) : bodyA V27 (run V27 k 9) 54 k [AV.one (AC.dat .told a), AV.one (AC.int .i64 b)] [] (clean tab0 false 0 K) =
  (impl_ofNode_T a b).run (S.k (fun t => impl_ofNode_l3_L k k K (impl_ofNode_l3_st a b 0 t)) (impl_ofNode_K K)) := by kernel_rfl
theorem impl_ofNode_safe (a : List D.Told) (b : Int) (ok_a : okL (okD .told) a) (ok_b : i64 b) (hp : impl_ofNode_pre a b = true) : (impl_ofNode_T a b).safe := by
  exact T.safe_free (by kernel_rfl)
theorem impl_ofNode_true (a : List D.Told) (b : Int) (ok_a : okL (okD .told) a) (ok_b : i64 b) (hp : impl_ofNode_pre a b = true) (K : Kont) (h : (impl_ofNode_K K) (impl_ofNode a b) = true) : bodyA V27 (run V27 ((a.length + 1)) 9) 54 ((a.length + 1)) [AV.one (AC.dat .told a), AV.one (AC.int .i64 b)] [] (clean tab0 false 0 K) = true := by
  rw [impl_ofNode_start]
  refine T.run_true (impl_ofNode_safe a b ok_a ok_b hp) ?_
  have hml := maxLen_eq
  have hmr := maxRows_eq
  have q_a := (ok_a).1
  have hpp := hp
  simp only [impl_ofNode_pre, Bool.and_eq_true, decide_eq_true_eq] at hpp
  unfold impl_ofNode at h
  revert h
  cases hv : (impl_ofNode_T a b).val with
  | on t =>
    intro h
    simp only [S.res, S.res2, S.k] at h ⊢
    exact impl_ofNode_l3_ok a b _ K _ (by first | omega | (dsimp only; omega)) hp (by first | omega | (dsimp only; omega)) (by simp only [impl_ofNode_T, T.val, Bool.cond_eq_ite] at hv; (repeat' split at hv) <;> first | (cases hv; done) | (cases hv; rfl) | (cases hv; simp_all; done) | (cases hv; simp_all; omega) | (cases hv; simp only [bne_eq_false_iff_eq, beq_iff_eq, decide_eq_false_iff_not, decide_eq_true_eq, Bool.and_eq_true, Bool.or_eq_false_iff, Bool.not_eq_eq_eq_not, Bool.not_true, Bool.not_false, beq_eq_false_iff_ne, bne_iff_ne, List.length_replicate, Int.toNat_natCast, List.length_set, List.length_map, List.length_append, List.length_cons, List.length_nil]; omega)) h
  | out r => exact fun h => h
def impl_ofNode_go : List AV → List Blk → Kont → Bool
  | [.one (AC.dat .told a), .one (AC.int .i64 b)], [], K => grd (impl_ofNode_pre a b) (impl_ofNode_K K (impl_ofNode a b))
  | _, _, _ => false
noncomputable def V54 : Env := V27.add 54 ⟨fun _ => true, [], impl_ofNode_go⟩
theorem V54_ok : EnvOk V54 := by
  refine V27_ok.put hm 54 _ _ impl_ofNode_go (fun args B K h oka okb => ?_)
  unfold impl_ofNode_go at h
  split at h
  · rename_i a b
    have ok_a : okL (okD .told) a := oka _ (List.mem_of_getElem? (i := 0) rfl)
    have ok_b : i64 b := by have := oka _ (List.mem_of_getElem? (i := 1) rfl); exact wf_i64.1 this
    obtain ⟨hp, h⟩ := grd_ok h
    exact ⟨_, 9, false, impl_ofNode_true a b ok_a ok_b hp K h⟩
  · cases h
def impl_TellsOf_K (K : Kont) (r : (List D.Told)) : Bool := K [AV.one (AC.own 0)] [Blk.rows 61 .told r]
def impl_TellsOf_T (a : List D.Told) (b : Int) : T ((List D.Told)) :=
  .br (decide ((200 : Int) < (a.length : Int)))
  (.ret [])
  (let r1 : (List D.Told) := impl_ofNode a b
   .grd (impl_ofNode_pre a b) (.ret r1))
def impl_TellsOf (a : List D.Told) (b : Int) : (List D.Told) := (impl_TellsOf_T a b).val
theorem impl_TellsOf_start (a : List D.Told) (b : Int) (k : Nat) (K : Kont) : bodyA V54 (run V54 k 9) 28 k [AV.one (AC.dat .told a), AV.one (AC.int .i64 b)] [] (clean tab0 false 0 K) =
  (impl_TellsOf_T a b).run (impl_TellsOf_K K) := by kernel_rfl
theorem impl_TellsOf_safe (a : List D.Told) (b : Int) (ok_a : okL (okD .told) a) (ok_b : i64 b) : (impl_TellsOf_T a b).safe := by
  have hml := maxLen_eq
  have hmr := maxRows_eq
  have q_a := (ok_a).1
  have hml := maxLen_eq
  have hmr := maxRows_eq
  simp only [impl_TellsOf_T, T.safe, Bool.and_eq_true, decide_eq_true_eq, and_true, true_and, implies_true, laws_toToldS_pre, spec_l1In, spec_l1In_T, T.val, Bool.cond_eq_ite, impl_in, impl_in_T, impl_ofNode_pre]
  repeat' (first | exact trivial | apply And.intro | intro _)
  all_goals first | omega | (simp_all; done) | (simp_all; omega)
theorem impl_TellsOf_true (a : List D.Told) (b : Int) (ok_a : okL (okD .told) a) (ok_b : i64 b) (K : Kont) (h : (impl_TellsOf_K K) (impl_TellsOf a b) = true) : bodyA V54 (run V54 (0) 9) 28 (0) [AV.one (AC.dat .told a), AV.one (AC.int .i64 b)] [] (clean tab0 false 0 K) = true := by
  rw [impl_TellsOf_start]
  refine T.run_true (impl_TellsOf_safe a b ok_a ok_b) ?_
  exact h
def impl_TellsOf_go : List AV → List Blk → Kont → Bool
  | [.one (AC.dat .told a), .one (AC.int .i64 b)], [], K => impl_TellsOf_K K (impl_TellsOf a b)
  | _, _, _ => false
noncomputable def V28 : Env := V54.add 28 ⟨fun _ => true, [], impl_TellsOf_go⟩
theorem V28_ok : EnvOk V28 := by
  refine V54_ok.put hm 28 _ _ impl_TellsOf_go (fun args B K h oka okb => ?_)
  unfold impl_TellsOf_go at h
  split at h
  · rename_i a b
    have ok_a : okL (okD .told) a := oka _ (List.mem_of_getElem? (i := 0) rfl)
    have ok_b : i64 b := by have := oka _ (List.mem_of_getElem? (i := 1) rfl); exact wf_i64.1 this
    exact ⟨_, 9, false, impl_TellsOf_true a b ok_a ok_b K h⟩
  · cases h
def laws_heldToldS_K (K : Kont) (r : Int) : Bool := K [AV.one (AC.int .i64 r)] []
noncomputable def laws_heldToldS_l2_L (k m : Nat) (K : Kont) (st : St) : Bool := iter tab0 0 (exC V28 (run V28 k 9) 0 29 k (fstC (fstC (sndC (fstC (sndC (bodyC V28.P 29))))))) [0, 1, 5] m st (kBlk 0 (kSeq (exC V28 (run V28 k 9) 0 29 k (sndC (sndC (bodyC V28.P 29)))) (kBody V28.P (resC V28.P 29) (clean tab0 false 0 K))))
def laws_heldToldS_l2_st (a : List D.Told) (i : Int) (s : Int) : St := ⟨[(0, AV.one (AC.dat .told a)), (1, AV.one (AC.int .i64 (s))), (5, AV.one (AC.int .i64 (i)))], []⟩
def laws_heldToldS_l2_body (a : List D.Told) (i : Int) (x : D.Told) (s : Int) : T (S (Int) (Int)) :=
  .grd (decide (0 ≤ i) && decide (i < (a.length : Int))) (.br ((x.kind : Int) != s)
  (.ret (.out ((-1))))
  (.grd (decide (0 ≤ i) && decide (i < (a.length : Int))) (.br ((x.node : Int) != (w64 (s + 1)))
   (.ret (.out ((-1))))
   (.grd (decide (0 ≤ i) && decide (i < (a.length : Int))) (.br ((x.code : Int) != (w64 ((w64 (s + 1)) + 1)))
    (.ret (.out ((-1))))
    (.grd (decide (0 ≤ i) && decide (i < (a.length : Int))) (.br ((x.value : Int) != (w64 ((w64 ((w64 (s + 1)) + 1)) + 1)))
     (.ret (.out ((-1))))
     (.grd (decide (0 ≤ i) && decide (i < (a.length : Int))) (.br (!(x.holds == (((Int.tmod (w64 ((w64 ((w64 ((w64 (s + 1)) + 1)) + 1)) + 1)) 3) : Int) == 0)))
      (.ret (.out ((-1))))
      (.grd (decide (0 ≤ i) && decide (i < (a.length : Int))) (.br (!(x.known == (((Int.tmod (w64 ((w64 ((w64 ((w64 ((w64 (s + 1)) + 1)) + 1)) + 1)) + 1)) 3) : Int) == 0)))
       (.ret (.out ((-1))))
       (.grd (decide (0 ≤ i) && decide (i < (a.length : Int))) (.br ((x.was.lo : Int) != (w64 ((w64 ((w64 ((w64 ((w64 ((w64 (s + 1)) + 1)) + 1)) + 1)) + 1)) + 1)))
        (.ret (.out ((-1))))
        (.grd (decide (0 ≤ i) && decide (i < (a.length : Int))) (.br ((x.was.hi : Int) != (w64 ((w64 ((w64 ((w64 ((w64 ((w64 ((w64 (s + 1)) + 1)) + 1)) + 1)) + 1)) + 1)) + 1)))
         (.ret (.out ((-1))))
         (.grd (decide (0 ≤ i) && decide (i < (a.length : Int))) (.br ((x.now.lo : Int) != (w64 ((w64 ((w64 ((w64 ((w64 ((w64 ((w64 ((w64 (s + 1)) + 1)) + 1)) + 1)) + 1)) + 1)) + 1)) + 1)))
          (.ret (.out ((-1))))
          (.grd (decide (0 ≤ i) && decide (i < (a.length : Int))) (.br ((x.now.hi : Int) != (w64 ((w64 ((w64 ((w64 ((w64 ((w64 ((w64 ((w64 ((w64 (s + 1)) + 1)) + 1)) + 1)) + 1)) + 1)) + 1)) + 1)) + 1)))
           (.ret (.out ((-1))))
           (.ret (.on (w64 ((w64 ((w64 ((w64 ((w64 ((w64 ((w64 ((w64 ((w64 ((w64 (s + 1)) + 1)) + 1)) + 1)) + 1)) + 1)) + 1)) + 1)) + 1)) + 1)))))))))))))))))))))))
def laws_heldToldS_l2_done (a : List D.Told) (s : Int) : T (Int) :=
  .ret s
theorem laws_heldToldS_l2_step (a : List D.Told) (k m : Nat) (K : Kont) (i : Int) (s : Int) : laws_heldToldS_l2_L k (m + 1) K (laws_heldToldS_l2_st a i s) =
  br (decide (i < (a.length : Int))) ((laws_heldToldS_l2_body a i (elem .told a (Int.toNat i)) s).run (S.k (fun s' => laws_heldToldS_l2_L k m K (laws_heldToldS_l2_st a (w64 (i + 1)) s')) (laws_heldToldS_K K))) ((laws_heldToldS_l2_done a s).run (laws_heldToldS_K K)) := by kernel_rfl
def laws_heldToldS_l2 (a : List D.Told) (s : Int) : Int := forL (fun i x s => (laws_heldToldS_l2_body a i x s).val) (fun s => (laws_heldToldS_l2_done a s).val) a 0 s
theorem laws_heldToldS_l2_ok (a : List D.Told) (k : Nat) (K : Kont) (s : Int) (hl : a.length ≤ maxLen) (hk : a.length < k) (hi : (fun i s => True) 0 s) (h : (laws_heldToldS_K K) (laws_heldToldS_l2 a s) = true) : laws_heldToldS_l2_L k k K (laws_heldToldS_l2_st a 0 s) = true := by
  have hml := maxLen_eq
  have hmr := maxRows_eq
  refine forL_ok (L := fun m i s => laws_heldToldS_l2_L k m K (laws_heldToldS_l2_st a i s)) (l := a) (dv := dflt .told) (body := laws_heldToldS_l2_body a) (done := laws_heldToldS_l2_done a) (fb := (fun i x s c => c)) (fd := fun c => c) (Kb := fun m i => S.k (fun s' => laws_heldToldS_l2_L k m K (laws_heldToldS_l2_st a (w64 (i + 1)) s')) (laws_heldToldS_K K)) (Kd := (laws_heldToldS_K K)) (K := (laws_heldToldS_K K)) (fun m i s => laws_heldToldS_l2_step a k m K i s) (fun i s => True) hl ?hb ?hd ?hKb ?hKd _ k 0 s (by omega) rfl (by omega) (by simp; omega) hi h
  case hb =>
    intro i s h0 hN hi
    refine ⟨?safe, fun _ _ => trivial⟩
    case safe =>
      simp only [laws_heldToldS_l2_body, T.safe, and_true, true_and, implies_true, bne_eq_false_iff_eq, beq_iff_eq, decide_eq_false_iff_not, decide_eq_true_eq, Bool.and_eq_true, Bool.or_eq_false_iff, Bool.not_eq_eq_eq_not, Bool.not_true, Bool.not_false, beq_eq_false_iff_ne, bne_iff_ne, List.length_replicate, Int.toNat_natCast, List.length_set, List.length_map, List.length_append, List.length_cons, List.length_nil, laws_toToldS_pre, spec_l1In, spec_l1In_T, T.val, Bool.cond_eq_ite, impl_in, impl_in_T, impl_ofNode_pre]
      repeat' (first | exact trivial | apply And.intro | intro _)
      all_goals first | omega | (simp_all; done) | (simp_all; omega)
  case hd =>
    intro s hi
    exact T.safe_free (by kernel_rfl)
  case hKb =>
    intro m i s h0 hN hi
    exact fun h => h
  case hKd =>
    intro s hi
    exact fun h => h
def laws_heldToldS_T (a : List D.Told) (b : Int) : T (S (Int) (Int)) :=
  .ret (.on b)
def laws_heldToldS (a : List D.Told) (b : Int) : Int := S.res (fun t => laws_heldToldS_l2 a t) (laws_heldToldS_T a b).val
theorem laws_heldToldS_start (a : List D.Told) (b : Int) (k : Nat) (K : Kont) : bodyA V28 (run V28 k 9) 29 k [AV.one (AC.dat .told a), AV.one (AC.int .i64 b)] [] (clean tab0 false 0 K) =
  (laws_heldToldS_T a b).run (S.k (fun t => laws_heldToldS_l2_L k k K (laws_heldToldS_l2_st a 0 t)) (laws_heldToldS_K K)) := by kernel_rfl
theorem laws_heldToldS_safe (a : List D.Told) (b : Int) (ok_a : okL (okD .told) a) (ok_b : i64 b) : (laws_heldToldS_T a b).safe := by
  exact T.safe_free (by kernel_rfl)
theorem laws_heldToldS_true (a : List D.Told) (b : Int) (ok_a : okL (okD .told) a) (ok_b : i64 b) (K : Kont) (h : (laws_heldToldS_K K) (laws_heldToldS a b) = true) : bodyA V28 (run V28 ((a.length + 1)) 9) 29 ((a.length + 1)) [AV.one (AC.dat .told a), AV.one (AC.int .i64 b)] [] (clean tab0 false 0 K) = true := by
  rw [laws_heldToldS_start]
  refine T.run_true (laws_heldToldS_safe a b ok_a ok_b) ?_
  have hml := maxLen_eq
  have hmr := maxRows_eq
  have q_a := (ok_a).1
  unfold laws_heldToldS at h
  revert h
  cases hv : (laws_heldToldS_T a b).val with
  | on t =>
    intro h
    simp only [S.res, S.res2, S.k] at h ⊢
    exact laws_heldToldS_l2_ok a _ K _ (by first | omega | (dsimp only; omega)) (by first | omega | (dsimp only; omega)) trivial h
  | out r => exact fun h => h
def laws_heldToldS_go : List AV → List Blk → Kont → Bool
  | [.one (AC.dat .told a), .one (AC.int .i64 b)], [], K => laws_heldToldS_K K (laws_heldToldS a b)
  | _, _, _ => false
noncomputable def V29 : Env := V28.add 29 ⟨fun _ => true, [], laws_heldToldS_go⟩
theorem V29_ok : EnvOk V29 := by
  refine V28_ok.put hm 29 _ _ laws_heldToldS_go (fun args B K h oka okb => ?_)
  unfold laws_heldToldS_go at h
  split at h
  · rename_i a b
    have ok_a : okL (okD .told) a := oka _ (List.mem_of_getElem? (i := 0) rfl)
    have ok_b : i64 b := by have := oka _ (List.mem_of_getElem? (i := 1) rfl); exact wf_i64.1 this
    exact ⟨_, 9, false, laws_heldToldS_true a b ok_a ok_b K h⟩
  · cases h
def laws_FnExactTellsOf_K (K : Kont) (r : Bool) : Bool := K [AV.one (AC.bool r)] []
def laws_FnExactTellsOf_T (a : List D.Told) (b : Int) : T (Bool) :=
  .br (decide (((laws_szToldS a 1048576) : Int) < 0))
  (.ret true)
  (let r1 : (List D.Told) := laws_toToldS a
   .grd (laws_toToldS_pre a) (let r2 : (List D.Told) := spec_TellsOf r1 b
   let r3 : (List D.Told) := laws_toToldS a
   .grd (laws_toToldS_pre a) (let r4 : (List D.Told) := impl_TellsOf r3 b
   .br (!(laws_eqToldS r4 r2))
   (.ret false)
   (let r5 : (List D.Told) := laws_toToldS a
    .grd (laws_toToldS_pre a) (.br (!(laws_eqToldS r3 r5))
    (.ret false)
    (let r6 : Int × (List D.Told) := laws_markToldS r3 1
     .br (decide ((r6.1 : Int) < 0))
     (.ret false)
     (.br (!(laws_eqToldS r4 r2))
      (.ret false)
      (let r7 : Int × (List D.Told) := laws_markToldS r4 1
       .br (decide (((laws_heldToldS r7.2 1) : Int) < 0))
       (.ret false)
       (.br (((laws_heldToldS r7.2 1) : Int) != r7.1)
        (.ret false)
        (let r8 : (List D.Told) := laws_toToldS a
         .grd (laws_toToldS_pre a) (let r9 : (List D.Told) := impl_TellsOf r8 b
         .br (!(laws_eqToldS r9 r2))
         (.ret false)
         (.br (decide (((laws_heldToldS r7.2 1) : Int) < 0))
          (.ret false)
          (.br (((laws_heldToldS r7.2 1) : Int) != r7.1)
           (.ret false)
           (.ret true))))))))))))))
def laws_FnExactTellsOf (a : List D.Told) (b : Int) : Bool := (laws_FnExactTellsOf_T a b).val
theorem laws_FnExactTellsOf_start (a : List D.Told) (b : Int) (k : Nat) : bodyA V29 (run V29 k 9) 7 k [AV.one (AC.dat .told a), AV.one (AC.int .i64 b)] [] isTrue =
  (laws_FnExactTellsOf_T a b).run (fun r => r) := by kernel_rfl
theorem laws_FnExactTellsOf_safe (a : List D.Told) (b : Int) (ok_a : okL (okD .told) a) (ok_b : i64 b) : (laws_FnExactTellsOf_T a b).safe := by
  have hml := maxLen_eq
  have hmr := maxRows_eq
  have q_a := (ok_a).1
  have hz := szToldS_le a 1048576 q_a (by omega) (by omega)
  have hml := maxLen_eq
  have hmr := maxRows_eq
  simp only [laws_FnExactTellsOf_T, T.safe, Bool.and_eq_true, decide_eq_true_eq, and_true, true_and, implies_true, laws_toToldS_pre, spec_l1In, spec_l1In_T, T.val, Bool.cond_eq_ite, impl_in, impl_in_T, impl_ofNode_pre]
  repeat' (first | exact trivial | apply And.intro | intro _)
  all_goals first | omega | (simp_all; done) | (simp_all; omega)
theorem laws_FnExactTellsOf_true (a : List D.Told) (b : Int) (ok_a : okL (okD .told) a) (ok_b : i64 b) (h : laws_FnExactTellsOf a b = true) : bodyA V29 (run V29 (0) 9) 7 (0) [AV.one (AC.dat .told a), AV.one (AC.int .i64 b)] [] isTrue = true := by
  rw [laws_FnExactTellsOf_start]
  exact T.run_true (laws_FnExactTellsOf_safe a b ok_a ok_b) h
end Go.X
