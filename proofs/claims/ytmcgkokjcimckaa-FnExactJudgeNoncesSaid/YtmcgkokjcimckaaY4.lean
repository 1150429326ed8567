/- Steps of the functions that a law of this seat reaches, and what they come to, for all arguments of the shapes that are named. -/
import Derived.Test.YtmcgkokjcimckaaYTree
import Derived.Test.YtmcgkokjcimckaaYLaw
import Derived.Test.YtmcgkokjcimckaaProg
set_option linter.all false
namespace Go.X
open Go
noncomputable def ann0 : FuncId → Nat → List Nat := annOf [(12, 7, [0, 3, 4]), (15, 4, [0, 3]), (15, 7, [0, 3, 4]), (16, 3, [0, 3, 4]), (17, 5, [3, 12, 13, 14]), (18, 4, [0, 1, 5]), (19, 4, [0, 3]), (20, 4, [8, 9, 10]), (21, 5, [0, 1, 5, 6]), (22, 5, [1, 5, 12, 13, 14]), (23, 4, [0, 1, 5]), (24, 2, [0, 1, 5]), (25, 2, [0, 1, 5]), (26, 2, [0, 1, 5]), (27, 3, [0, 1, 5, 6]), (29, 2, [0, 1, 5]), (37, 7, [1, 2, 4, 5, 7, 8]), (40, 5, [0, 3, 4]), (41, 4, [0, 14]), (41, 8, [0, 4, 5, 14, 23, 24, 25]), (45, 5, [0, 3, 9, 10]), (54, 3, [1, 5, 9, 10, 11]), (55, 5, [0, 1, 5]), (56, 3, [0, 3, 4]), (57, 4, [2, 10, 11, 12]), (61, 4, [0, 1, 5]), (62, 2, [0, 1, 5]), (63, 2, [0, 1, 5]), (64, 4, [1, 3]), (64, 9, [1, 3, 4]), (66, 3, [0, 3, 4]), (67, 3, [0, 3, 4, 5]), (68, 3, [3, 7, 8, 9]), (69, 5, [1, 5, 6, 21, 22, 23]), (77, 5, [1, 3, 18, 19, 20]), (79, 4, [0, 3]), (81, 2, [0, 1, 5]), (83, 5, [0, 1, 5, 6, 7])]
def tab0 : Tab := [(3, .int), (4, .bool), (5, .byte), (52, .flight), (61, .told), (65, .told), (89, .look), (91, .reading), (97, .flight)]
noncomputable def E0 : Env := ⟨Go.Proofs.Try.prog, tab0, ann0, fun _ => []⟩
theorem hm : Go.Proofs.Try.prog.follows .mixedOrders = true := by kernel_rfl
theorem tab_ok0 : tabOk Go.Proofs.Try.prog tab0 = true := by kernel_rfl
theorem E0_ok : EnvOk E0 := EnvOk.base tab_ok0 _
set_option linter.unusedVariables false
set_option linter.unusedSimpArgs false
def laws_szToldS_K (K : Kont) (r : Int) : Bool := K [AV.one (AC.int .i64 r)] []
def laws_szToldS_T (a : List D.Told) (b : Int) : T (Int) :=
  .br (decide (((w64 (b - (a.length : Int))) : Int) < 0))
  (.ret (-1))
  (.ret (w64 (b - (a.length : Int))))
def laws_szToldS (a : List D.Told) (b : Int) : Int := (laws_szToldS_T a b).val
theorem laws_szToldS_eqn (a : List D.Told) (b : Int) : laws_szToldS a b =
  bif (decide (((w64 (b - (a.length : Int))) : Int) < 0)) then
  ((-1))
  else ((w64 (b - (a.length : Int)))) := by kernel_rfl
theorem laws_szToldS_start (a : List D.Told) (b : Int) (k : Nat) (K : Kont) : bodyA E0 (run E0 k 9) 14 k [AV.one (AC.dat .told a), AV.one (AC.int .i64 b)] [] (clean tab0 false 0 K) =
  (laws_szToldS_T a b).run (laws_szToldS_K K) := by kernel_rfl
theorem laws_szToldS_safe (a : List D.Told) (b : Int) (ok_a : okL (okD .told) a) (ok_b : i64 b) : (laws_szToldS_T a b).safe := by
  exact T.safe_free (by kernel_rfl)
theorem laws_szToldS_true (a : List D.Told) (b : Int) (ok_a : okL (okD .told) a) (ok_b : i64 b) (K : Kont) (h : (laws_szToldS_K K) (laws_szToldS a b) = true) : bodyA E0 (run E0 (0) 9) 14 (0) [AV.one (AC.dat .told a), AV.one (AC.int .i64 b)] [] (clean tab0 false 0 K) = true := by
  rw [laws_szToldS_start]
  refine T.run_true (laws_szToldS_safe a b ok_a ok_b) ?_
  exact h
theorem szToldS_le (a : List D.Told) (n : Int) (ha : a.length ≤ maxLen) (h0 : 0 ≤ n) (hn : n ≤ 9223372036854775807) (h : 0 ≤ laws_szToldS a n) : (a.length : Int) ≤ n := by
  have hml := maxLen_eq
  have hw : IntKind.i64.wrap (n - (a.length : Int)) = n - (a.length : Int) := wrap64 (by omega) (by omega)
  simp only [laws_szToldS, laws_szToldS_T, T.val, Bool.cond_eq_ite, w64, hw] at h
  split at h
  · omega
  · rename_i hh; simp at hh; omega
def laws_szToldS_go : List AV → List Blk → Kont → Bool
  | [.one (AC.dat .told a), .one (AC.int .i64 b)], [], K => laws_szToldS_K K (laws_szToldS a b)
  | _, _, _ => false
noncomputable def V14 : Env := E0.add 14 ⟨fun _ => true, [], laws_szToldS_go⟩
theorem V14_ok : EnvOk V14 := by
  refine E0_ok.put hm 14 _ _ laws_szToldS_go (fun args B K h oka okb => ?_)
  unfold laws_szToldS_go at h
  split at h
  · rename_i a b
    have ok_a : okL (okD .told) a := oka _ (List.mem_of_getElem? (i := 0) rfl)
    have ok_b : i64 b := by have := oka _ (List.mem_of_getElem? (i := 1) rfl); exact wf_i64.1 this
    exact ⟨_, 9, false, laws_szToldS_true a b ok_a ok_b K h⟩
  · cases h
def spec_JudgeNonces_K (K : Kont) (r : Bool) : Bool := K [AV.one (AC.bool r)] []
noncomputable def spec_JudgeNonces_l4_L (k m : Nat) (K : Kont) (st : St) : Bool := iter tab0 0 (exC V14 (run V14 k 9) 0 15 k (fstC (fstC (sndC (fstC (sndC (sndC (bodyC V14.P 15)))))))) [0, 3] m st (kBlk 0 (kSeq (exC V14 (run V14 k 9) 0 15 k (sndC (sndC (sndC (bodyC V14.P 15))))) (kBody V14.P (resC V14.P 15) (clean tab0 false 0 K))))
def spec_JudgeNonces_l4_st (a : List D.Told) (i : Int) (s : Unit) : St := ⟨[(0, AV.one (AC.dat .told a)), (3, AV.one (AC.int .i64 (i)))], []⟩
noncomputable def spec_JudgeNonces_l7_L (k m : Nat) (m4 : Nat) (K : Kont) (st : St) : Bool := iter tab0 0 (exC V14 (run V14 k 9) 0 15 k (fstC (fstC (sndC (fstC (fstC (sndC (fstC (fstC (sndC (fstC (sndC (sndC (bodyC V14.P 15)))))))))))))) [0, 3, 4] m st (kBlk 2 (kBlk 1 (kSeq (exC V14 (run V14 k 9) 0 15 k (sndC (sndC (fstC (fstC (sndC (fstC (sndC (sndC (bodyC V14.P 15)))))))))) (kRec tab0 0 [0, 3] (fun s => iter tab0 0 (exC V14 (run V14 k 9) 0 15 k (fstC (fstC (sndC (fstC (sndC (sndC (bodyC V14.P 15)))))))) [0, 3] m4 s (kBlk 0 (kSeq (exC V14 (run V14 k 9) 0 15 k (sndC (sndC (sndC (bodyC V14.P 15))))) (kBody V14.P (resC V14.P 15) (clean tab0 false 0 K))))) (kBlk 0 (kSeq (exC V14 (run V14 k 9) 0 15 k (sndC (sndC (sndC (bodyC V14.P 15))))) (kBody V14.P (resC V14.P 15) (clean tab0 false 0 K))))))))
def spec_JudgeNonces_l7_st (a : List D.Told) (i4 : Int) (i : Int) (s : Unit) : St := ⟨[(0, AV.one (AC.dat .told a)), (3, AV.one (AC.int .i64 (i4))), (4, AV.one (AC.int .i64 (i)))], []⟩
def spec_JudgeNonces_l7_body (a : List D.Told) (i4 : Int) (i : Int) (x : D.Told) (s : Unit) : T (S (Unit) (S (Unit) (Bool))) :=
  .grd (decide (0 ≤ i4) && decide (i4 < (a.length : Int))) (.grd (decide (0 ≤ i) && decide (i < (a.length : Int))) (.both (.br (((elem .told a (Int.toNat (i4))).kind : Int) == 5)
   (.br ((x.kind : Int) == 5)
    (.br (((elem .told a (Int.toNat (i4))).code : Int) == 0)
     (.br ((x.code : Int) == 0)
      (.br (((elem .told a (Int.toNat (i4))).node : Int) == x.node)
       (.br (decide ((x.value : Int) ≤ (elem .told a (Int.toNat (i4))).value))
        (.ret (.out (.out (false))))
        (.ret (.on ())))
       (.ret (.on ())))
      (.ret (.on ())))
     (.ret (.on ())))
    (.ret (.on ())))
   (.ret (.on ())))
  (.br (((elem .told a (Int.toNat (i4))).kind : Int) == 5)
   (.br ((x.kind : Int) == 5)
    (.br (((elem .told a (Int.toNat (i4))).code : Int) == 0)
     (.br ((x.code : Int) == 0)
      (.br (((elem .told a (Int.toNat (i4))).node : Int) == x.node)
       (.br (decide ((x.value : Int) ≤ (elem .told a (Int.toNat (i4))).value))
        (.ret (.out (.out (false))))
        (.ret (.on ())))
       (.ret (.on ())))
      (.ret (.on ())))
     (.ret (.on ())))
    (.ret (.on ())))
   (.ret (.on ())))))
def spec_JudgeNonces_l7_done (a : List D.Told) (i4 : Int) (s : Unit) : T (S (Unit) (Bool)) :=
  .ret (.on ())
theorem spec_JudgeNonces_l7_step (a : List D.Told) (i4 : Int) (k m : Nat) (m4 : Nat) (K : Kont) (i : Int) (s : Unit) : spec_JudgeNonces_l7_L k (m + 1) m4 K (spec_JudgeNonces_l7_st a i4 i s) =
  br (decide (i < (a.length : Int))) ((spec_JudgeNonces_l7_body a i4 i (elem .told a (Int.toNat i)) s).run (S.k (fun s' => spec_JudgeNonces_l7_L k m m4 K (spec_JudgeNonces_l7_st a i4 (w64 (i + 1)) s')) (S.k (fun so => spec_JudgeNonces_l4_L k m4 K (spec_JudgeNonces_l4_st a (w64 (i4 + 1)) so)) (spec_JudgeNonces_K K)))) ((spec_JudgeNonces_l7_done a i4 s).run (S.k (fun so => spec_JudgeNonces_l4_L k m4 K (spec_JudgeNonces_l4_st a (w64 (i4 + 1)) so)) (spec_JudgeNonces_K K))) := by kernel_rfl
def spec_JudgeNonces_l7 (a : List D.Told) (i4 : Int) (s : Unit) : S (Unit) (Bool) := forL (fun i x s => (spec_JudgeNonces_l7_body a i4 i x s).val) (fun s => (spec_JudgeNonces_l7_done a i4 s).val) (a.drop (Int.toNat (i4 + 1))) (i4 + 1) s
theorem spec_JudgeNonces_l7_ok (a : List D.Told) (i4 : Int) (k : Nat) (m4 : Nat) (K : Kont) (s : Unit) (hl : a.length ≤ maxLen) (h0_4 : 0 ≤ i4) (hN_4 : i4 < (a.length : Int)) (hl_4 : (a.length : Int) ≤ 9223372036854775807) (hk : a.length < k) (hi : (fun i s => True) (i4 + 1) s) (h : (S.k (fun so => spec_JudgeNonces_l4_L k m4 K (spec_JudgeNonces_l4_st a (w64 (i4 + 1)) so)) (spec_JudgeNonces_K K)) (spec_JudgeNonces_l7 a i4 s) = true) : spec_JudgeNonces_l7_L k k m4 K (spec_JudgeNonces_l7_st a i4 (i4 + 1) s) = true := by
  have hml := maxLen_eq
  have hmr := maxRows_eq
  have hw_4 : w64 (i4 + 1) = i4 + 1 := w64_id (by omega) (by omega)
  refine forL_ok (L := fun m i s => spec_JudgeNonces_l7_L k m m4 K (spec_JudgeNonces_l7_st a i4 i s)) (l := a) (dv := dflt .told) (body := spec_JudgeNonces_l7_body a i4) (done := spec_JudgeNonces_l7_done a i4) (fb := (fun i x s c => c)) (fd := fun c => c) (Kb := fun m i => S.k (fun s' => spec_JudgeNonces_l7_L k m m4 K (spec_JudgeNonces_l7_st a i4 (w64 (i + 1)) s')) (S.k (fun so => spec_JudgeNonces_l4_L k m4 K (spec_JudgeNonces_l4_st a (w64 (i4 + 1)) so)) (spec_JudgeNonces_K K))) (Kd := (S.k (fun so => spec_JudgeNonces_l4_L k m4 K (spec_JudgeNonces_l4_st a (w64 (i4 + 1)) so)) (spec_JudgeNonces_K K))) (K := (S.k (fun so => spec_JudgeNonces_l4_L k m4 K (spec_JudgeNonces_l4_st a (w64 (i4 + 1)) so)) (spec_JudgeNonces_K K))) (fun m i s => spec_JudgeNonces_l7_step a i4 k m m4 K i s) (fun i s => True) hl ?hb ?hd ?hKb ?hKd _ k (i4 + 1) s (by omega) rfl (by omega) (by simp; omega) hi h
  case hb =>
    intro i s h0 hN hi
    refine ⟨?safe, fun _ _ => trivial⟩
    case safe =>
      simp only [spec_JudgeNonces_l7_body, T.safe, and_true, true_and, implies_true, bne_eq_false_iff_eq, beq_iff_eq, decide_eq_false_iff_not, decide_eq_true_eq, Bool.and_eq_true, Bool.or_eq_false_iff, Bool.not_eq_eq_eq_not, Bool.not_true, Bool.not_false, beq_eq_false_iff_ne, bne_iff_ne, List.length_replicate, Int.toNat_natCast, List.length_set, List.length_map, List.length_append, List.length_cons, List.length_nil, List.length_take, List.length_drop, Nat.ble_eq]
      repeat' (first | exact trivial | apply And.intro | intro _)
      all_goals first | omega | (simp_all; done) | (simp_all; omega)
  case hd =>
    intro s hi
    exact T.safe_free (by kernel_rfl)
  case hKb =>
    intro m i s h0 hN hi
    exact fun h => h
  case hKd =>
    intro s hi
    exact fun h => h
def spec_JudgeNonces_l4_body (a : List D.Told) (i : Int) (s : Unit) : T (S (Unit) (S (Unit) (Bool))) :=
  .ret (.out (.on ()))
def spec_JudgeNonces_l4_done (a : List D.Told) (s : Unit) : T (Bool) :=
  .ret true
theorem spec_JudgeNonces_l4_step (a : List D.Told) (k m : Nat) (K : Kont) (i : Int) (s : Unit) : spec_JudgeNonces_l4_L k (m + 1) K (spec_JudgeNonces_l4_st a i s) =
  br (decide (i < (a.length : Int))) ((spec_JudgeNonces_l4_body a i s).run (S.k (fun s' => spec_JudgeNonces_l4_L k m K (spec_JudgeNonces_l4_st a (w64 (i + 1)) s')) (S.k (fun t => spec_JudgeNonces_l7_L k k m K (spec_JudgeNonces_l7_st a i (w64 (i + 1)) t)) (spec_JudgeNonces_K K)))) ((spec_JudgeNonces_l4_done a s).run (spec_JudgeNonces_K K)) := by kernel_rfl
def spec_JudgeNonces_l4 (a : List D.Told) (s : Unit) : Bool := forN (fun i s => S.join (fun t => spec_JudgeNonces_l7 a i t) (spec_JudgeNonces_l4_body a i s).val) (fun s => (spec_JudgeNonces_l4_done a s).val) (Int.toNat ((a.length : Int) - 0)) 0 s
theorem spec_JudgeNonces_l4_ok (a : List D.Told) (k : Nat) (K : Kont) (s : Unit) (hl : (a.length : Int) ≤ 9223372036854775807) (hk : Int.toNat ((a.length : Int) - 0) < k) (hi : (fun i s => True) 0 s) (h : (spec_JudgeNonces_K K) (spec_JudgeNonces_l4 a s) = true) : spec_JudgeNonces_l4_L k k K (spec_JudgeNonces_l4_st a 0 s) = true := by
  have hml := maxLen_eq
  have hmr := maxRows_eq
  refine forN_ok (L := fun m i s => spec_JudgeNonces_l4_L k m K (spec_JudgeNonces_l4_st a i s)) (N := (a.length : Int)) (body := spec_JudgeNonces_l4_body a) (done := spec_JudgeNonces_l4_done a) (fb := (fun i s => S.join (fun t => spec_JudgeNonces_l7 a i t))) (fd := fun c => c) (Kb := fun m i => S.k (fun s' => spec_JudgeNonces_l4_L k m K (spec_JudgeNonces_l4_st a (w64 (i + 1)) s')) (S.k (fun t => spec_JudgeNonces_l7_L k k m K (spec_JudgeNonces_l7_st a i (w64 (i + 1)) t)) (spec_JudgeNonces_K K))) (Kd := (spec_JudgeNonces_K K)) (K := (spec_JudgeNonces_K K)) (fun i s => True) (fun m i s _ => spec_JudgeNonces_l4_step a k m K i s) hl ?hb ?hd ?hKb ?hKd _ k 0 s (by omega) rfl hk hi h
  case hb =>
    intro i s h0 hN hi
    refine ⟨?safe, fun _ _ => trivial⟩
    case safe =>
      simp only [spec_JudgeNonces_l4_body, T.safe, and_true, true_and, implies_true, bne_eq_false_iff_eq, beq_iff_eq, decide_eq_false_iff_not, decide_eq_true_eq, Bool.and_eq_true, Bool.or_eq_false_iff, Bool.not_eq_eq_eq_not, Bool.not_true, Bool.not_false, beq_eq_false_iff_ne, bne_iff_ne, List.length_replicate, Int.toNat_natCast, List.length_set, List.length_map, List.length_append, List.length_cons, List.length_nil, List.length_take, List.length_drop, Nat.ble_eq]
      repeat' (first | exact trivial | apply And.intro | intro _)
      all_goals first | omega | (simp_all; done) | (simp_all; omega)
  case hd =>
    intro s i h0 hN hi
    exact T.safe_free (by kernel_rfl)
  case hKb =>
    intro m i s h0 hN hi
    cases hv : (spec_JudgeNonces_l4_body a i s).val with
    | on s' => exact fun h => h
    | out c =>
      cases c with
      | on t => intro h; simp only [S.res, S.res2, S.mapOut, S.join, S.k] at h ⊢; rw [w64_id (n := i + 1) (by omega) (by omega)]; exact spec_JudgeNonces_l7_ok a i k m K t (by omega) h0 (by omega) (by omega) (by omega) trivial h
      | out r => exact fun h => h
  case hKd =>
    intro s i h0 hN hi
    exact fun h => h
def spec_JudgeNonces_T (a : List D.Told) : T (S (Unit) (Bool)) :=
  .br (decide ((200 : Int) < (a.length : Int)))
  (.ret (.out (false)))
  (.ret (.on ()))
def spec_JudgeNonces (a : List D.Told) : Bool := S.res (fun t => spec_JudgeNonces_l4 a t) (spec_JudgeNonces_T a).val
theorem spec_JudgeNonces_start (a : List D.Told) (k : Nat) (K : Kont) : bodyA V14 (run V14 k 9) 15 k [AV.one (AC.dat .told a)] [] (clean tab0 false 0 K) =
  (spec_JudgeNonces_T a).run (S.k (fun t => spec_JudgeNonces_l4_L k k K (spec_JudgeNonces_l4_st a 0 t)) (spec_JudgeNonces_K K)) := by kernel_rfl
theorem spec_JudgeNonces_safe (a : List D.Told) (ok_a : okL (okD .told) a) : (spec_JudgeNonces_T a).safe := by
  exact T.safe_free (by kernel_rfl)
theorem spec_JudgeNonces_true (a : List D.Told) (ok_a : okL (okD .told) a) (K : Kont) (h : (spec_JudgeNonces_K K) (spec_JudgeNonces a) = true) : bodyA V14 (run V14 ((Int.toNat ((a.length : Int) - 0) + 1)) 9) 15 ((Int.toNat ((a.length : Int) - 0) + 1)) [AV.one (AC.dat .told a)] [] (clean tab0 false 0 K) = true := by
  rw [spec_JudgeNonces_start]
  refine T.run_true (spec_JudgeNonces_safe a ok_a) ?_
  have hml := maxLen_eq
  have hmr := maxRows_eq
  have q_a := (ok_a).1
  unfold spec_JudgeNonces at h
  revert h
  cases hv : (spec_JudgeNonces_T a).val with
  | on t =>
    intro h
    simp only [S.res, S.res2, S.k] at h ⊢
    exact spec_JudgeNonces_l4_ok a _ K _ (by first | omega | (dsimp only; omega)) (by first | omega | (dsimp only; omega)) trivial h
  | out r => exact fun h => h
def spec_JudgeNonces_go : List AV → List Blk → Kont → Bool
  | [.one (AC.dat .told a)], [], K => spec_JudgeNonces_K K (spec_JudgeNonces a)
  | _, _, _ => false
noncomputable def V15 : Env := V14.add 15 ⟨fun _ => true, [], spec_JudgeNonces_go⟩
theorem V15_ok : EnvOk V15 := by
  refine V14_ok.put hm 15 _ _ spec_JudgeNonces_go (fun args B K h oka okb => ?_)
  unfold spec_JudgeNonces_go at h
  split at h
  · rename_i a
    have ok_a : okL (okD .told) a := oka _ (List.mem_of_getElem? (i := 0) rfl)
    exact ⟨_, 9, false, spec_JudgeNonces_true a ok_a K h⟩
  · cases h
def laws_toIval_K (K : Kont) (r : D.Ival) : Bool := K [AV.agg (D.Ival.cs r)] []
def laws_toIval_T (a : D.Ival) : T (D.Ival) :=
  .ret a
def laws_toIval (a : D.Ival) : D.Ival := (laws_toIval_T a).val
theorem laws_toIval_eqn (a : D.Ival) : laws_toIval a =
  a := by kernel_rfl
theorem laws_toIval_start (a : D.Ival) (k : Nat) (K : Kont) : bodyA V15 (run V15 k 9) 72 k [AV.agg (D.Ival.cs a)] [] (clean tab0 false 0 K) =
  (laws_toIval_T a).run (laws_toIval_K K) := by kernel_rfl
theorem laws_toIval_safe (a : D.Ival) (ok_a : D.Ival.ok a) : (laws_toIval_T a).safe := by
  exact T.safe_free (by kernel_rfl)
theorem laws_toIval_true (a : D.Ival) (ok_a : D.Ival.ok a) (K : Kont) (h : (laws_toIval_K K) (laws_toIval a) = true) : bodyA V15 (run V15 (0) 9) 72 (0) [AV.agg (D.Ival.cs a)] [] (clean tab0 false 0 K) = true := by
  rw [laws_toIval_start]
  refine T.run_true (laws_toIval_safe a ok_a) ?_
  exact h
def laws_toIval_go : List AV → List Blk → Kont → Bool
  | [.agg a_], [], K => (match D.Ival.dec a_ with | some a => laws_toIval_K K (laws_toIval a) | none => false)
  | _, _, _ => false
noncomputable def V72 : Env := V15.add 72 ⟨fun _ => true, [], laws_toIval_go⟩
theorem V72_ok : EnvOk V72 := by
  refine V15_ok.put hm 72 _ _ laws_toIval_go (fun args B K h oka okb => ?_)
  unfold laws_toIval_go at h
  split at h
  · rename_i a_
    split at h
    rotate_left
    · cases h
    rename_i a dec_a
    have dec_a := D.Ival.dec_ok dec_a
    subst dec_a
    have ok_a : D.Ival.ok a := D.Ival.okOf (oka _ (List.mem_of_getElem? (i := 0) rfl))
    exact ⟨_, 9, false, laws_toIval_true a ok_a K h⟩
  · cases h
def laws_toTold_K (K : Kont) (r : D.Told) : Bool := K [AV.agg (D.Told.cs r)] []
def laws_toTold_T (a : D.Told) : T (D.Told) :=
  let r1 : D.Ival := laws_toIval a.was
  let r2 : D.Ival := laws_toIval a.now
  .ret (⟨a.kind, a.node, a.code, a.value, a.holds, a.known, r1, r2⟩ : D.Told)
def laws_toTold (a : D.Told) : D.Told := (laws_toTold_T a).val
theorem laws_toTold_eqn (a : D.Told) : laws_toTold a =
  let r1 : D.Ival := laws_toIval a.was
  let r2 : D.Ival := laws_toIval a.now
  (⟨a.kind, a.node, a.code, a.value, a.holds, a.known, r1, r2⟩ : D.Told) := by kernel_rfl
theorem laws_toTold_start (a : D.Told) (k : Nat) (K : Kont) : bodyA V72 (run V72 k 9) 46 k [AV.agg (D.Told.cs a)] [] (clean tab0 false 0 K) =
  (laws_toTold_T a).run (laws_toTold_K K) := by kernel_rfl
theorem laws_toTold_safe (a : D.Told) (ok_a : D.Told.ok a) : (laws_toTold_T a).safe := by
  exact T.safe_free (by kernel_rfl)
theorem laws_toTold_true (a : D.Told) (ok_a : D.Told.ok a) (K : Kont) (h : (laws_toTold_K K) (laws_toTold a) = true) : bodyA V72 (run V72 (0) 9) 46 (0) [AV.agg (D.Told.cs a)] [] (clean tab0 false 0 K) = true := by
  rw [laws_toTold_start]
  refine T.run_true (laws_toTold_safe a ok_a) ?_
  exact h
def laws_toTold_go : List AV → List Blk → Kont → Bool
  | [.agg a_], [], K => (match D.Told.dec a_ with | some a => laws_toTold_K K (laws_toTold a) | none => false)
  | _, _, _ => false
noncomputable def V46 : Env := V72.add 46 ⟨fun _ => true, [], laws_toTold_go⟩
theorem V46_ok : EnvOk V46 := by
  refine V72_ok.put hm 46 _ _ laws_toTold_go (fun args B K h oka okb => ?_)
  unfold laws_toTold_go at h
  split at h
  · rename_i a_
    split at h
    rotate_left
    · cases h
    rename_i a dec_a
    have dec_a := D.Told.dec_ok dec_a
    subst dec_a
    have ok_a : D.Told.ok a := D.Told.okOf (oka _ (List.mem_of_getElem? (i := 0) rfl))
    exact ⟨_, 9, false, laws_toTold_true a ok_a K h⟩
  · cases h
def laws_toToldS_K (K : Kont) (r : (List D.Told)) : Bool := K [AV.one (AC.own 0)] [Blk.rows 61 .told r]
def laws_toToldS_pre (a : List D.Told) : Bool := decide (a.length ≤ 1048576)
noncomputable def laws_toToldS_l3_L (k m : Nat) (K : Kont) (st : St) : Bool := iter tab0 0 (exC V46 (run V46 k 9) 0 16 k (fstC (fstC (sndC (fstC (sndC (sndC (bodyC V46.P 16)))))))) [0, 3, 4] m st (kBlk 0 (kSeq (exC V46 (run V46 k 9) 0 16 k (sndC (sndC (sndC (bodyC V46.P 16))))) (kBody V46.P (resC V46.P 16) (clean tab0 false 0 K))))
def laws_toToldS_l3_st (a : List D.Told) (i : Int) (s : (List D.Told)) : St := ⟨[(0, AV.one (AC.dat .told a)), (3, AV.one (AC.own 0)), (4, AV.one (AC.int .i64 (i)))], [Blk.rows 61 .told (s)]⟩
def laws_toToldS_l3_body (a : List D.Told) (i : Int) (x : D.Told) (s : (List D.Told)) : T (S ((List D.Told)) ((List D.Told))) :=
  .grd (decide (0 ≤ i) && decide (i < (a.length : Int))) (let r2 : D.Told := laws_toTold x
  .grd (decide (0 ≤ i) && decide (i < ((s).length : Int))) (.ret (.on ((s).set (Int.toNat (i)) r2))))
def laws_toToldS_l3_done (a : List D.Told) (s : (List D.Told)) : T ((List D.Told)) :=
  .ret s
theorem laws_toToldS_l3_step (a : List D.Told) (k m : Nat) (K : Kont) (i : Int) (s : (List D.Told)) : laws_toToldS_l3_L k (m + 1) K (laws_toToldS_l3_st a i s) =
  br (decide (i < (a.length : Int))) ((laws_toToldS_l3_body a i (elem .told a (Int.toNat i)) s).run (S.k (fun s' => laws_toToldS_l3_L k m K (laws_toToldS_l3_st a (w64 (i + 1)) s')) (laws_toToldS_K K))) ((laws_toToldS_l3_done a s).run (laws_toToldS_K K)) := by kernel_rfl
def laws_toToldS_l3 (a : List D.Told) (s : (List D.Told)) : (List D.Told) := forL (fun i x s => (laws_toToldS_l3_body a i x s).val) (fun s => (laws_toToldS_l3_done a s).val) a 0 s
theorem laws_toToldS_l3_ok (a : List D.Told) (k : Nat) (K : Kont) (s : (List D.Told)) (hl : a.length ≤ maxLen) (hp : laws_toToldS_pre a = true) (hk : a.length < k) (hi : (fun i s => s.length = ((List.replicate (Int.toNat (a.length : Int)) D.Told.zero)).length) 0 s) (h : (laws_toToldS_K K) (laws_toToldS_l3 a s) = true) : laws_toToldS_l3_L k k K (laws_toToldS_l3_st a 0 s) = true := by
  have hml := maxLen_eq
  have hmr := maxRows_eq
  have hpp := hp
  simp only [laws_toToldS_pre, Bool.and_eq_true, decide_eq_true_eq] at hpp
  refine forL_ok (L := fun m i s => laws_toToldS_l3_L k m K (laws_toToldS_l3_st a i s)) (l := a) (dv := dflt .told) (body := laws_toToldS_l3_body a) (done := laws_toToldS_l3_done a) (fb := (fun i x s c => c)) (fd := fun c => c) (Kb := fun m i => S.k (fun s' => laws_toToldS_l3_L k m K (laws_toToldS_l3_st a (w64 (i + 1)) s')) (laws_toToldS_K K)) (Kd := (laws_toToldS_K K)) (K := (laws_toToldS_K K)) (fun m i s => laws_toToldS_l3_step a k m K i s) (fun i s => s.length = ((List.replicate (Int.toNat (a.length : Int)) D.Told.zero)).length) hl ?hb ?hd ?hKb ?hKd _ k 0 s (by omega) rfl (by omega) (by simp; omega) hi h
  case hb =>
    intro i s h0 hN hi
    refine ⟨?safe, ?pres⟩
    case safe =>
      try simp only [bne_eq_false_iff_eq, beq_iff_eq, decide_eq_false_iff_not, decide_eq_true_eq, Bool.and_eq_true, Bool.or_eq_false_iff, Bool.not_eq_eq_eq_not, Bool.not_true, Bool.not_false, beq_eq_false_iff_ne, bne_iff_ne, List.length_replicate, Int.toNat_natCast, List.length_set, List.length_map, List.length_append, List.length_cons, List.length_nil, List.length_take, List.length_drop, Nat.ble_eq] at hi
      simp only [laws_toToldS_l3_body, T.safe, and_true, true_and, implies_true, bne_eq_false_iff_eq, beq_iff_eq, decide_eq_false_iff_not, decide_eq_true_eq, Bool.and_eq_true, Bool.or_eq_false_iff, Bool.not_eq_eq_eq_not, Bool.not_true, Bool.not_false, beq_eq_false_iff_ne, bne_iff_ne, List.length_replicate, Int.toNat_natCast, List.length_set, List.length_map, List.length_append, List.length_cons, List.length_nil, List.length_take, List.length_drop, Nat.ble_eq, laws_toToldS_pre]
      repeat' (first | exact trivial | apply And.intro | intro _)
      all_goals first | omega | (simp_all; done) | (simp_all; omega)
    case pres =>
      intro s' hs
      simp only [laws_toToldS_l3_body, T.val, Bool.cond_eq_ite] at hs
      repeat' split at hs
      all_goals first | (cases hs; done) | (cases hs; exact hi) | (cases hs; refine ⟨?_, hi.2⟩; have hi := hi.1; simp only [bne_eq_false_iff_eq, beq_iff_eq, decide_eq_false_iff_not, decide_eq_true_eq, Bool.and_eq_true, Bool.or_eq_false_iff, Bool.not_eq_eq_eq_not, Bool.not_true, Bool.not_false, beq_eq_false_iff_ne, bne_iff_ne, List.length_replicate, Int.toNat_natCast, List.length_set, List.length_map, List.length_append, List.length_cons, List.length_nil, List.length_take, List.length_drop, Nat.ble_eq] at hi ⊢; omega) | (cases hs; simp only [bne_eq_false_iff_eq, beq_iff_eq, decide_eq_false_iff_not, decide_eq_true_eq, Bool.and_eq_true, Bool.or_eq_false_iff, Bool.not_eq_eq_eq_not, Bool.not_true, Bool.not_false, beq_eq_false_iff_ne, bne_iff_ne, List.length_replicate, Int.toNat_natCast, List.length_set, List.length_map, List.length_append, List.length_cons, List.length_nil, List.length_take, List.length_drop, Nat.ble_eq] at hi ⊢; first | exact hi | (simp_all; done) | omega)
  case hd =>
    intro s hi
    exact T.safe_free (by kernel_rfl)
  case hKb =>
    intro m i s h0 hN hi
    exact fun h => h
  case hKd =>
    intro s hi
    exact fun h => h
def laws_toToldS_T (a : List D.Told) : T (S ((List D.Told)) ((List D.Told))) :=
  .grd ((decide (0 ≤ (a.length : Int)) && decide ((a.length : Int) ≤ (a.length : Int))) && decide ((a.length : Int) * 72 ≤ maxRows)) (.ret (.on (List.replicate (Int.toNat (a.length : Int)) D.Told.zero)))
def laws_toToldS (a : List D.Told) : (List D.Told) := S.res (fun t => laws_toToldS_l3 a t) (laws_toToldS_T a).val
theorem laws_toToldS_start (a : List D.Told) (k : Nat) (K : Kont) : bodyA V46 (run V46 k 9) 16 k [AV.one (AC.dat .told a)] [] (clean tab0 false 0 K) =
  (laws_toToldS_T a).run (S.k (fun t => laws_toToldS_l3_L k k K (laws_toToldS_l3_st a 0 t)) (laws_toToldS_K K)) := by kernel_rfl
theorem laws_toToldS_safe (a : List D.Told) (ok_a : okL (okD .told) a) (hp : laws_toToldS_pre a = true) : (laws_toToldS_T a).safe := by
  have hml := maxLen_eq
  have hmr := maxRows_eq
  have q_a := (ok_a).1
  have hpp := hp
  simp only [laws_toToldS_pre, Bool.and_eq_true, decide_eq_true_eq] at hpp
  have hml := maxLen_eq
  have hmr := maxRows_eq
  simp only [laws_toToldS_T, T.safe, and_true, true_and, implies_true, bne_eq_false_iff_eq, beq_iff_eq, decide_eq_false_iff_not, decide_eq_true_eq, Bool.and_eq_true, Bool.or_eq_false_iff, Bool.not_eq_eq_eq_not, Bool.not_true, Bool.not_false, beq_eq_false_iff_ne, bne_iff_ne, List.length_replicate, Int.toNat_natCast, List.length_set, List.length_map, List.length_append, List.length_cons, List.length_nil, List.length_take, List.length_drop, Nat.ble_eq, laws_toToldS_pre]
  repeat' (first | exact trivial | apply And.intro | intro _)
  all_goals first | omega | (simp_all; done) | (simp_all; omega)
theorem laws_toToldS_true (a : List D.Told) (ok_a : okL (okD .told) a) (hp : laws_toToldS_pre a = true) (K : Kont) (h : (laws_toToldS_K K) (laws_toToldS a) = true) : bodyA V46 (run V46 ((a.length + 1)) 9) 16 ((a.length + 1)) [AV.one (AC.dat .told a)] [] (clean tab0 false 0 K) = true := by
  rw [laws_toToldS_start]
  refine T.run_true (laws_toToldS_safe a ok_a hp) ?_
  have hml := maxLen_eq
  have hmr := maxRows_eq
  have q_a := (ok_a).1
  have hpp := hp
  simp only [laws_toToldS_pre, Bool.and_eq_true, decide_eq_true_eq] at hpp
  unfold laws_toToldS at h
  revert h
  cases hv : (laws_toToldS_T a).val with
  | on t =>
    intro h
    simp only [S.res, S.res2, S.k] at h ⊢
    exact laws_toToldS_l3_ok a _ K _ (by first | omega | (dsimp only; omega)) hp (by first | omega | (dsimp only; omega)) (by simp only [laws_toToldS_T, T.val, Bool.cond_eq_ite] at hv; (repeat' split at hv) <;> first | (cases hv; done) | (cases hv; rfl) | (cases hv; simp_all; done) | (cases hv; simp_all; omega) | (cases hv; simp only [bne_eq_false_iff_eq, beq_iff_eq, decide_eq_false_iff_not, decide_eq_true_eq, Bool.and_eq_true, Bool.or_eq_false_iff, Bool.not_eq_eq_eq_not, Bool.not_true, Bool.not_false, beq_eq_false_iff_ne, bne_iff_ne, List.length_replicate, Int.toNat_natCast, List.length_set, List.length_map, List.length_append, List.length_cons, List.length_nil, List.length_take, List.length_drop, Nat.ble_eq]; omega)) h
  | out r => exact fun h => h
def laws_toToldS_go : List AV → List Blk → Kont → Bool
  | [.one (AC.dat .told a)], [], K => grd (laws_toToldS_pre a) (laws_toToldS_K K (laws_toToldS a))
  | _, _, _ => false
noncomputable def V16 : Env := V46.add 16 ⟨fun _ => true, [], laws_toToldS_go⟩
theorem V16_ok : EnvOk V16 := by
  refine V46_ok.put hm 16 _ _ laws_toToldS_go (fun args B K h oka okb => ?_)
  unfold laws_toToldS_go at h
  split at h
  · rename_i a
    have ok_a : okL (okD .told) a := oka _ (List.mem_of_getElem? (i := 0) rfl)
    obtain ⟨hp, h⟩ := grd_ok h
    exact ⟨_, 9, false, laws_toToldS_true a ok_a hp K h⟩
  · cases h
def impl_JudgeNonces_K (K : Kont) (r : Bool) : Bool := K [AV.one (AC.bool r)] []
noncomputable def impl_JudgeNonces_l5_L (k m : Nat) (K : Kont) (st : St) : Bool := iter tab0 0 (exC V16 (run V16 k 9) 0 17 k (fstC (fstC (sndC (fstC (sndC (sndC (sndC (bodyC V16.P 17))))))))) [3, 12, 13, 14] m st (kBlk 0 (kSeq (exC V16 (run V16 k 9) 0 17 k (sndC (sndC (sndC (sndC (bodyC V16.P 17)))))) (kBody V16.P (resC V16.P 17) (clean tab0 false 0 K))))
def impl_JudgeNonces_l5_st (a : List D.Told) (i : Int) (s : (List (Int × Int))) : St := ⟨[(3, AV.one (AC.map 0)), (12, AV.one (AC.dat .told a)), (13, AV.one (AC.int .i64 (a.length : Int))), (14, AV.one (AC.int .i64 (i)))], [Blk.map .int (s)]⟩
def impl_JudgeNonces_l5_body (a : List D.Told) (i : Int) (x : D.Told) (s : (List (Int × Int))) : T (S ((List (Int × Int))) (Bool)) :=
  .grd (decide (0 ≤ i) && decide (i < (a.length : Int))) (.br ((x.kind : Int) != 5)
  (.ret (.on s))
  (.br ((x.code : Int) != 0)
   (.ret (.on s))
   (.br ((findM (x.node) (s)).isSome)
    (.br (decide ((x.value : Int) ≤ (findD (x.node) (s) 0)))
     (.ret (.out (false)))
     (.ret (.on (putM (x.node) (x.value) (s)))))
    (.ret (.on (putM (x.node) (x.value) (s)))))))
def impl_JudgeNonces_l5_done (a : List D.Told) (s : (List (Int × Int))) : T (Bool) :=
  .ret true
theorem impl_JudgeNonces_l5_step (a : List D.Told) (k m : Nat) (K : Kont) (i : Int) (s : (List (Int × Int))) : impl_JudgeNonces_l5_L k (m + 1) K (impl_JudgeNonces_l5_st a i s) =
  br (decide (i < (a.length : Int))) ((impl_JudgeNonces_l5_body a i (elem .told a (Int.toNat i)) s).run (S.k (fun s' => impl_JudgeNonces_l5_L k m K (impl_JudgeNonces_l5_st a (w64 (i + 1)) s')) (impl_JudgeNonces_K K))) ((impl_JudgeNonces_l5_done a s).run (impl_JudgeNonces_K K)) := by kernel_rfl
def impl_JudgeNonces_l5 (a : List D.Told) (s : (List (Int × Int))) : Bool := forL (fun i x s => (impl_JudgeNonces_l5_body a i x s).val) (fun s => (impl_JudgeNonces_l5_done a s).val) a 0 s
theorem impl_JudgeNonces_l5_ok (a : List D.Told) (k : Nat) (K : Kont) (s : (List (Int × Int))) (hl : a.length ≤ maxLen) (hk : a.length < k) (hi : (fun i s => (decide ((200 : Int) < (a.length : Int))) = false) 0 s) (h : (impl_JudgeNonces_K K) (impl_JudgeNonces_l5 a s) = true) : impl_JudgeNonces_l5_L k k K (impl_JudgeNonces_l5_st a 0 s) = true := by
  have hml := maxLen_eq
  have hmr := maxRows_eq
  refine forL_ok (L := fun m i s => impl_JudgeNonces_l5_L k m K (impl_JudgeNonces_l5_st a i s)) (l := a) (dv := dflt .told) (body := impl_JudgeNonces_l5_body a) (done := impl_JudgeNonces_l5_done a) (fb := (fun i x s c => c)) (fd := fun c => c) (Kb := fun m i => S.k (fun s' => impl_JudgeNonces_l5_L k m K (impl_JudgeNonces_l5_st a (w64 (i + 1)) s')) (impl_JudgeNonces_K K)) (Kd := (impl_JudgeNonces_K K)) (K := (impl_JudgeNonces_K K)) (fun m i s => impl_JudgeNonces_l5_step a k m K i s) (fun i s => (decide ((200 : Int) < (a.length : Int))) = false) hl ?hb ?hd ?hKb ?hKd _ k 0 s (by omega) rfl (by omega) (by simp; omega) hi h
  case hb =>
    intro i s h0 hN hi
    refine ⟨?safe, ?pres⟩
    case safe =>
      try simp only [bne_eq_false_iff_eq, beq_iff_eq, decide_eq_false_iff_not, decide_eq_true_eq, Bool.and_eq_true, Bool.or_eq_false_iff, Bool.not_eq_eq_eq_not, Bool.not_true, Bool.not_false, beq_eq_false_iff_ne, bne_iff_ne, List.length_replicate, Int.toNat_natCast, List.length_set, List.length_map, List.length_append, List.length_cons, List.length_nil, List.length_take, List.length_drop, Nat.ble_eq] at hi
      simp only [impl_JudgeNonces_l5_body, T.safe, and_true, true_and, implies_true, bne_eq_false_iff_eq, beq_iff_eq, decide_eq_false_iff_not, decide_eq_true_eq, Bool.and_eq_true, Bool.or_eq_false_iff, Bool.not_eq_eq_eq_not, Bool.not_true, Bool.not_false, beq_eq_false_iff_ne, bne_iff_ne, List.length_replicate, Int.toNat_natCast, List.length_set, List.length_map, List.length_append, List.length_cons, List.length_nil, List.length_take, List.length_drop, Nat.ble_eq, laws_toToldS_pre]
      repeat' (first | exact trivial | apply And.intro | intro _)
      all_goals first | omega | (simp_all; done) | (simp_all; omega)
    case pres =>
      intro s' hs
      simp only [impl_JudgeNonces_l5_body, T.val, Bool.cond_eq_ite] at hs
      repeat' split at hs
      all_goals first | (cases hs; done) | (cases hs; exact hi) | (cases hs; refine ⟨?_, hi.2⟩; have hi := hi.1; simp only [bne_eq_false_iff_eq, beq_iff_eq, decide_eq_false_iff_not, decide_eq_true_eq, Bool.and_eq_true, Bool.or_eq_false_iff, Bool.not_eq_eq_eq_not, Bool.not_true, Bool.not_false, beq_eq_false_iff_ne, bne_iff_ne, List.length_replicate, Int.toNat_natCast, List.length_set, List.length_map, List.length_append, List.length_cons, List.length_nil, List.length_take, List.length_drop, Nat.ble_eq] at hi ⊢; omega) | (cases hs; simp only [bne_eq_false_iff_eq, beq_iff_eq, decide_eq_false_iff_not, decide_eq_true_eq, Bool.and_eq_true, Bool.or_eq_false_iff, Bool.not_eq_eq_eq_not, Bool.not_true, Bool.not_false, beq_eq_false_iff_ne, bne_iff_ne, List.length_replicate, Int.toNat_natCast, List.length_set, List.length_map, List.length_append, List.length_cons, List.length_nil, List.length_take, List.length_drop, Nat.ble_eq] at hi ⊢; first | exact hi | (simp_all; done) | omega)
  case hd =>
    intro s hi
    exact T.safe_free (by kernel_rfl)
  case hKb =>
    intro m i s h0 hN hi
    exact fun h => h
  case hKd =>
    intro s hi
    exact fun h => h
def impl_JudgeNonces_T (a : List D.Told) : T (S ((List (Int × Int))) (Bool)) :=
  .br (decide ((200 : Int) < (a.length : Int)))
  (.ret (.out (false)))
  (.ret (.on []))
def impl_JudgeNonces (a : List D.Told) : Bool := S.res (fun t => impl_JudgeNonces_l5 a t) (impl_JudgeNonces_T a).val
theorem impl_JudgeNonces_start (a : List D.Told) (k : Nat) (K : Kont) : bodyA V16 (run V16 k 9) 17 k [AV.one (AC.dat .told a)] [] (clean tab0 false 0 K) =
  (impl_JudgeNonces_T a).run (S.k (fun t => impl_JudgeNonces_l5_L k k K (impl_JudgeNonces_l5_st a 0 t)) (impl_JudgeNonces_K K)) := by kernel_rfl
theorem impl_JudgeNonces_safe (a : List D.Told) (ok_a : okL (okD .told) a) : (impl_JudgeNonces_T a).safe := by
  exact T.safe_free (by kernel_rfl)
theorem impl_JudgeNonces_true (a : List D.Told) (ok_a : okL (okD .told) a) (K : Kont) (h : (impl_JudgeNonces_K K) (impl_JudgeNonces a) = true) : bodyA V16 (run V16 ((a.length + 1)) 9) 17 ((a.length + 1)) [AV.one (AC.dat .told a)] [] (clean tab0 false 0 K) = true := by
  rw [impl_JudgeNonces_start]
  refine T.run_true (impl_JudgeNonces_safe a ok_a) ?_
  have hml := maxLen_eq
  have hmr := maxRows_eq
  have q_a := (ok_a).1
  unfold impl_JudgeNonces at h
  revert h
  cases hv : (impl_JudgeNonces_T a).val with
  | on t =>
    intro h
    simp only [S.res, S.res2, S.k] at h ⊢
    exact impl_JudgeNonces_l5_ok a _ K _ (by first | omega | (dsimp only; omega)) (by first | omega | (dsimp only; omega)) (by simp only [impl_JudgeNonces_T, T.val, Bool.cond_eq_ite] at hv; (repeat' split at hv) <;> first | (cases hv; done) | (cases hv; rfl) | (cases hv; simp_all; done) | (cases hv; simp_all; omega) | (cases hv; simp only [bne_eq_false_iff_eq, beq_iff_eq, decide_eq_false_iff_not, decide_eq_true_eq, Bool.and_eq_true, Bool.or_eq_false_iff, Bool.not_eq_eq_eq_not, Bool.not_true, Bool.not_false, beq_eq_false_iff_ne, bne_iff_ne, List.length_replicate, Int.toNat_natCast, List.length_set, List.length_map, List.length_append, List.length_cons, List.length_nil, List.length_take, List.length_drop, Nat.ble_eq]; omega)) h
  | out r => exact fun h => h
def impl_JudgeNonces_go : List AV → List Blk → Kont → Bool
  | [.one (AC.dat .told a)], [], K => impl_JudgeNonces_K K (impl_JudgeNonces a)
  | _, _, _ => false
noncomputable def V17 : Env := V16.add 17 ⟨fun _ => true, [], impl_JudgeNonces_go⟩
theorem V17_ok : EnvOk V17 := by
  refine V16_ok.put hm 17 _ _ impl_JudgeNonces_go (fun args B K h oka okb => ?_)
  unfold impl_JudgeNonces_go at h
  split at h
  · rename_i a
    have ok_a : okL (okD .told) a := oka _ (List.mem_of_getElem? (i := 0) rfl)
    exact ⟨_, 9, false, impl_JudgeNonces_true a ok_a K h⟩
  · cases h
def laws_eqIval_K (K : Kont) (r : Bool) : Bool := K [AV.one (AC.bool r)] []
def laws_eqIval_T (a : D.Ival) (b : D.Ival) : T (Bool) :=
  .br ((a.lo : Int) != b.lo)
  (.ret false)
  (.br ((a.hi : Int) != b.hi)
   (.ret false)
   (.ret true))
def laws_eqIval (a : D.Ival) (b : D.Ival) : Bool := (laws_eqIval_T a b).val
theorem laws_eqIval_eqn (a : D.Ival) (b : D.Ival) : laws_eqIval a b =
  bif ((a.lo : Int) != b.lo) then
  (false)
  else (bif ((a.hi : Int) != b.hi) then
   (false)
   else (true)) := by kernel_rfl
theorem laws_eqIval_start (a : D.Ival) (b : D.Ival) (k : Nat) (K : Kont) : bodyA V17 (run V17 k 9) 73 k [AV.agg (D.Ival.cs a), AV.agg (D.Ival.cs b)] [] (clean tab0 false 0 K) =
  (laws_eqIval_T a b).run (laws_eqIval_K K) := by kernel_rfl
theorem laws_eqIval_safe (a : D.Ival) (b : D.Ival) (ok_a : D.Ival.ok a) (ok_b : D.Ival.ok b) : (laws_eqIval_T a b).safe := by
  exact T.safe_free (by kernel_rfl)
theorem laws_eqIval_true (a : D.Ival) (b : D.Ival) (ok_a : D.Ival.ok a) (ok_b : D.Ival.ok b) (K : Kont) (h : (laws_eqIval_K K) (laws_eqIval a b) = true) : bodyA V17 (run V17 (0) 9) 73 (0) [AV.agg (D.Ival.cs a), AV.agg (D.Ival.cs b)] [] (clean tab0 false 0 K) = true := by
  rw [laws_eqIval_start]
  refine T.run_true (laws_eqIval_safe a b ok_a ok_b) ?_
  exact h
def laws_eqIval_go : List AV → List Blk → Kont → Bool
  | [.agg a_, .agg b_], [], K => (match D.Ival.dec a_ with | some a => (match D.Ival.dec b_ with | some b => laws_eqIval_K K (laws_eqIval a b) | none => false) | none => false)
  | _, _, _ => false
noncomputable def V73 : Env := V17.add 73 ⟨fun _ => true, [], laws_eqIval_go⟩
theorem V73_ok : EnvOk V73 := by
  refine V17_ok.put hm 73 _ _ laws_eqIval_go (fun args B K h oka okb => ?_)
  unfold laws_eqIval_go at h
  split at h
  · rename_i a_ b_
    split at h
    rotate_left
    · cases h
    rename_i a dec_a
    have dec_a := D.Ival.dec_ok dec_a
    subst dec_a
    split at h
    rotate_left
    · cases h
    rename_i b dec_b
    have dec_b := D.Ival.dec_ok dec_b
    subst dec_b
    have ok_a : D.Ival.ok a := D.Ival.okOf (oka _ (List.mem_of_getElem? (i := 0) rfl))
    have ok_b : D.Ival.ok b := D.Ival.okOf (oka _ (List.mem_of_getElem? (i := 1) rfl))
    exact ⟨_, 9, false, laws_eqIval_true a b ok_a ok_b K h⟩
  · cases h
def laws_eqTold_K (K : Kont) (r : Bool) : Bool := K [AV.one (AC.bool r)] []
def laws_eqTold_T (a : D.Told) (b : D.Told) : T (Bool) :=
  .br ((a.kind : Int) != b.kind)
  (.ret false)
  (.br ((a.node : Int) != b.node)
   (.ret false)
   (.br ((a.code : Int) != b.code)
    (.ret false)
    (.br ((a.value : Int) != b.value)
     (.ret false)
     (.br (!(a.holds == b.holds))
      (.ret false)
      (.br (!(a.known == b.known))
       (.ret false)
       (.br (!(laws_eqIval a.was b.was))
        (.ret false)
        (.br (!(laws_eqIval a.now b.now))
         (.ret false)
         (.ret true))))))))
def laws_eqTold (a : D.Told) (b : D.Told) : Bool := (laws_eqTold_T a b).val
theorem laws_eqTold_eqn (a : D.Told) (b : D.Told) : laws_eqTold a b =
  bif ((a.kind : Int) != b.kind) then
  (false)
  else (bif ((a.node : Int) != b.node) then
   (false)
   else (bif ((a.code : Int) != b.code) then
    (false)
    else (bif ((a.value : Int) != b.value) then
     (false)
     else (bif (!(a.holds == b.holds)) then
      (false)
      else (bif (!(a.known == b.known)) then
       (false)
       else (bif (!(laws_eqIval a.was b.was)) then
        (false)
        else (bif (!(laws_eqIval a.now b.now)) then
         (false)
         else (true)))))))) := by kernel_rfl
theorem laws_eqTold_start (a : D.Told) (b : D.Told) (k : Nat) (K : Kont) : bodyA V73 (run V73 k 9) 47 k [AV.agg (D.Told.cs a), AV.agg (D.Told.cs b)] [] (clean tab0 false 0 K) =
  (laws_eqTold_T a b).run (laws_eqTold_K K) := by kernel_rfl
theorem laws_eqTold_safe (a : D.Told) (b : D.Told) (ok_a : D.Told.ok a) (ok_b : D.Told.ok b) : (laws_eqTold_T a b).safe := by
  exact T.safe_free (by kernel_rfl)
theorem laws_eqTold_true (a : D.Told) (b : D.Told) (ok_a : D.Told.ok a) (ok_b : D.Told.ok b) (K : Kont) (h : (laws_eqTold_K K) (laws_eqTold a b) = true) : bodyA V73 (run V73 (0) 9) 47 (0) [AV.agg (D.Told.cs a), AV.agg (D.Told.cs b)] [] (clean tab0 false 0 K) = true := by
  rw [laws_eqTold_start]
  refine T.run_true (laws_eqTold_safe a b ok_a ok_b) ?_
  exact h
def laws_eqTold_go : List AV → List Blk → Kont → Bool
  | [.agg a_, .agg b_], [], K => (match D.Told.dec a_ with | some a => (match D.Told.dec b_ with | some b => laws_eqTold_K K (laws_eqTold a b) | none => false) | none => false)
  | _, _, _ => false
noncomputable def V47 : Env := V73.add 47 ⟨fun _ => true, [], laws_eqTold_go⟩
theorem V47_ok : EnvOk V47 := by
  refine V73_ok.put hm 47 _ _ laws_eqTold_go (fun args B K h oka okb => ?_)
  unfold laws_eqTold_go at h
  split at h
  · rename_i a_ b_
    split at h
    rotate_left
    · cases h
    rename_i a dec_a
    have dec_a := D.Told.dec_ok dec_a
    subst dec_a
    split at h
    rotate_left
    · cases h
    rename_i b dec_b
    have dec_b := D.Told.dec_ok dec_b
    subst dec_b
    have ok_a : D.Told.ok a := D.Told.okOf (oka _ (List.mem_of_getElem? (i := 0) rfl))
    have ok_b : D.Told.ok b := D.Told.okOf (oka _ (List.mem_of_getElem? (i := 1) rfl))
    exact ⟨_, 9, false, laws_eqTold_true a b ok_a ok_b K h⟩
  · cases h
def laws_eqToldS_K (K : Kont) (r : Bool) : Bool := K [AV.one (AC.bool r)] []
noncomputable def laws_eqToldS_l4_L (k m : Nat) (K : Kont) (st : St) : Bool := iter tab0 0 (exC V47 (run V47 k 9) 0 18 k (fstC (fstC (sndC (fstC (sndC (sndC (bodyC V47.P 18)))))))) [0, 1, 5] m st (kBlk 0 (kSeq (exC V47 (run V47 k 9) 0 18 k (sndC (sndC (sndC (bodyC V47.P 18))))) (kBody V47.P (resC V47.P 18) (clean tab0 false 0 K))))
def laws_eqToldS_l4_st (a : List D.Told) (b : List D.Told) (i : Int) (s : Unit) : St := ⟨[(0, AV.one (AC.dat .told a)), (1, AV.one (AC.dat .told b)), (5, AV.one (AC.int .i64 (i)))], []⟩
def laws_eqToldS_l4_body (a : List D.Told) (b : List D.Told) (i : Int) (x : D.Told) (s : Unit) : T (S (Unit) (Bool)) :=
  .grd (decide (0 ≤ i) && decide (i < (a.length : Int))) (.grd (decide (0 ≤ i) && decide (i < (b.length : Int))) (.br (!(laws_eqTold x (elem .told b (Int.toNat (i)))))
  (.ret (.out (false)))
  (.ret (.on ()))))
def laws_eqToldS_l4_done (a : List D.Told) (b : List D.Told) (s : Unit) : T (Bool) :=
  .ret true
theorem laws_eqToldS_l4_step (a : List D.Told) (b : List D.Told) (k m : Nat) (K : Kont) (i : Int) (s : Unit) : laws_eqToldS_l4_L k (m + 1) K (laws_eqToldS_l4_st a b i s) =
  br (decide (i < (a.length : Int))) ((laws_eqToldS_l4_body a b i (elem .told a (Int.toNat i)) s).run (S.k (fun s' => laws_eqToldS_l4_L k m K (laws_eqToldS_l4_st a b (w64 (i + 1)) s')) (laws_eqToldS_K K))) ((laws_eqToldS_l4_done a b s).run (laws_eqToldS_K K)) := by kernel_rfl
def laws_eqToldS_l4 (a : List D.Told) (b : List D.Told) (s : Unit) : Bool := forL (fun i x s => (laws_eqToldS_l4_body a b i x s).val) (fun s => (laws_eqToldS_l4_done a b s).val) a 0 s
theorem laws_eqToldS_l4_ok (a : List D.Told) (b : List D.Told) (k : Nat) (K : Kont) (s : Unit) (hl : a.length ≤ maxLen) (hk : a.length < k) (hi : (fun i s => (((a.length : Int) : Int) != (b.length : Int)) = false) 0 s) (h : (laws_eqToldS_K K) (laws_eqToldS_l4 a b s) = true) : laws_eqToldS_l4_L k k K (laws_eqToldS_l4_st a b 0 s) = true := by
  have hml := maxLen_eq
  have hmr := maxRows_eq
  refine forL_ok (L := fun m i s => laws_eqToldS_l4_L k m K (laws_eqToldS_l4_st a b i s)) (l := a) (dv := dflt .told) (body := laws_eqToldS_l4_body a b) (done := laws_eqToldS_l4_done a b) (fb := (fun i x s c => c)) (fd := fun c => c) (Kb := fun m i => S.k (fun s' => laws_eqToldS_l4_L k m K (laws_eqToldS_l4_st a b (w64 (i + 1)) s')) (laws_eqToldS_K K)) (Kd := (laws_eqToldS_K K)) (K := (laws_eqToldS_K K)) (fun m i s => laws_eqToldS_l4_step a b k m K i s) (fun i s => (((a.length : Int) : Int) != (b.length : Int)) = false) hl ?hb ?hd ?hKb ?hKd _ k 0 s (by omega) rfl (by omega) (by simp; omega) hi h
  case hb =>
    intro i s h0 hN hi
    refine ⟨?safe, ?pres⟩
    case safe =>
      try simp only [bne_eq_false_iff_eq, beq_iff_eq, decide_eq_false_iff_not, decide_eq_true_eq, Bool.and_eq_true, Bool.or_eq_false_iff, Bool.not_eq_eq_eq_not, Bool.not_true, Bool.not_false, beq_eq_false_iff_ne, bne_iff_ne, List.length_replicate, Int.toNat_natCast, List.length_set, List.length_map, List.length_append, List.length_cons, List.length_nil, List.length_take, List.length_drop, Nat.ble_eq] at hi
      simp only [laws_eqToldS_l4_body, T.safe, and_true, true_and, implies_true, bne_eq_false_iff_eq, beq_iff_eq, decide_eq_false_iff_not, decide_eq_true_eq, Bool.and_eq_true, Bool.or_eq_false_iff, Bool.not_eq_eq_eq_not, Bool.not_true, Bool.not_false, beq_eq_false_iff_ne, bne_iff_ne, List.length_replicate, Int.toNat_natCast, List.length_set, List.length_map, List.length_append, List.length_cons, List.length_nil, List.length_take, List.length_drop, Nat.ble_eq, laws_toToldS_pre]
      repeat' (first | exact trivial | apply And.intro | intro _)
      all_goals first | omega | (simp_all; done) | (simp_all; omega)
    case pres =>
      intro s' hs
      simp only [laws_eqToldS_l4_body, T.val, Bool.cond_eq_ite] at hs
      repeat' split at hs
      all_goals first | (cases hs; done) | (cases hs; exact hi) | (cases hs; refine ⟨?_, hi.2⟩; have hi := hi.1; simp only [bne_eq_false_iff_eq, beq_iff_eq, decide_eq_false_iff_not, decide_eq_true_eq, Bool.and_eq_true, Bool.or_eq_false_iff, Bool.not_eq_eq_eq_not, Bool.not_true, Bool.not_false, beq_eq_false_iff_ne, bne_iff_ne, List.length_replicate, Int.toNat_natCast, List.length_set, List.length_map, List.length_append, List.length_cons, List.length_nil, List.length_take, List.length_drop, Nat.ble_eq] at hi ⊢; omega) | (cases hs; simp only [bne_eq_false_iff_eq, beq_iff_eq, decide_eq_false_iff_not, decide_eq_true_eq, Bool.and_eq_true, Bool.or_eq_false_iff, Bool.not_eq_eq_eq_not, Bool.not_true, Bool.not_false, beq_eq_false_iff_ne, bne_iff_ne, List.length_replicate, Int.toNat_natCast, List.length_set, List.length_map, List.length_append, List.length_cons, List.length_nil, List.length_take, List.length_drop, Nat.ble_eq] at hi ⊢; first | exact hi | (simp_all; done) | omega)
  case hd =>
    intro s hi
    exact T.safe_free (by kernel_rfl)
  case hKb =>
    intro m i s h0 hN hi
    exact fun h => h
  case hKd =>
    intro s hi
    exact fun h => h
def laws_eqToldS_T (a : List D.Told) (b : List D.Told) : T (S (Unit) (Bool)) :=
  .br (((a.length : Int) : Int) != (b.length : Int))
  (.ret (.out (false)))
  (.ret (.on ()))
def laws_eqToldS (a : List D.Told) (b : List D.Told) : Bool := S.res (fun t => laws_eqToldS_l4 a b t) (laws_eqToldS_T a b).val
theorem laws_eqToldS_start (a : List D.Told) (b : List D.Told) (k : Nat) (K : Kont) : bodyA V47 (run V47 k 9) 18 k [AV.one (AC.dat .told a), AV.one (AC.dat .told b)] [] (clean tab0 false 0 K) =
  (laws_eqToldS_T a b).run (S.k (fun t => laws_eqToldS_l4_L k k K (laws_eqToldS_l4_st a b 0 t)) (laws_eqToldS_K K)) := by kernel_rfl
theorem laws_eqToldS_safe (a : List D.Told) (b : List D.Told) (ok_a : okL (okD .told) a) (ok_b : okL (okD .told) b) : (laws_eqToldS_T a b).safe := by
  exact T.safe_free (by kernel_rfl)
theorem laws_eqToldS_true (a : List D.Told) (b : List D.Told) (ok_a : okL (okD .told) a) (ok_b : okL (okD .told) b) (K : Kont) (h : (laws_eqToldS_K K) (laws_eqToldS a b) = true) : bodyA V47 (run V47 ((a.length + 1)) 9) 18 ((a.length + 1)) [AV.one (AC.dat .told a), AV.one (AC.dat .told b)] [] (clean tab0 false 0 K) = true := by
  rw [laws_eqToldS_start]
  refine T.run_true (laws_eqToldS_safe a b ok_a ok_b) ?_
  have hml := maxLen_eq
  have hmr := maxRows_eq
  have q_a := (ok_a).1
  have q_b := (ok_b).1
  unfold laws_eqToldS at h
  revert h
  cases hv : (laws_eqToldS_T a b).val with
  | on t =>
    intro h
    simp only [S.res, S.res2, S.k] at h ⊢
    exact laws_eqToldS_l4_ok a b _ K _ (by first | omega | (dsimp only; omega)) (by first | omega | (dsimp only; omega)) (by simp only [laws_eqToldS_T, T.val, Bool.cond_eq_ite] at hv; (repeat' split at hv) <;> first | (cases hv; done) | (cases hv; rfl) | (cases hv; simp_all; done) | (cases hv; simp_all; omega) | (cases hv; simp only [bne_eq_false_iff_eq, beq_iff_eq, decide_eq_false_iff_not, decide_eq_true_eq, Bool.and_eq_true, Bool.or_eq_false_iff, Bool.not_eq_eq_eq_not, Bool.not_true, Bool.not_false, beq_eq_false_iff_ne, bne_iff_ne, List.length_replicate, Int.toNat_natCast, List.length_set, List.length_map, List.length_append, List.length_cons, List.length_nil, List.length_take, List.length_drop, Nat.ble_eq]; omega)) h
  | out r => exact fun h => h
def laws_eqToldS_go : List AV → List Blk → Kont → Bool
  | [.one (AC.dat .told a), .one (AC.dat .told b)], [], K => laws_eqToldS_K K (laws_eqToldS a b)
  | _, _, _ => false
noncomputable def V18 : Env := V47.add 18 ⟨fun _ => true, [], laws_eqToldS_go⟩
theorem V18_ok : EnvOk V18 := by
  refine V47_ok.put hm 18 _ _ laws_eqToldS_go (fun args B K h oka okb => ?_)
  unfold laws_eqToldS_go at h
  split at h
  · rename_i a b
    have ok_a : okL (okD .told) a := oka _ (List.mem_of_getElem? (i := 0) rfl)
    have ok_b : okL (okD .told) b := oka _ (List.mem_of_getElem? (i := 1) rfl)
    exact ⟨_, 9, false, laws_eqToldS_true a b ok_a ok_b K h⟩
  · cases h
def laws_FnExactJudgeNonces_K (K : Kont) (r : Bool) : Bool := K [AV.one (AC.bool r)] []
def laws_FnExactJudgeNonces_T (a : List D.Told) : T (Bool) :=
  .br (decide (((laws_szToldS a 1048576) : Int) < 0))
  (.ret true)
  (let r1 : (List D.Told) := laws_toToldS a
   .grd (laws_toToldS_pre a) (let r2 : (List D.Told) := laws_toToldS a
   .grd (laws_toToldS_pre a) (.br (!((impl_JudgeNonces r2) == (spec_JudgeNonces r1)))
   (.ret false)
   (let r3 : (List D.Told) := laws_toToldS a
    .grd (laws_toToldS_pre a) (.br (!(laws_eqToldS r2 r3))
    (.ret false)
    (.ret true))))))
def laws_FnExactJudgeNonces (a : List D.Told) : Bool := (laws_FnExactJudgeNonces_T a).val
theorem laws_FnExactJudgeNonces_eqn (a : List D.Told) : laws_FnExactJudgeNonces a =
  bif (decide (((laws_szToldS a 1048576) : Int) < 0)) then
  (true)
  else (let r1 : (List D.Told) := laws_toToldS a
   let r2 : (List D.Told) := laws_toToldS a
   bif (!((impl_JudgeNonces r2) == (spec_JudgeNonces r1))) then
   (false)
   else (let r3 : (List D.Told) := laws_toToldS a
    bif (!(laws_eqToldS r2 r3)) then
    (false)
    else (true))) := by kernel_rfl
theorem laws_FnExactJudgeNonces_start (a : List D.Told) (k : Nat) : bodyA V18 (run V18 k 9) 4 k [AV.one (AC.dat .told a)] [] isTrue =
  (laws_FnExactJudgeNonces_T a).run (fun r => r) := by kernel_rfl
theorem laws_FnExactJudgeNonces_safe (a : List D.Told) (ok_a : okL (okD .told) a) : (laws_FnExactJudgeNonces_T a).safe := by
  have hml := maxLen_eq
  have hmr := maxRows_eq
  have q_a := (ok_a).1
  have hz := szToldS_le a 1048576 q_a (by omega) (by omega)
  have hml := maxLen_eq
  have hmr := maxRows_eq
  simp only [laws_FnExactJudgeNonces_T, T.safe, and_true, true_and, implies_true, bne_eq_false_iff_eq, beq_iff_eq, decide_eq_false_iff_not, decide_eq_true_eq, Bool.and_eq_true, Bool.or_eq_false_iff, Bool.not_eq_eq_eq_not, Bool.not_true, Bool.not_false, beq_eq_false_iff_ne, bne_iff_ne, List.length_replicate, Int.toNat_natCast, List.length_set, List.length_map, List.length_append, List.length_cons, List.length_nil, List.length_take, List.length_drop, Nat.ble_eq, laws_toToldS_pre]
  repeat' (first | exact trivial | apply And.intro | intro _)
  all_goals first | omega | (simp_all; done) | (simp_all; omega)
theorem laws_FnExactJudgeNonces_true (a : List D.Told) (ok_a : okL (okD .told) a) (h : laws_FnExactJudgeNonces a = true) : bodyA V18 (run V18 (0) 9) 4 (0) [AV.one (AC.dat .told a)] [] isTrue = true := by
  rw [laws_FnExactJudgeNonces_start]
  exact T.run_true (laws_FnExactJudgeNonces_safe a ok_a) h
end Go.X
