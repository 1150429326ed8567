/- Steps of the functions that a law of this seat reaches, and what they come to, for all arguments of the shapes that are named. -/
import Derived.Test.YtmcgkokjcimckaaYTree
import Derived.Test.YtmcgkokjcimckaaYLaw
import Derived.Test.YtmcgkokjcimckaaProg
set_option linter.all false
namespace Go.X
open Go
noncomputable def ann0 : FuncId → Nat → List Nat := annOf [(12, 7, [0, 3, 4]), (15, 4, [0, 3]), (15, 7, [0, 3, 4]), (16, 3, [0, 3, 4]), (17, 5, [3, 12, 13, 14]), (18, 4, [0, 1, 5]), (19, 4, [0, 3]), (20, 4, [8, 9, 10]), (21, 5, [0, 1, 5, 6]), (22, 5, [1, 5, 12, 13, 14]), (23, 4, [0, 1, 5]), (24, 2, [0, 1, 5]), (25, 2, [0, 1, 5]), (26, 2, [0, 1, 5]), (27, 3, [0, 1, 5, 6]), (29, 2, [0, 1, 5]), (37, 7, [1, 2, 4, 5, 7, 8]), (40, 5, [0, 3, 4]), (41, 4, [0, 14]), (41, 8, [0, 4, 5, 14, 23, 24, 25]), (45, 5, [0, 3, 9, 10]), (54, 3, [1, 5, 9, 10, 11]), (55, 5, [0, 1, 5]), (56, 3, [0, 3, 4]), (57, 4, [2, 10, 11, 12]), (61, 4, [0, 1, 5]), (62, 2, [0, 1, 5]), (63, 2, [0, 1, 5]), (64, 4, [1, 3]), (64, 9, [1, 3, 4]), (66, 3, [0, 3, 4]), (67, 3, [0, 3, 4, 5]), (68, 3, [3, 7, 8, 9]), (69, 5, [1, 5, 6, 21, 22, 23]), (77, 5, [1, 3, 18, 19, 20]), (79, 4, [0, 3]), (81, 2, [0, 1, 5]), (83, 5, [0, 1, 5, 6, 7])]
def tab0 : Tab := [(3, .int), (4, .bool), (5, .byte), (52, .flight), (61, .told), (65, .told), (89, .look), (91, .reading), (97, .flight)]
noncomputable def E0 : Env := ⟨Go.Proofs.Try.prog, tab0, ann0, fun _ => []⟩
theorem hm : Go.Proofs.Try.prog.follows .mixedOrders = true := by kernel_rfl
theorem tab_ok0 : tabOk Go.Proofs.Try.prog tab0 = true := by kernel_rfl
theorem E0_ok : EnvOk E0 := EnvOk.base tab_ok0 _
set_option linter.unusedVariables false
set_option linter.unusedSimpArgs false
def laws_szFlight_K (K : Kont) (r : Int) : Bool := K [AV.one (AC.int .i64 r)] []
def laws_szFlight_T (a : D.Flight) (b : Int) : T (Int) :=
  .br (decide (((w64 (b - (a.bytes.length : Int))) : Int) < 0))
  (.ret (-1))
  (.ret (w64 (b - (a.bytes.length : Int))))
def laws_szFlight (a : D.Flight) (b : Int) : Int := (laws_szFlight_T a b).val
theorem laws_szFlight_eqn (a : D.Flight) (b : Int) : laws_szFlight a b =
  bif (decide (((w64 (b - (a.bytes.length : Int))) : Int) < 0)) then
  ((-1))
  else ((w64 (b - (a.bytes.length : Int)))) := by kernel_rfl
theorem laws_szFlight_start (a : D.Flight) (b : Int) (k : Nat) (K : Kont) : bodyA E0 (run E0 k 9) 75 k [AV.agg (D.Flight.cs a), AV.one (AC.int .i64 b)] [] (clean tab0 false 0 K) =
  (laws_szFlight_T a b).run (laws_szFlight_K K) := by kernel_rfl
theorem laws_szFlight_safe (a : D.Flight) (b : Int) (ok_a : D.Flight.ok a) (ok_b : i64 b) : (laws_szFlight_T a b).safe := by
  exact T.safe_free (by kernel_rfl)
theorem laws_szFlight_true (a : D.Flight) (b : Int) (ok_a : D.Flight.ok a) (ok_b : i64 b) (K : Kont) (h : (laws_szFlight_K K) (laws_szFlight a b) = true) : bodyA E0 (run E0 (0) 9) 75 (0) [AV.agg (D.Flight.cs a), AV.one (AC.int .i64 b)] [] (clean tab0 false 0 K) = true := by
  rw [laws_szFlight_start]
  refine T.run_true (laws_szFlight_safe a b ok_a ok_b) ?_
  exact h
def laws_szFlight_go : List AV → List Blk → Kont → Bool
  | [.agg a_, .one (AC.int .i64 b)], [], K => (match D.Flight.dec a_ with | some a => laws_szFlight_K K (laws_szFlight a b) | none => false)
  | _, _, _ => false
noncomputable def V75 : Env := E0.add 75 ⟨fun _ => true, [], laws_szFlight_go⟩
theorem V75_ok : EnvOk V75 := by
  refine E0_ok.put hm 75 _ _ laws_szFlight_go (fun args B K h oka okb => ?_)
  unfold laws_szFlight_go at h
  split at h
  · rename_i a_ b
    split at h
    rotate_left
    · cases h
    rename_i a dec_a
    have dec_a := D.Flight.dec_ok dec_a
    subst dec_a
    have ok_a : D.Flight.ok a := D.Flight.okOf (oka _ (List.mem_of_getElem? (i := 0) rfl))
    have ok_b : i64 b := by have := oka _ (List.mem_of_getElem? (i := 1) rfl); exact wf_i64.1 this
    exact ⟨_, 9, false, laws_szFlight_true a b ok_a ok_b K h⟩
  · cases h
def laws_szFlightS_K (K : Kont) (r : Int) : Bool := K [AV.one (AC.int .i64 r)] []
noncomputable def laws_szFlightS_l5_L (k m : Nat) (K : Kont) (st : St) : Bool := iter tab0 0 (exC V75 (run V75 k 9) 0 55 k (fstC (fstC (sndC (fstC (sndC (sndC (sndC (bodyC V75.P 55))))))))) [0, 1, 5] m st (kBlk 0 (kSeq (exC V75 (run V75 k 9) 0 55 k (sndC (sndC (sndC (sndC (bodyC V75.P 55)))))) (kBody V75.P (resC V75.P 55) (clean tab0 false 0 K))))
def laws_szFlightS_l5_st (a : List D.Flight) (i : Int) (s : Int) : St := ⟨[(0, AV.one (AC.dat .flight a)), (1, AV.one (AC.int .i64 (s))), (5, AV.one (AC.int .i64 (i)))], []⟩
def laws_szFlightS_l5_body (a : List D.Flight) (i : Int) (x : D.Flight) (s : Int) : T (S (Int) (Int)) :=
  .grd (decide (0 ≤ i) && decide (i < (a.length : Int))) (.br (decide (((laws_szFlight x (s)) : Int) < 0))
  (.ret (.out ((-1))))
  (.ret (.on (laws_szFlight x (s)))))
def laws_szFlightS_l5_done (a : List D.Flight) (s : Int) : T (Int) :=
  .ret s
theorem laws_szFlightS_l5_step (a : List D.Flight) (k m : Nat) (K : Kont) (i : Int) (s : Int) : laws_szFlightS_l5_L k (m + 1) K (laws_szFlightS_l5_st a i s) =
  br (decide (i < (a.length : Int))) ((laws_szFlightS_l5_body a i (elem .flight a (Int.toNat i)) s).run (S.k (fun s' => laws_szFlightS_l5_L k m K (laws_szFlightS_l5_st a (w64 (i + 1)) s')) (laws_szFlightS_K K))) ((laws_szFlightS_l5_done a s).run (laws_szFlightS_K K)) := by kernel_rfl
def laws_szFlightS_l5 (a : List D.Flight) (s : Int) : Int := forL (fun i x s => (laws_szFlightS_l5_body a i x s).val) (fun s => (laws_szFlightS_l5_done a s).val) a 0 s
theorem laws_szFlightS_l5_ok (a : List D.Flight) (k : Nat) (K : Kont) (s : Int) (hl : a.length ≤ maxLen) (hk : a.length < k) (hi : (fun i s => True) 0 s) (h : (laws_szFlightS_K K) (laws_szFlightS_l5 a s) = true) : laws_szFlightS_l5_L k k K (laws_szFlightS_l5_st a 0 s) = true := by
  have hml := maxLen_eq
  have hmr := maxRows_eq
  refine forL_ok (L := fun m i s => laws_szFlightS_l5_L k m K (laws_szFlightS_l5_st a i s)) (l := a) (dv := dflt .flight) (body := laws_szFlightS_l5_body a) (done := laws_szFlightS_l5_done a) (fb := (fun i x s c => c)) (fd := fun c => c) (Kb := fun m i => S.k (fun s' => laws_szFlightS_l5_L k m K (laws_szFlightS_l5_st a (w64 (i + 1)) s')) (laws_szFlightS_K K)) (Kd := (laws_szFlightS_K K)) (K := (laws_szFlightS_K K)) (fun m i s => laws_szFlightS_l5_step a k m K i s) (fun i s => True) hl ?hb ?hd ?hKb ?hKd _ k 0 s (by omega) rfl (by omega) (by simp; omega) hi h
  case hb =>
    intro i s h0 hN hi
    refine ⟨?safe, fun _ _ => trivial⟩
    case safe =>
      simp only [laws_szFlightS_l5_body, T.safe, and_true, true_and, implies_true, bne_eq_false_iff_eq, beq_iff_eq, decide_eq_false_iff_not, decide_eq_true_eq, Bool.and_eq_true, Bool.or_eq_false_iff, Bool.not_eq_eq_eq_not, Bool.not_true, Bool.not_false, beq_eq_false_iff_ne, bne_iff_ne, List.length_replicate, Int.toNat_natCast, List.length_set, List.length_map, List.length_append, List.length_cons, List.length_nil, List.length_take, List.length_drop, Nat.ble_eq]
      repeat' (first | exact trivial | apply And.intro | intro _)
      all_goals first | omega | (simp_all; done) | (simp_all; omega)
  case hd =>
    intro s hi
    exact T.safe_free (by kernel_rfl)
  case hKb =>
    intro m i s h0 hN hi
    exact fun h => h
  case hKd =>
    intro s hi
    exact fun h => h
def laws_szFlightS_T (a : List D.Flight) (b : Int) : T (S (Int) (Int)) :=
  .br (decide (((w64 (b - (a.length : Int))) : Int) < 0))
  (.ret (.out ((-1))))
  (.ret (.on (w64 (b - (a.length : Int)))))
def laws_szFlightS (a : List D.Flight) (b : Int) : Int := S.res (fun t => laws_szFlightS_l5 a t) (laws_szFlightS_T a b).val
theorem laws_szFlightS_start (a : List D.Flight) (b : Int) (k : Nat) (K : Kont) : bodyA V75 (run V75 k 9) 55 k [AV.one (AC.dat .flight a), AV.one (AC.int .i64 b)] [] (clean tab0 false 0 K) =
  (laws_szFlightS_T a b).run (S.k (fun t => laws_szFlightS_l5_L k k K (laws_szFlightS_l5_st a 0 t)) (laws_szFlightS_K K)) := by kernel_rfl
theorem laws_szFlightS_safe (a : List D.Flight) (b : Int) (ok_a : okL (okD .flight) a) (ok_b : i64 b) : (laws_szFlightS_T a b).safe := by
  exact T.safe_free (by kernel_rfl)
theorem laws_szFlightS_true (a : List D.Flight) (b : Int) (ok_a : okL (okD .flight) a) (ok_b : i64 b) (K : Kont) (h : (laws_szFlightS_K K) (laws_szFlightS a b) = true) : bodyA V75 (run V75 ((a.length + 1)) 9) 55 ((a.length + 1)) [AV.one (AC.dat .flight a), AV.one (AC.int .i64 b)] [] (clean tab0 false 0 K) = true := by
  rw [laws_szFlightS_start]
  refine T.run_true (laws_szFlightS_safe a b ok_a ok_b) ?_
  have hml := maxLen_eq
  have hmr := maxRows_eq
  have q_a := (ok_a).1
  unfold laws_szFlightS at h
  revert h
  cases hv : (laws_szFlightS_T a b).val with
  | on t =>
    intro h
    simp only [S.res, S.res2, S.k] at h ⊢
    exact laws_szFlightS_l5_ok a _ K _ (by first | omega | (dsimp only; omega)) (by first | omega | (dsimp only; omega)) trivial h
  | out r => exact fun h => h
theorem szFlightS_le (a : List D.Flight) (n : Int) (ha : a.length ≤ maxLen) (h0 : 0 ≤ n) (hn : n ≤ 9223372036854775807) (h : 0 ≤ laws_szFlightS a n) : (a.length : Int) ≤ n := by
  have hml := maxLen_eq
  have hw : w64 (n - (a.length : Int)) = n - (a.length : Int) := w64_id (by omega) (by omega)
  unfold laws_szFlightS at h
  simp only [laws_szFlightS_T, T.val, Bool.cond_eq_ite, hw] at h
  split at h
  · simp [S.res] at h
  · rename_i hh; simp at hh; omega
def laws_szFlightS_go : List AV → List Blk → Kont → Bool
  | [.one (AC.dat .flight a), .one (AC.int .i64 b)], [], K => laws_szFlightS_K K (laws_szFlightS a b)
  | _, _, _ => false
noncomputable def V55 : Env := V75.add 55 ⟨fun _ => true, [], laws_szFlightS_go⟩
theorem V55_ok : EnvOk V55 := by
  refine V75_ok.put hm 55 _ _ laws_szFlightS_go (fun args B K h oka okb => ?_)
  unfold laws_szFlightS_go at h
  split at h
  · rename_i a b
    have ok_a : okL (okD .flight) a := oka _ (List.mem_of_getElem? (i := 0) rfl)
    have ok_b : i64 b := by have := oka _ (List.mem_of_getElem? (i := 1) rfl); exact wf_i64.1 this
    exact ⟨_, 9, false, laws_szFlightS_true a b ok_a ok_b K h⟩
  · cases h
def laws_szNet_K (K : Kont) (r : Int) : Bool := K [AV.one (AC.int .i64 r)] []
def laws_szNet_T (a : D.Net) (b : Int) : T (Int) :=
  .br (decide (((laws_szFlightS a.list b) : Int) < 0))
  (.ret (-1))
  (.ret (laws_szFlightS a.list b))
def laws_szNet (a : D.Net) (b : Int) : Int := (laws_szNet_T a b).val
theorem laws_szNet_eqn (a : D.Net) (b : Int) : laws_szNet a b =
  bif (decide (((laws_szFlightS a.list b) : Int) < 0)) then
  ((-1))
  else ((laws_szFlightS a.list b)) := by kernel_rfl
theorem laws_szNet_start (a : D.Net) (b : Int) (k : Nat) (K : Kont) : bodyA V55 (run V55 k 9) 30 k [AV.agg (D.Net.cs a), AV.one (AC.int .i64 b)] [] (clean tab0 false 0 K) =
  (laws_szNet_T a b).run (laws_szNet_K K) := by kernel_rfl
theorem laws_szNet_safe (a : D.Net) (b : Int) (ok_a : D.Net.ok a) (ok_b : i64 b) : (laws_szNet_T a b).safe := by
  exact T.safe_free (by kernel_rfl)
theorem laws_szNet_true (a : D.Net) (b : Int) (ok_a : D.Net.ok a) (ok_b : i64 b) (K : Kont) (h : (laws_szNet_K K) (laws_szNet a b) = true) : bodyA V55 (run V55 (0) 9) 30 (0) [AV.agg (D.Net.cs a), AV.one (AC.int .i64 b)] [] (clean tab0 false 0 K) = true := by
  rw [laws_szNet_start]
  refine T.run_true (laws_szNet_safe a b ok_a ok_b) ?_
  exact h
theorem szNet_le (a : D.Net) (n : Int) (ha : a.list.length ≤ maxLen) (h0 : 0 ≤ n) (hn : n ≤ 9223372036854775807) (h : 0 ≤ laws_szNet a n) : (a.list.length : Int) ≤ n := by
  refine szFlightS_le a.list n ha h0 hn ?_
  simp only [laws_szNet, laws_szNet_T, T.val, Bool.cond_eq_ite] at h
  split at h
  · omega
  · exact h
def laws_szNet_go : List AV → List Blk → Kont → Bool
  | [.agg a_, .one (AC.int .i64 b)], [], K => (match D.Net.dec a_ with | some a => laws_szNet_K K (laws_szNet a b) | none => false)
  | _, _, _ => false
noncomputable def V30 : Env := V55.add 30 ⟨fun _ => true, [], laws_szNet_go⟩
theorem V30_ok : EnvOk V30 := by
  refine V55_ok.put hm 30 _ _ laws_szNet_go (fun args B K h oka okb => ?_)
  unfold laws_szNet_go at h
  split at h
  · rename_i a_ b
    split at h
    rotate_left
    · cases h
    rename_i a dec_a
    have dec_a := D.Net.dec_ok dec_a
    subst dec_a
    have ok_a : D.Net.ok a := D.Net.okOf (oka _ (List.mem_of_getElem? (i := 0) rfl))
    have ok_b : i64 b := by have := oka _ (List.mem_of_getElem? (i := 1) rfl); exact wf_i64.1 this
    exact ⟨_, 9, false, laws_szNet_true a b ok_a ok_b K h⟩
  · cases h
def spec_l1In_K (K : Kont) (r : Bool) : Bool := K [AV.one (AC.bool r)] []
def spec_l1In_T (a : Int) (b : Int) (c : Int) : T (Bool) :=
  .br (decide ((b : Int) ≤ a))
  (.ret (decide ((a : Int) ≤ c)))
  (.ret false)
def spec_l1In (a : Int) (b : Int) (c : Int) : Bool := (spec_l1In_T a b c).val
theorem spec_l1In_eqn (a : Int) (b : Int) (c : Int) : spec_l1In a b c =
  bif (decide ((b : Int) ≤ a)) then
  ((decide ((a : Int) ≤ c)))
  else (false) := by kernel_rfl
theorem spec_l1In_start (a : Int) (b : Int) (c : Int) (k : Nat) (K : Kont) : bodyA V30 (run V30 k 9) 52 k [AV.one (AC.int .i64 a), AV.one (AC.int .i64 b), AV.one (AC.int .i64 c)] [] (clean tab0 false 0 K) =
  (spec_l1In_T a b c).run (spec_l1In_K K) := by kernel_rfl
theorem spec_l1In_safe (a : Int) (b : Int) (c : Int) (ok_a : i64 a) (ok_b : i64 b) (ok_c : i64 c) : (spec_l1In_T a b c).safe := by
  exact T.safe_free (by kernel_rfl)
theorem spec_l1In_true (a : Int) (b : Int) (c : Int) (ok_a : i64 a) (ok_b : i64 b) (ok_c : i64 c) (K : Kont) (h : (spec_l1In_K K) (spec_l1In a b c) = true) : bodyA V30 (run V30 (0) 9) 52 (0) [AV.one (AC.int .i64 a), AV.one (AC.int .i64 b), AV.one (AC.int .i64 c)] [] (clean tab0 false 0 K) = true := by
  rw [spec_l1In_start]
  refine T.run_true (spec_l1In_safe a b c ok_a ok_b ok_c) ?_
  exact h
def spec_l1In_go : List AV → List Blk → Kont → Bool
  | [.one (AC.int .i64 a), .one (AC.int .i64 b), .one (AC.int .i64 c)], [], K => spec_l1In_K K (spec_l1In a b c)
  | _, _, _ => false
noncomputable def V52 : Env := V30.add 52 ⟨fun _ => true, [], spec_l1In_go⟩
theorem V52_ok : EnvOk V52 := by
  refine V30_ok.put hm 52 _ _ spec_l1In_go (fun args B K h oka okb => ?_)
  unfold spec_l1In_go at h
  split at h
  · rename_i a b c
    have ok_a : i64 a := by have := oka _ (List.mem_of_getElem? (i := 0) rfl); exact wf_i64.1 this
    have ok_b : i64 b := by have := oka _ (List.mem_of_getElem? (i := 1) rfl); exact wf_i64.1 this
    have ok_c : i64 c := by have := oka _ (List.mem_of_getElem? (i := 2) rfl); exact wf_i64.1 this
    exact ⟨_, 9, false, spec_l1In_true a b c ok_a ok_b ok_c K h⟩
  · cases h
def spec_l4Node_K (K : Kont) (r : Bool) : Bool := K [AV.one (AC.bool r)] []
def spec_l4Node_T (a : Int) : T (Bool) :=
  .ret (spec_l1In a 0 7)
def spec_l4Node (a : Int) : Bool := (spec_l4Node_T a).val
theorem spec_l4Node_eqn (a : Int) : spec_l4Node a =
  (spec_l1In a 0 7) := by kernel_rfl
theorem spec_l4Node_start (a : Int) (k : Nat) (K : Kont) : bodyA V52 (run V52 k 9) 86 k [AV.one (AC.int .i64 a)] [] (clean tab0 false 0 K) =
  (spec_l4Node_T a).run (spec_l4Node_K K) := by kernel_rfl
theorem spec_l4Node_safe (a : Int) (ok_a : i64 a) : (spec_l4Node_T a).safe := by
  exact T.safe_free (by kernel_rfl)
theorem spec_l4Node_true (a : Int) (ok_a : i64 a) (K : Kont) (h : (spec_l4Node_K K) (spec_l4Node a) = true) : bodyA V52 (run V52 (0) 9) 86 (0) [AV.one (AC.int .i64 a)] [] (clean tab0 false 0 K) = true := by
  rw [spec_l4Node_start]
  refine T.run_true (spec_l4Node_safe a ok_a) ?_
  exact h
def spec_l4Node_go : List AV → List Blk → Kont → Bool
  | [.one (AC.int .i64 a)], [], K => spec_l4Node_K K (spec_l4Node a)
  | _, _, _ => false
noncomputable def V86 : Env := V52.add 86 ⟨fun _ => true, [], spec_l4Node_go⟩
theorem V86_ok : EnvOk V86 := by
  refine V52_ok.put hm 86 _ _ spec_l4Node_go (fun args B K h oka okb => ?_)
  unfold spec_l4Node_go at h
  split at h
  · rename_i a
    have ok_a : i64 a := by have := oka _ (List.mem_of_getElem? (i := 0) rfl); exact wf_i64.1 this
    exact ⟨_, 9, false, spec_l4Node_true a ok_a K h⟩
  · cases h
def spec_l2Time_K (K : Kont) (r : Bool) : Bool := K [AV.one (AC.bool r)] []
def spec_l2Time_T (a : Int) : T (Bool) :=
  .ret (spec_l1In a 0 1000000000000)
def spec_l2Time (a : Int) : Bool := (spec_l2Time_T a).val
theorem spec_l2Time_eqn (a : Int) : spec_l2Time a =
  (spec_l1In a 0 1000000000000) := by kernel_rfl
theorem spec_l2Time_start (a : Int) (k : Nat) (K : Kont) : bodyA V86 (run V86 k 9) 87 k [AV.one (AC.int .i64 a)] [] (clean tab0 false 0 K) =
  (spec_l2Time_T a).run (spec_l2Time_K K) := by kernel_rfl
theorem spec_l2Time_safe (a : Int) (ok_a : i64 a) : (spec_l2Time_T a).safe := by
  exact T.safe_free (by kernel_rfl)
theorem spec_l2Time_true (a : Int) (ok_a : i64 a) (K : Kont) (h : (spec_l2Time_K K) (spec_l2Time a) = true) : bodyA V86 (run V86 (0) 9) 87 (0) [AV.one (AC.int .i64 a)] [] (clean tab0 false 0 K) = true := by
  rw [spec_l2Time_start]
  refine T.run_true (spec_l2Time_safe a ok_a) ?_
  exact h
def spec_l2Time_go : List AV → List Blk → Kont → Bool
  | [.one (AC.int .i64 a)], [], K => spec_l2Time_K K (spec_l2Time a)
  | _, _, _ => false
noncomputable def V87 : Env := V86.add 87 ⟨fun _ => true, [], spec_l2Time_go⟩
theorem V87_ok : EnvOk V87 := by
  refine V86_ok.put hm 87 _ _ spec_l2Time_go (fun args B K h oka okb => ?_)
  unfold spec_l2Time_go at h
  split at h
  · rename_i a
    have ok_a : i64 a := by have := oka _ (List.mem_of_getElem? (i := 0) rfl); exact wf_i64.1 this
    exact ⟨_, 9, false, spec_l2Time_true a ok_a K h⟩
  · cases h
def spec_l5Flight_K (K : Kont) (r : Bool) : Bool := K [AV.one (AC.bool r)] []
def spec_l5Flight_T (a : D.Flight) : T (Bool) :=
  .br (spec_l4Node a.frm)
  (.br (spec_l4Node a.to)
   (.br (decide (((a.bytes.length : Int) : Int) ≤ 64))
    (.ret (spec_l2Time a.at_))
    (.ret false))
   (.ret false))
  (.ret false)
def spec_l5Flight (a : D.Flight) : Bool := (spec_l5Flight_T a).val
theorem spec_l5Flight_eqn (a : D.Flight) : spec_l5Flight a =
  bif (spec_l4Node a.frm) then
  (bif (spec_l4Node a.to) then
   (bif (decide (((a.bytes.length : Int) : Int) ≤ 64)) then
    ((spec_l2Time a.at_))
    else (false))
   else (false))
  else (false) := by kernel_rfl
theorem spec_l5Flight_start (a : D.Flight) (k : Nat) (K : Kont) : bodyA V87 (run V87 k 9) 80 k [AV.agg (D.Flight.cs a)] [] (clean tab0 false 0 K) =
  (spec_l5Flight_T a).run (spec_l5Flight_K K) := by kernel_rfl
theorem spec_l5Flight_safe (a : D.Flight) (ok_a : D.Flight.ok a) : (spec_l5Flight_T a).safe := by
  exact T.safe_free (by kernel_rfl)
theorem spec_l5Flight_true (a : D.Flight) (ok_a : D.Flight.ok a) (K : Kont) (h : (spec_l5Flight_K K) (spec_l5Flight a) = true) : bodyA V87 (run V87 (0) 9) 80 (0) [AV.agg (D.Flight.cs a)] [] (clean tab0 false 0 K) = true := by
  rw [spec_l5Flight_start]
  refine T.run_true (spec_l5Flight_safe a ok_a) ?_
  exact h
def spec_l5Flight_go : List AV → List Blk → Kont → Bool
  | [.agg a_], [], K => (match D.Flight.dec a_ with | some a => spec_l5Flight_K K (spec_l5Flight a) | none => false)
  | _, _, _ => false
noncomputable def V80 : Env := V87.add 80 ⟨fun _ => true, [], spec_l5Flight_go⟩
theorem V80_ok : EnvOk V80 := by
  refine V87_ok.put hm 80 _ _ spec_l5Flight_go (fun args B K h oka okb => ?_)
  unfold spec_l5Flight_go at h
  split at h
  · rename_i a_
    split at h
    rotate_left
    · cases h
    rename_i a dec_a
    have dec_a := D.Flight.dec_ok dec_a
    subst dec_a
    have ok_a : D.Flight.ok a := D.Flight.okOf (oka _ (List.mem_of_getElem? (i := 0) rfl))
    exact ⟨_, 9, false, spec_l5Flight_true a ok_a K h⟩
  · cases h
def spec_NetOk_K (K : Kont) (r : Bool) : Bool := K [AV.one (AC.bool r)] []
noncomputable def spec_NetOk_l4_L (k m : Nat) (K : Kont) (st : St) : Bool := iter tab0 0 (exC V80 (run V80 k 9) 0 64 k (fstC (fstC (sndC (fstC (sndC (sndC (bodyC V80.P 64)))))))) [1, 3] m st (kBlk 0 (kSeq (exC V80 (run V80 k 9) 0 64 k (sndC (sndC (sndC (bodyC V80.P 64))))) (kBody V80.P (resC V80.P 64) (clean tab0 false 0 K))))
def spec_NetOk_l4_st (a : D.Net) (i : Int) (s : Unit) : St := ⟨[(1, AV.one (AC.ptr 0 0 0)), (3, AV.one (AC.int .i64 (i)))], [Blk.box (D.Net.cs a)]⟩
noncomputable def spec_NetOk_l9_L (k m : Nat) (m4 : Nat) (K : Kont) (st : St) : Bool := iter tab0 0 (exC V80 (run V80 k 9) 0 64 k (fstC (fstC (sndC (sndC (fstC (fstC (sndC (fstC (fstC (sndC (fstC (sndC (sndC (bodyC V80.P 64))))))))))))))) [1, 3, 4] m st (kBlk 2 (kBlk 1 (kSeq (exC V80 (run V80 k 9) 0 64 k (sndC (sndC (fstC (fstC (sndC (fstC (sndC (sndC (bodyC V80.P 64)))))))))) (kRec tab0 0 [1, 3] (fun s => iter tab0 0 (exC V80 (run V80 k 9) 0 64 k (fstC (fstC (sndC (fstC (sndC (sndC (bodyC V80.P 64)))))))) [1, 3] m4 s (kBlk 0 (kSeq (exC V80 (run V80 k 9) 0 64 k (sndC (sndC (sndC (bodyC V80.P 64))))) (kBody V80.P (resC V80.P 64) (clean tab0 false 0 K))))) (kBlk 0 (kSeq (exC V80 (run V80 k 9) 0 64 k (sndC (sndC (sndC (bodyC V80.P 64))))) (kBody V80.P (resC V80.P 64) (clean tab0 false 0 K))))))))
def spec_NetOk_l9_st (a : D.Net) (i4 : Int) (i : Int) (s : Unit) : St := ⟨[(1, AV.one (AC.ptr 0 0 0)), (3, AV.one (AC.int .i64 (i4))), (4, AV.one (AC.int .i64 (i)))], [Blk.box (D.Net.cs a)]⟩
def spec_NetOk_l9_body (a : D.Net) (i4 : Int) (i : Int) (s : Unit) : T (S (Unit) (S (Unit) (Bool))) :=
  .grd (decide (0 ≤ i) && decide (i < (a.list.length : Int))) (.grd (decide (0 ≤ i4) && decide (i4 < (a.list.length : Int))) (.br (((elem .flight a.list (Int.toNat (i))).id : Int) == (elem .flight a.list (Int.toNat (i4))).id)
  (.ret (.out (.out (false))))
  (.ret (.on ()))))
def spec_NetOk_l9_done (a : D.Net) (i4 : Int) (s : Unit) : T (S (Unit) (Bool)) :=
  .ret (.on ())
theorem spec_NetOk_l9_step (a : D.Net) (i4 : Int) (k m : Nat) (m4 : Nat) (K : Kont) (i : Int) (s : Unit) : spec_NetOk_l9_L k (m + 1) m4 K (spec_NetOk_l9_st a i4 i s) =
  br (decide (i < i4)) ((spec_NetOk_l9_body a i4 i s).run (S.k (fun s' => spec_NetOk_l9_L k m m4 K (spec_NetOk_l9_st a i4 (w64 (i + 1)) s')) (S.k (fun so => spec_NetOk_l4_L k m4 K (spec_NetOk_l4_st a (w64 (i4 + 1)) so)) (spec_NetOk_K K)))) ((spec_NetOk_l9_done a i4 s).run (S.k (fun so => spec_NetOk_l4_L k m4 K (spec_NetOk_l4_st a (w64 (i4 + 1)) so)) (spec_NetOk_K K))) := by kernel_rfl
def spec_NetOk_l9 (a : D.Net) (i4 : Int) (s : Unit) : S (Unit) (Bool) := forN (fun i s => (spec_NetOk_l9_body a i4 i s).val) (fun s => (spec_NetOk_l9_done a i4 s).val) (Int.toNat (i4 - 0)) 0 s
theorem spec_NetOk_l9_ok (a : D.Net) (i4 : Int) (k : Nat) (m4 : Nat) (K : Kont) (s : Unit) (hl : i4 ≤ 9223372036854775807) (h0_4 : 0 ≤ i4) (hN_4 : i4 < (a.list.length : Int)) (hl_4 : (a.list.length : Int) ≤ 9223372036854775807) (hk : Int.toNat (i4 - 0) < k) (hi : (fun i s => True) 0 s) (h : (S.k (fun so => spec_NetOk_l4_L k m4 K (spec_NetOk_l4_st a (w64 (i4 + 1)) so)) (spec_NetOk_K K)) (spec_NetOk_l9 a i4 s) = true) : spec_NetOk_l9_L k k m4 K (spec_NetOk_l9_st a i4 0 s) = true := by
  have hml := maxLen_eq
  have hmr := maxRows_eq
  have hw_4 : w64 (i4 + 1) = i4 + 1 := w64_id (by omega) (by omega)
  refine forN_ok (L := fun m i s => spec_NetOk_l9_L k m m4 K (spec_NetOk_l9_st a i4 i s)) (N := i4) (body := spec_NetOk_l9_body a i4) (done := spec_NetOk_l9_done a i4) (fb := (fun i s c => c)) (fd := fun c => c) (Kb := fun m i => S.k (fun s' => spec_NetOk_l9_L k m m4 K (spec_NetOk_l9_st a i4 (w64 (i + 1)) s')) (S.k (fun so => spec_NetOk_l4_L k m4 K (spec_NetOk_l4_st a (w64 (i4 + 1)) so)) (spec_NetOk_K K))) (Kd := (S.k (fun so => spec_NetOk_l4_L k m4 K (spec_NetOk_l4_st a (w64 (i4 + 1)) so)) (spec_NetOk_K K))) (K := (S.k (fun so => spec_NetOk_l4_L k m4 K (spec_NetOk_l4_st a (w64 (i4 + 1)) so)) (spec_NetOk_K K))) (fun i s => True) (fun m i s _ => spec_NetOk_l9_step a i4 k m m4 K i s) hl ?hb ?hd ?hKb ?hKd _ k 0 s (by omega) rfl hk hi h
  case hb =>
    intro i s h0 hN hi
    refine ⟨?safe, fun _ _ => trivial⟩
    case safe =>
      simp only [spec_NetOk_l9_body, T.safe, and_true, true_and, implies_true, bne_eq_false_iff_eq, beq_iff_eq, decide_eq_false_iff_not, decide_eq_true_eq, Bool.and_eq_true, Bool.or_eq_false_iff, Bool.not_eq_eq_eq_not, Bool.not_true, Bool.not_false, beq_eq_false_iff_ne, bne_iff_ne, List.length_replicate, Int.toNat_natCast, List.length_set, List.length_map, List.length_append, List.length_cons, List.length_nil, List.length_take, List.length_drop, Nat.ble_eq, spec_l1In, spec_l1In_T, T.val, Bool.cond_eq_ite]
      repeat' (first | exact trivial | apply And.intro | intro _)
      all_goals first | omega | (simp_all; done) | (simp_all; omega)
  case hd =>
    intro s i h0 hN hi
    exact T.safe_free (by kernel_rfl)
  case hKb =>
    intro m i s h0 hN hi
    exact fun h => h
  case hKd =>
    intro s i h0 hN hi
    exact fun h => h
def spec_NetOk_l4_body (a : D.Net) (i : Int) (x : D.Flight) (s : Unit) : T (S (Unit) (S (Unit) (Bool))) :=
  .grd (decide (0 ≤ i) && decide (i < (a.list.length : Int))) (.br (!(spec_l5Flight x))
  (.both (.both (.ret (.out (.out (false))))
    (.ret (.out (.out (false)))))
   (.ret (.out (.out (false)))))
  (.both (.grd (decide (0 ≤ i) && decide (i < (a.list.length : Int))) (.both (.br (!(spec_l1In (x.id) 0 (w64 (a.next - 1))))
     (.ret (.out (.out (false))))
     (.ret (.out (.on ()))))
    (.br (!(spec_l1In (x.id) 0 (w64 (a.next - 1))))
     (.ret (.out (.out (false))))
     (.ret (.out (.on ()))))))
   (.grd (decide (0 ≤ i) && decide (i < (a.list.length : Int))) (.br (!(spec_l1In (x.id) 0 (w64 (a.next - 1))))
    (.ret (.out (.out (false))))
    (.ret (.out (.on ())))))))
def spec_NetOk_l4_done (a : D.Net) (s : Unit) : T (Bool) :=
  .ret true
theorem spec_NetOk_l4_step (a : D.Net) (k m : Nat) (K : Kont) (i : Int) (s : Unit) : spec_NetOk_l4_L k (m + 1) K (spec_NetOk_l4_st a i s) =
  br (decide (i < (a.list.length : Int))) ((spec_NetOk_l4_body a i (elem .flight a.list (Int.toNat i)) s).run (S.k (fun s' => spec_NetOk_l4_L k m K (spec_NetOk_l4_st a (w64 (i + 1)) s')) (S.k (fun t => spec_NetOk_l9_L k k m K (spec_NetOk_l9_st a i 0 t)) (spec_NetOk_K K)))) ((spec_NetOk_l4_done a s).run (spec_NetOk_K K)) := by kernel_rfl
def spec_NetOk_l4 (a : D.Net) (s : Unit) : Bool := forL (fun i x s => S.join (fun t => spec_NetOk_l9 a i t) (spec_NetOk_l4_body a i x s).val) (fun s => (spec_NetOk_l4_done a s).val) a.list 0 s
theorem spec_NetOk_l4_ok (a : D.Net) (k : Nat) (K : Kont) (s : Unit) (hl : a.list.length ≤ maxLen) (hk : a.list.length < k) (hi : (fun i s => True) 0 s) (h : (spec_NetOk_K K) (spec_NetOk_l4 a s) = true) : spec_NetOk_l4_L k k K (spec_NetOk_l4_st a 0 s) = true := by
  have hml := maxLen_eq
  have hmr := maxRows_eq
  refine forL_ok (L := fun m i s => spec_NetOk_l4_L k m K (spec_NetOk_l4_st a i s)) (l := a.list) (dv := dflt .flight) (body := spec_NetOk_l4_body a) (done := spec_NetOk_l4_done a) (fb := (fun i x s => S.join (fun t => spec_NetOk_l9 a i t))) (fd := fun c => c) (Kb := fun m i => S.k (fun s' => spec_NetOk_l4_L k m K (spec_NetOk_l4_st a (w64 (i + 1)) s')) (S.k (fun t => spec_NetOk_l9_L k k m K (spec_NetOk_l9_st a i 0 t)) (spec_NetOk_K K))) (Kd := (spec_NetOk_K K)) (K := (spec_NetOk_K K)) (fun m i s => spec_NetOk_l4_step a k m K i s) (fun i s => True) hl ?hb ?hd ?hKb ?hKd _ k 0 s (by omega) rfl (by omega) (by simp; omega) hi h
  case hb =>
    intro i s h0 hN hi
    refine ⟨?safe, fun _ _ => trivial⟩
    case safe =>
      simp only [spec_NetOk_l4_body, T.safe, and_true, true_and, implies_true, bne_eq_false_iff_eq, beq_iff_eq, decide_eq_false_iff_not, decide_eq_true_eq, Bool.and_eq_true, Bool.or_eq_false_iff, Bool.not_eq_eq_eq_not, Bool.not_true, Bool.not_false, beq_eq_false_iff_ne, bne_iff_ne, List.length_replicate, Int.toNat_natCast, List.length_set, List.length_map, List.length_append, List.length_cons, List.length_nil, List.length_take, List.length_drop, Nat.ble_eq, spec_l1In, spec_l1In_T, T.val, Bool.cond_eq_ite]
      repeat' (first | exact trivial | apply And.intro | intro _)
      all_goals first | omega | (simp_all; done) | (simp_all; omega)
  case hd =>
    intro s hi
    exact T.safe_free (by kernel_rfl)
  case hKb =>
    intro m i s h0 hN hi
    cases hv : (spec_NetOk_l4_body a i _ s).val with
    | on s' => exact fun h => h
    | out c =>
      cases c with
      | on t => intro h; simp only [S.res, S.res2, S.mapOut, S.join, S.k] at h ⊢; exact spec_NetOk_l9_ok a i k m K t (by omega) h0 (by omega) (by omega) (by omega) trivial h
      | out r => exact fun h => h
  case hKd =>
    intro s hi
    exact fun h => h
def spec_NetOk_T (a : D.Net) : T (S (Unit) (Bool)) :=
  .br (!(spec_l1In a.next 0 1000000))
  (.ret (.out (false)))
  (.br (decide ((40 : Int) < (a.list.length : Int)))
   (.ret (.out (false)))
   (.ret (.on ())))
def spec_NetOk (a : D.Net) : Bool := S.res (fun t => spec_NetOk_l4 a t) (spec_NetOk_T a).val
theorem spec_NetOk_start (a : D.Net) (k : Nat) (K : Kont) : bodyA V80 (run V80 k 9) 64 k [AV.agg (D.Net.cs a)] [] (clean tab0 false 0 K) =
  (spec_NetOk_T a).run (S.k (fun t => spec_NetOk_l4_L k k K (spec_NetOk_l4_st a 0 t)) (spec_NetOk_K K)) := by kernel_rfl
theorem spec_NetOk_safe (a : D.Net) (ok_a : D.Net.ok a) : (spec_NetOk_T a).safe := by
  exact T.safe_free (by kernel_rfl)
theorem spec_NetOk_true (a : D.Net) (ok_a : D.Net.ok a) (K : Kont) (h : (spec_NetOk_K K) (spec_NetOk a) = true) : bodyA V80 (run V80 ((a.list.length + 1)) 9) 64 ((a.list.length + 1)) [AV.agg (D.Net.cs a)] [] (clean tab0 false 0 K) = true := by
  rw [spec_NetOk_start]
  refine T.run_true (spec_NetOk_safe a ok_a) ?_
  have hml := maxLen_eq
  have hmr := maxRows_eq
  have q_a_list := (ok_a.2).1
  unfold spec_NetOk at h
  revert h
  cases hv : (spec_NetOk_T a).val with
  | on t =>
    intro h
    simp only [S.res, S.res2, S.k] at h ⊢
    exact spec_NetOk_l4_ok a _ K _ (by first | omega | (dsimp only; omega)) (by first | omega | (dsimp only; omega)) trivial h
  | out r => exact fun h => h
def spec_NetOk_go : List AV → List Blk → Kont → Bool
  | [.agg a_], [], K => (match D.Net.dec a_ with | some a => spec_NetOk_K K (spec_NetOk a) | none => false)
  | _, _, _ => false
noncomputable def V64 : Env := V80.add 64 ⟨fun _ => true, [], spec_NetOk_go⟩
theorem V64_ok : EnvOk V64 := by
  refine V80_ok.put hm 64 _ _ spec_NetOk_go (fun args B K h oka okb => ?_)
  unfold spec_NetOk_go at h
  split at h
  · rename_i a_
    split at h
    rotate_left
    · cases h
    rename_i a dec_a
    have dec_a := D.Net.dec_ok dec_a
    subst dec_a
    have ok_a : D.Net.ok a := D.Net.okOf (oka _ (List.mem_of_getElem? (i := 0) rfl))
    exact ⟨_, 9, false, spec_NetOk_true a ok_a K h⟩
  · cases h
def spec_l5Copy_K (K : Kont) (r : D.Net) : Bool := K [AV.agg [AC.int .i64 r.next, AC.own 0]] [Blk.rows 52 .flight r.list]
def spec_l5Copy_pre (a : D.Net) : Bool := decide (a.list.length ≤ 1048576)
def spec_l5Copy_T (a : D.Net) : T (D.Net) :=
  .both (.both (.grd (decide ((0 + a.list.length) * 48 ≤ maxRows)) (.ret (⟨a.next, ([] ++ a.list)⟩ : D.Net)))
   (.grd (decide ((0 + a.list.length) * 48 ≤ maxRows)) (.ret (⟨a.next, ([] ++ a.list)⟩ : D.Net))))
  (.both (.both (.grd (decide ((0 + a.list.length) * 48 ≤ maxRows)) (.ret (⟨a.next, ([] ++ a.list)⟩ : D.Net)))
    (.both (.grd (decide ((0 + a.list.length) * 48 ≤ maxRows)) (.ret (⟨a.next, ([] ++ a.list)⟩ : D.Net)))
     (.grd (decide ((0 + a.list.length) * 48 ≤ maxRows)) (.ret (⟨a.next, ([] ++ a.list)⟩ : D.Net)))))
   (.both (.grd (decide ((0 + a.list.length) * 48 ≤ maxRows)) (.ret (⟨a.next, ([] ++ a.list)⟩ : D.Net)))
    (.both (.grd (decide ((0 + a.list.length) * 48 ≤ maxRows)) (.ret (⟨a.next, ([] ++ a.list)⟩ : D.Net)))
     (.grd (decide ((0 + a.list.length) * 48 ≤ maxRows)) (.ret (⟨a.next, ([] ++ a.list)⟩ : D.Net))))))
def spec_l5Copy (a : D.Net) : D.Net := (spec_l5Copy_T a).val
theorem spec_l5Copy_eqn (a : D.Net) : spec_l5Copy a =
  (⟨a.next, ([] ++ a.list)⟩ : D.Net) := by kernel_rfl
theorem spec_l5Copy_start (a : D.Net) (k : Nat) (K : Kont) : bodyA V64 (run V64 k 9) 65 k [AV.agg (D.Net.cs a)] [] (clean tab0 false 0 K) =
  (spec_l5Copy_T a).run (spec_l5Copy_K K) := by kernel_rfl
theorem spec_l5Copy_safe (a : D.Net) (ok_a : D.Net.ok a) (hp : spec_l5Copy_pre a = true) : (spec_l5Copy_T a).safe := by
  have hml := maxLen_eq
  have hmr := maxRows_eq
  have q_a_list := (ok_a.2).1
  have hpp := hp
  simp only [spec_l5Copy_pre, Bool.and_eq_true, decide_eq_true_eq] at hpp
  have hml := maxLen_eq
  have hmr := maxRows_eq
  simp only [spec_l5Copy_T, T.safe, and_true, true_and, implies_true, bne_eq_false_iff_eq, beq_iff_eq, decide_eq_false_iff_not, decide_eq_true_eq, Bool.and_eq_true, Bool.or_eq_false_iff, Bool.not_eq_eq_eq_not, Bool.not_true, Bool.not_false, beq_eq_false_iff_ne, bne_iff_ne, List.length_replicate, Int.toNat_natCast, List.length_set, List.length_map, List.length_append, List.length_cons, List.length_nil, List.length_take, List.length_drop, Nat.ble_eq, spec_l1In, spec_l1In_T, T.val, Bool.cond_eq_ite, spec_l5Copy_pre]
  repeat' (first | exact trivial | apply And.intro | intro _)
  all_goals first | omega | (simp_all; done) | (simp_all; omega)
theorem spec_l5Copy_true (a : D.Net) (ok_a : D.Net.ok a) (hp : spec_l5Copy_pre a = true) (K : Kont) (h : (spec_l5Copy_K K) (spec_l5Copy a) = true) : bodyA V64 (run V64 (0) 9) 65 (0) [AV.agg (D.Net.cs a)] [] (clean tab0 false 0 K) = true := by
  rw [spec_l5Copy_start]
  refine T.run_true (spec_l5Copy_safe a ok_a hp) ?_
  exact h
theorem l5Copy_eq (a : D.Net) : spec_l5Copy a = a := by
  simp [spec_l5Copy, spec_l5Copy_T, T.val]
def spec_l5Copy_go : List AV → List Blk → Kont → Bool
  | [.agg a_], [], K => (match D.Net.dec a_ with | some a => grd (spec_l5Copy_pre a) (spec_l5Copy_K K (spec_l5Copy a)) | none => false)
  | _, _, _ => false
noncomputable def V65 : Env := V64.add 65 ⟨fun _ => true, [], spec_l5Copy_go⟩
theorem V65_ok : EnvOk V65 := by
  refine V64_ok.put hm 65 _ _ spec_l5Copy_go (fun args B K h oka okb => ?_)
  unfold spec_l5Copy_go at h
  split at h
  · rename_i a_
    split at h
    rotate_left
    · cases h
    rename_i a dec_a
    have dec_a := D.Net.dec_ok dec_a
    subst dec_a
    have ok_a : D.Net.ok a := D.Net.okOf (oka _ (List.mem_of_getElem? (i := 0) rfl))
    obtain ⟨hp, h⟩ := grd_ok h
    exact ⟨_, 9, false, spec_l5Copy_true a ok_a hp K h⟩
  · cases h
def spec_NetTake_K (K : Kont) (r : D.Net × D.Flight × Int) : Bool := K [AV.agg [AC.int .i64 r.1.next, AC.own 0], AV.agg (D.Flight.cs r.2.1), AV.one (AC.int .i64 r.2.2)] [Blk.rows 52 .flight r.1.list]
def spec_NetTake_pre (a : D.Net) (b : Int) : Bool := decide (a.list.length ≤ 1048576)
noncomputable def spec_NetTake_l7_L (k m : Nat) (K : Kont) (st : St) : Bool := iter tab0 0 (exC V65 (run V65 k 9) 0 37 k (fstC (fstC (sndC (fstC (sndC (sndC (sndC (sndC (bodyC V65.P 37)))))))))) [1, 2, 4, 5, 7, 8] m st (kBlk 0 (kSeq (exC V65 (run V65 k 9) 0 37 k (sndC (sndC (sndC (sndC (sndC (bodyC V65.P 37))))))) (kBody V65.P (resC V65.P 37) (clean tab0 false 0 K))))
def spec_NetTake_l7_st (a : D.Net) (b : Int) (i : Int) (s : (List D.Flight)) : St := ⟨[(1, AV.one (AC.int .i64 b)), (2, AV.one (AC.ptr 0 0 0)), (4, AV.one (AC.ptr 1 0 0)), (5, AV.one (AC.ptr 2 0 0)), (7, AV.one (AC.ptr 3 0 0)), (8, AV.one (AC.int .i64 (i)))], [Blk.box (D.Net.cs a), Blk.box [AC.int .i64 0, AC.own 4], Blk.box [AC.int .i64 0, AC.int .i64 0, AC.int .i64 0, AC.str [], AC.int .i64 0], Blk.box [AC.int .i64 a.next, AC.own 5], Blk.rows 52 .flight [], Blk.rows 52 .flight (s)]⟩
def spec_NetTake_l7_body (a : D.Net) (b : Int) (i : Int) (x : D.Flight) (s : (List D.Flight)) : T (S ((List D.Flight)) (D.Net × D.Flight × Int)) :=
  .br ((i : Int) != b)
  (.both (.grd (decide (0 ≤ i) && decide (i < (a.list.length : Int))) (.grd (decide (((s).length + 1) * 48 ≤ maxRows)) (.ret (.on (s ++ [x])))))
   (.grd (decide (0 ≤ i) && decide (i < (a.list.length : Int))) (.both (.grd (decide (((s).length + 1) * 48 ≤ maxRows)) (.ret (.on (s ++ [x]))))
    (.both (.grd (decide (((s).length + 1) * 48 ≤ maxRows)) (.ret (.on (s ++ [x]))))
     (.grd (decide (((s).length + 1) * 48 ≤ maxRows)) (.ret (.on (s ++ [x]))))))))
  (.ret (.on s))
def spec_NetTake_l7_done (a : D.Net) (b : Int) (s : (List D.Flight)) : T (D.Net × D.Flight × Int) :=
  .both (.both (.grd (decide (0 ≤ b) && decide (b < (a.list.length : Int))) (.both (.ret ((⟨a.next, s⟩ : D.Net), (elem .flight a.list (Int.toNat b)), 0))
    (.ret ((⟨a.next, s⟩ : D.Net), (elem .flight a.list (Int.toNat b)), 0))))
   (.grd (decide (0 ≤ b) && decide (b < (a.list.length : Int))) (.ret ((⟨a.next, s⟩ : D.Net), (elem .flight a.list (Int.toNat b)), 0))))
  (.grd (decide (0 ≤ b) && decide (b < (a.list.length : Int))) (.both (.both (.ret ((⟨a.next, s⟩ : D.Net), (elem .flight a.list (Int.toNat b)), 0))
    (.ret ((⟨a.next, s⟩ : D.Net), (elem .flight a.list (Int.toNat b)), 0)))
   (.ret ((⟨a.next, s⟩ : D.Net), (elem .flight a.list (Int.toNat b)), 0))))
theorem spec_NetTake_l7_step (a : D.Net) (b : Int) (k m : Nat) (K : Kont) (i : Int) (s : (List D.Flight)) : spec_NetTake_l7_L k (m + 1) K (spec_NetTake_l7_st a b i s) =
  br (decide (i < (a.list.length : Int))) ((spec_NetTake_l7_body a b i (elem .flight a.list (Int.toNat i)) s).run (S.k (fun s' => spec_NetTake_l7_L k m K (spec_NetTake_l7_st a b (w64 (i + 1)) s')) (spec_NetTake_K K))) ((spec_NetTake_l7_done a b s).run (spec_NetTake_K K)) := by kernel_rfl
def spec_NetTake_l7 (a : D.Net) (b : Int) (s : (List D.Flight)) : D.Net × D.Flight × Int := forL (fun i x s => (spec_NetTake_l7_body a b i x s).val) (fun s => (spec_NetTake_l7_done a b s).val) a.list 0 s
theorem spec_NetTake_l7_ok (a : D.Net) (b : Int) (k : Nat) (K : Kont) (s : (List D.Flight)) (hl : a.list.length ≤ maxLen) (hp : spec_NetTake_pre a b = true) (hk : a.list.length < k) (hi : (fun i s => (s.length : Int) ≤ (([] : List D.Flight).length : Int) + i ∧ (!(spec_NetOk a)) = false ∧ (decide ((b : Int) < 0)) = false ∧ (decide (((a.list.length : Int) : Int) ≤ b)) = false) 0 s) (h : (spec_NetTake_K K) (spec_NetTake_l7 a b s) = true) : spec_NetTake_l7_L k k K (spec_NetTake_l7_st a b 0 s) = true := by
  have hml := maxLen_eq
  have hmr := maxRows_eq
  have hpp := hp
  simp only [spec_NetTake_pre, Bool.and_eq_true, decide_eq_true_eq] at hpp
  refine forL_ok (L := fun m i s => spec_NetTake_l7_L k m K (spec_NetTake_l7_st a b i s)) (l := a.list) (dv := dflt .flight) (body := spec_NetTake_l7_body a b) (done := spec_NetTake_l7_done a b) (fb := (fun i x s c => c)) (fd := fun c => c) (Kb := fun m i => S.k (fun s' => spec_NetTake_l7_L k m K (spec_NetTake_l7_st a b (w64 (i + 1)) s')) (spec_NetTake_K K)) (Kd := (spec_NetTake_K K)) (K := (spec_NetTake_K K)) (fun m i s => spec_NetTake_l7_step a b k m K i s) (fun i s => (s.length : Int) ≤ (([] : List D.Flight).length : Int) + i ∧ (!(spec_NetOk a)) = false ∧ (decide ((b : Int) < 0)) = false ∧ (decide (((a.list.length : Int) : Int) ≤ b)) = false) hl ?hb ?hd ?hKb ?hKd _ k 0 s (by omega) rfl (by omega) (by simp; omega) hi h
  case hb =>
    intro i s h0 hN hi
    refine ⟨?safe, ?pres⟩
    case safe =>
      try simp only [bne_eq_false_iff_eq, beq_iff_eq, decide_eq_false_iff_not, decide_eq_true_eq, Bool.and_eq_true, Bool.or_eq_false_iff, Bool.not_eq_eq_eq_not, Bool.not_true, Bool.not_false, beq_eq_false_iff_ne, bne_iff_ne, List.length_replicate, Int.toNat_natCast, List.length_set, List.length_map, List.length_append, List.length_cons, List.length_nil, List.length_take, List.length_drop, Nat.ble_eq] at hi
      simp only [spec_NetTake_l7_body, T.safe, and_true, true_and, implies_true, bne_eq_false_iff_eq, beq_iff_eq, decide_eq_false_iff_not, decide_eq_true_eq, Bool.and_eq_true, Bool.or_eq_false_iff, Bool.not_eq_eq_eq_not, Bool.not_true, Bool.not_false, beq_eq_false_iff_ne, bne_iff_ne, List.length_replicate, Int.toNat_natCast, List.length_set, List.length_map, List.length_append, List.length_cons, List.length_nil, List.length_take, List.length_drop, Nat.ble_eq, spec_l1In, spec_l1In_T, T.val, Bool.cond_eq_ite, spec_l5Copy_pre, l5Copy_eq, spec_NetTake_pre]
      repeat' (first | exact trivial | apply And.intro | intro _)
      all_goals first | omega | (simp_all; done) | (simp_all; omega)
    case pres =>
      intro s' hs
      simp only [spec_NetTake_l7_body, T.val, Bool.cond_eq_ite] at hs
      repeat' split at hs
      all_goals first | (cases hs; done) | (cases hs; exact hi) | (cases hs; refine ⟨?_, hi.2⟩; have hi := hi.1; simp only [bne_eq_false_iff_eq, beq_iff_eq, decide_eq_false_iff_not, decide_eq_true_eq, Bool.and_eq_true, Bool.or_eq_false_iff, Bool.not_eq_eq_eq_not, Bool.not_true, Bool.not_false, beq_eq_false_iff_ne, bne_iff_ne, List.length_replicate, Int.toNat_natCast, List.length_set, List.length_map, List.length_append, List.length_cons, List.length_nil, List.length_take, List.length_drop, Nat.ble_eq] at hi ⊢; omega) | (cases hs; simp only [bne_eq_false_iff_eq, beq_iff_eq, decide_eq_false_iff_not, decide_eq_true_eq, Bool.and_eq_true, Bool.or_eq_false_iff, Bool.not_eq_eq_eq_not, Bool.not_true, Bool.not_false, beq_eq_false_iff_ne, bne_iff_ne, List.length_replicate, Int.toNat_natCast, List.length_set, List.length_map, List.length_append, List.length_cons, List.length_nil, List.length_take, List.length_drop, Nat.ble_eq] at hi ⊢; first | exact hi | (simp_all; done) | omega)
  case hd =>
    intro s hi
    try simp only [bne_eq_false_iff_eq, beq_iff_eq, decide_eq_false_iff_not, decide_eq_true_eq, Bool.and_eq_true, Bool.or_eq_false_iff, Bool.not_eq_eq_eq_not, Bool.not_true, Bool.not_false, beq_eq_false_iff_ne, bne_iff_ne, List.length_replicate, Int.toNat_natCast, List.length_set, List.length_map, List.length_append, List.length_cons, List.length_nil, List.length_take, List.length_drop, Nat.ble_eq] at hi
    simp only [spec_NetTake_l7_done, T.safe, and_true, true_and, implies_true, bne_eq_false_iff_eq, beq_iff_eq, decide_eq_false_iff_not, decide_eq_true_eq, Bool.and_eq_true, Bool.or_eq_false_iff, Bool.not_eq_eq_eq_not, Bool.not_true, Bool.not_false, beq_eq_false_iff_ne, bne_iff_ne, List.length_replicate, Int.toNat_natCast, List.length_set, List.length_map, List.length_append, List.length_cons, List.length_nil, List.length_take, List.length_drop, Nat.ble_eq, spec_l1In, spec_l1In_T, T.val, Bool.cond_eq_ite, spec_l5Copy_pre, l5Copy_eq, spec_NetTake_pre]
    repeat' (first | exact trivial | apply And.intro | intro _)
    all_goals first | omega | (simp_all; done) | (simp_all; omega)
  case hKb =>
    intro m i s h0 hN hi
    exact fun h => h
  case hKd =>
    intro s hi
    exact fun h => h
def spec_NetTake_T (a : D.Net) (b : Int) : T (S ((List D.Flight)) (D.Net × D.Flight × Int)) :=
  .br (!(spec_NetOk a))
  (.ret (.out ((D.Net.zero, D.Flight.zero, 1))))
  (.br (decide ((b : Int) < 0))
   (let r1 : D.Net := spec_l5Copy a
    .grd (spec_l5Copy_pre a) (.ret (.out ((r1, D.Flight.zero, 2)))))
   (.br (decide (((a.list.length : Int) : Int) ≤ b))
    (let r2 : D.Net := spec_l5Copy a
     .grd (spec_l5Copy_pre a) (.ret (.out ((r2, D.Flight.zero, 2)))))
    (.ret (.on []))))
def spec_NetTake (a : D.Net) (b : Int) : D.Net × D.Flight × Int := S.res (fun t => spec_NetTake_l7 a b t) (spec_NetTake_T a b).val
theorem spec_NetTake_start (a : D.Net) (b : Int) (k : Nat) (K : Kont) : bodyA V65 (run V65 k 9) 37 k [AV.agg (D.Net.cs a), AV.one (AC.int .i64 b)] [] (clean tab0 false 0 K) =
  (spec_NetTake_T a b).run (S.k (fun t => spec_NetTake_l7_L k k K (spec_NetTake_l7_st a b 0 t)) (spec_NetTake_K K)) := by kernel_rfl
theorem spec_NetTake_safe (a : D.Net) (b : Int) (ok_a : D.Net.ok a) (ok_b : i64 b) (hp : spec_NetTake_pre a b = true) : (spec_NetTake_T a b).safe := by
  have hml := maxLen_eq
  have hmr := maxRows_eq
  have q_a_list := (ok_a.2).1
  have hpp := hp
  simp only [spec_NetTake_pre, Bool.and_eq_true, decide_eq_true_eq] at hpp
  have hml := maxLen_eq
  have hmr := maxRows_eq
  simp only [spec_NetTake_T, T.safe, and_true, true_and, implies_true, bne_eq_false_iff_eq, beq_iff_eq, decide_eq_false_iff_not, decide_eq_true_eq, Bool.and_eq_true, Bool.or_eq_false_iff, Bool.not_eq_eq_eq_not, Bool.not_true, Bool.not_false, beq_eq_false_iff_ne, bne_iff_ne, List.length_replicate, Int.toNat_natCast, List.length_set, List.length_map, List.length_append, List.length_cons, List.length_nil, List.length_take, List.length_drop, Nat.ble_eq, spec_l1In, spec_l1In_T, T.val, Bool.cond_eq_ite, spec_l5Copy_pre, l5Copy_eq, spec_NetTake_pre]
  repeat' (first | exact trivial | apply And.intro | intro _)
  all_goals first | omega | (simp_all; done) | (simp_all; omega)
theorem spec_NetTake_true (a : D.Net) (b : Int) (ok_a : D.Net.ok a) (ok_b : i64 b) (hp : spec_NetTake_pre a b = true) (K : Kont) (h : (spec_NetTake_K K) (spec_NetTake a b) = true) : bodyA V65 (run V65 ((a.list.length + 1)) 9) 37 ((a.list.length + 1)) [AV.agg (D.Net.cs a), AV.one (AC.int .i64 b)] [] (clean tab0 false 0 K) = true := by
  rw [spec_NetTake_start]
  refine T.run_true (spec_NetTake_safe a b ok_a ok_b hp) ?_
  have hml := maxLen_eq
  have hmr := maxRows_eq
  have q_a_list := (ok_a.2).1
  have hpp := hp
  simp only [spec_NetTake_pre, Bool.and_eq_true, decide_eq_true_eq] at hpp
  unfold spec_NetTake at h
  revert h
  cases hv : (spec_NetTake_T a b).val with
  | on t =>
    intro h
    simp only [S.res, S.res2, S.k] at h ⊢
    exact spec_NetTake_l7_ok a b _ K _ (by first | omega | (dsimp only; omega)) hp (by first | omega | (dsimp only; omega)) (by simp only [spec_NetTake_T, T.val, Bool.cond_eq_ite] at hv; (repeat' split at hv) <;> first | (cases hv; done) | (cases hv; rfl) | (cases hv; simp_all; done) | (cases hv; simp_all; omega) | (cases hv; simp only [bne_eq_false_iff_eq, beq_iff_eq, decide_eq_false_iff_not, decide_eq_true_eq, Bool.and_eq_true, Bool.or_eq_false_iff, Bool.not_eq_eq_eq_not, Bool.not_true, Bool.not_false, beq_eq_false_iff_ne, bne_iff_ne, List.length_replicate, Int.toNat_natCast, List.length_set, List.length_map, List.length_append, List.length_cons, List.length_nil, List.length_take, List.length_drop, Nat.ble_eq]; omega)) h
  | out r => exact fun h => h
def spec_NetTake_go : List AV → List Blk → Kont → Bool
  | [.agg a_, .one (AC.int .i64 b)], [], K => (match D.Net.dec a_ with | some a => grd (spec_NetTake_pre a b) (spec_NetTake_K K (spec_NetTake a b)) | none => false)
  | _, _, _ => false
noncomputable def V37 : Env := V65.add 37 ⟨fun _ => true, [], spec_NetTake_go⟩
theorem V37_ok : EnvOk V37 := by
  refine V65_ok.put hm 37 _ _ spec_NetTake_go (fun args B K h oka okb => ?_)
  unfold spec_NetTake_go at h
  split at h
  · rename_i a_ b
    split at h
    rotate_left
    · cases h
    rename_i a dec_a
    have dec_a := D.Net.dec_ok dec_a
    subst dec_a
    have ok_a : D.Net.ok a := D.Net.okOf (oka _ (List.mem_of_getElem? (i := 0) rfl))
    have ok_b : i64 b := by have := oka _ (List.mem_of_getElem? (i := 1) rfl); exact wf_i64.1 this
    obtain ⟨hp, h⟩ := grd_ok h
    exact ⟨_, 9, false, spec_NetTake_true a b ok_a ok_b hp K h⟩
  · cases h
def spec_NetDrop_K (K : Kont) (r : D.Net × Int) : Bool := K [AV.agg [AC.int .i64 r.1.next, AC.own 0], AV.one (AC.int .i64 r.2)] [Blk.rows 52 .flight r.1.list]
def spec_NetDrop_pre (a : D.Net) (b : Int) : Bool := decide (a.list.length ≤ 1048576)
def spec_NetDrop_T (a : D.Net) (b : Int) : T (D.Net × Int) :=
  let r1 : D.Net × D.Flight × Int := spec_NetTake a b
  .grd (spec_NetTake_pre a b) (.ret (r1.1, r1.2.2))
def spec_NetDrop (a : D.Net) (b : Int) : D.Net × Int := (spec_NetDrop_T a b).val
theorem spec_NetDrop_eqn (a : D.Net) (b : Int) : spec_NetDrop a b =
  let r1 : D.Net × D.Flight × Int := spec_NetTake a b
  (r1.1, r1.2.2) := by kernel_rfl
theorem spec_NetDrop_start (a : D.Net) (b : Int) (k : Nat) (K : Kont) : bodyA V37 (run V37 k 9) 31 k [AV.agg (D.Net.cs a), AV.one (AC.int .i64 b)] [] (clean tab0 false 0 K) =
  (spec_NetDrop_T a b).run (spec_NetDrop_K K) := by kernel_rfl
theorem spec_NetDrop_safe (a : D.Net) (b : Int) (ok_a : D.Net.ok a) (ok_b : i64 b) (hp : spec_NetDrop_pre a b = true) : (spec_NetDrop_T a b).safe := by
  have hml := maxLen_eq
  have hmr := maxRows_eq
  have q_a_list := (ok_a.2).1
  have hpp := hp
  simp only [spec_NetDrop_pre, Bool.and_eq_true, decide_eq_true_eq] at hpp
  have hml := maxLen_eq
  have hmr := maxRows_eq
  simp only [spec_NetDrop_T, T.safe, and_true, true_and, implies_true, bne_eq_false_iff_eq, beq_iff_eq, decide_eq_false_iff_not, decide_eq_true_eq, Bool.and_eq_true, Bool.or_eq_false_iff, Bool.not_eq_eq_eq_not, Bool.not_true, Bool.not_false, beq_eq_false_iff_ne, bne_iff_ne, List.length_replicate, Int.toNat_natCast, List.length_set, List.length_map, List.length_append, List.length_cons, List.length_nil, List.length_take, List.length_drop, Nat.ble_eq, spec_l1In, spec_l1In_T, T.val, Bool.cond_eq_ite, spec_l5Copy_pre, l5Copy_eq, spec_NetTake_pre, spec_NetDrop_pre]
  repeat' (first | exact trivial | apply And.intro | intro _)
  all_goals first | omega | (simp_all; done) | (simp_all; omega)
theorem spec_NetDrop_true (a : D.Net) (b : Int) (ok_a : D.Net.ok a) (ok_b : i64 b) (hp : spec_NetDrop_pre a b = true) (K : Kont) (h : (spec_NetDrop_K K) (spec_NetDrop a b) = true) : bodyA V37 (run V37 (0) 9) 31 (0) [AV.agg (D.Net.cs a), AV.one (AC.int .i64 b)] [] (clean tab0 false 0 K) = true := by
  rw [spec_NetDrop_start]
  refine T.run_true (spec_NetDrop_safe a b ok_a ok_b hp) ?_
  exact h
def spec_NetDrop_go : List AV → List Blk → Kont → Bool
  | [.agg a_, .one (AC.int .i64 b)], [], K => (match D.Net.dec a_ with | some a => grd (spec_NetDrop_pre a b) (spec_NetDrop_K K (spec_NetDrop a b)) | none => false)
  | _, _, _ => false
noncomputable def V31 : Env := V37.add 31 ⟨fun _ => true, [], spec_NetDrop_go⟩
theorem V31_ok : EnvOk V31 := by
  refine V37_ok.put hm 31 _ _ spec_NetDrop_go (fun args B K h oka okb => ?_)
  unfold spec_NetDrop_go at h
  split at h
  · rename_i a_ b
    split at h
    rotate_left
    · cases h
    rename_i a dec_a
    have dec_a := D.Net.dec_ok dec_a
    subst dec_a
    have ok_a : D.Net.ok a := D.Net.okOf (oka _ (List.mem_of_getElem? (i := 0) rfl))
    have ok_b : i64 b := by have := oka _ (List.mem_of_getElem? (i := 1) rfl); exact wf_i64.1 this
    obtain ⟨hp, h⟩ := grd_ok h
    exact ⟨_, 9, false, spec_NetDrop_true a b ok_a ok_b hp K h⟩
  · cases h
def laws_toFlight_K (K : Kont) (r : D.Flight) : Bool := K [AV.agg (D.Flight.cs r)] []
def laws_toFlight_T (a : D.Flight) : T (D.Flight) :=
  .ret a
def laws_toFlight (a : D.Flight) : D.Flight := (laws_toFlight_T a).val
theorem laws_toFlight_eqn (a : D.Flight) : laws_toFlight a =
  a := by kernel_rfl
theorem laws_toFlight_start (a : D.Flight) (k : Nat) (K : Kont) : bodyA V31 (run V31 k 9) 76 k [AV.agg (D.Flight.cs a)] [] (clean tab0 false 0 K) =
  (laws_toFlight_T a).run (laws_toFlight_K K) := by kernel_rfl
theorem laws_toFlight_safe (a : D.Flight) (ok_a : D.Flight.ok a) : (laws_toFlight_T a).safe := by
  exact T.safe_free (by kernel_rfl)
theorem laws_toFlight_true (a : D.Flight) (ok_a : D.Flight.ok a) (K : Kont) (h : (laws_toFlight_K K) (laws_toFlight a) = true) : bodyA V31 (run V31 (0) 9) 76 (0) [AV.agg (D.Flight.cs a)] [] (clean tab0 false 0 K) = true := by
  rw [laws_toFlight_start]
  refine T.run_true (laws_toFlight_safe a ok_a) ?_
  exact h
def laws_toFlight_go : List AV → List Blk → Kont → Bool
  | [.agg a_], [], K => (match D.Flight.dec a_ with | some a => laws_toFlight_K K (laws_toFlight a) | none => false)
  | _, _, _ => false
noncomputable def V76 : Env := V31.add 76 ⟨fun _ => true, [], laws_toFlight_go⟩
theorem V76_ok : EnvOk V76 := by
  refine V31_ok.put hm 76 _ _ laws_toFlight_go (fun args B K h oka okb => ?_)
  unfold laws_toFlight_go at h
  split at h
  · rename_i a_
    split at h
    rotate_left
    · cases h
    rename_i a dec_a
    have dec_a := D.Flight.dec_ok dec_a
    subst dec_a
    have ok_a : D.Flight.ok a := D.Flight.okOf (oka _ (List.mem_of_getElem? (i := 0) rfl))
    exact ⟨_, 9, false, laws_toFlight_true a ok_a K h⟩
  · cases h
def laws_toFlightS_K (K : Kont) (r : (List D.Flight)) : Bool := K [AV.one (AC.own 0)] [Blk.rows 52 .flight r]
def laws_toFlightS_pre (a : List D.Flight) : Bool := decide (a.length ≤ 1048576)
noncomputable def laws_toFlightS_l3_L (k m : Nat) (K : Kont) (st : St) : Bool := iter tab0 0 (exC V76 (run V76 k 9) 0 56 k (fstC (fstC (sndC (fstC (sndC (sndC (bodyC V76.P 56)))))))) [0, 3, 4] m st (kBlk 0 (kSeq (exC V76 (run V76 k 9) 0 56 k (sndC (sndC (sndC (bodyC V76.P 56))))) (kBody V76.P (resC V76.P 56) (clean tab0 false 0 K))))
def laws_toFlightS_l3_st (a : List D.Flight) (i : Int) (s : (List D.Flight)) : St := ⟨[(0, AV.one (AC.dat .flight a)), (3, AV.one (AC.own 0)), (4, AV.one (AC.int .i64 (i)))], [Blk.rows 52 .flight (s)]⟩
def laws_toFlightS_l3_body (a : List D.Flight) (i : Int) (x : D.Flight) (s : (List D.Flight)) : T (S ((List D.Flight)) ((List D.Flight))) :=
  .grd (decide (0 ≤ i) && decide (i < (a.length : Int))) (let r2 : D.Flight := laws_toFlight x
  .grd (decide (0 ≤ i) && decide (i < ((s).length : Int))) (.ret (.on ((s).set (Int.toNat (i)) r2))))
def laws_toFlightS_l3_done (a : List D.Flight) (s : (List D.Flight)) : T ((List D.Flight)) :=
  .ret s
theorem laws_toFlightS_l3_step (a : List D.Flight) (k m : Nat) (K : Kont) (i : Int) (s : (List D.Flight)) : laws_toFlightS_l3_L k (m + 1) K (laws_toFlightS_l3_st a i s) =
  br (decide (i < (a.length : Int))) ((laws_toFlightS_l3_body a i (elem .flight a (Int.toNat i)) s).run (S.k (fun s' => laws_toFlightS_l3_L k m K (laws_toFlightS_l3_st a (w64 (i + 1)) s')) (laws_toFlightS_K K))) ((laws_toFlightS_l3_done a s).run (laws_toFlightS_K K)) := by kernel_rfl
def laws_toFlightS_l3 (a : List D.Flight) (s : (List D.Flight)) : (List D.Flight) := forL (fun i x s => (laws_toFlightS_l3_body a i x s).val) (fun s => (laws_toFlightS_l3_done a s).val) a 0 s
theorem laws_toFlightS_l3_ok (a : List D.Flight) (k : Nat) (K : Kont) (s : (List D.Flight)) (hl : a.length ≤ maxLen) (hp : laws_toFlightS_pre a = true) (hk : a.length < k) (hi : (fun i s => s.length = ((List.replicate (Int.toNat (a.length : Int)) D.Flight.zero)).length) 0 s) (h : (laws_toFlightS_K K) (laws_toFlightS_l3 a s) = true) : laws_toFlightS_l3_L k k K (laws_toFlightS_l3_st a 0 s) = true := by
  have hml := maxLen_eq
  have hmr := maxRows_eq
  have hpp := hp
  simp only [laws_toFlightS_pre, Bool.and_eq_true, decide_eq_true_eq] at hpp
  refine forL_ok (L := fun m i s => laws_toFlightS_l3_L k m K (laws_toFlightS_l3_st a i s)) (l := a) (dv := dflt .flight) (body := laws_toFlightS_l3_body a) (done := laws_toFlightS_l3_done a) (fb := (fun i x s c => c)) (fd := fun c => c) (Kb := fun m i => S.k (fun s' => laws_toFlightS_l3_L k m K (laws_toFlightS_l3_st a (w64 (i + 1)) s')) (laws_toFlightS_K K)) (Kd := (laws_toFlightS_K K)) (K := (laws_toFlightS_K K)) (fun m i s => laws_toFlightS_l3_step a k m K i s) (fun i s => s.length = ((List.replicate (Int.toNat (a.length : Int)) D.Flight.zero)).length) hl ?hb ?hd ?hKb ?hKd _ k 0 s (by omega) rfl (by omega) (by simp; omega) hi h
  case hb =>
    intro i s h0 hN hi
    refine ⟨?safe, ?pres⟩
    case safe =>
      try simp only [bne_eq_false_iff_eq, beq_iff_eq, decide_eq_false_iff_not, decide_eq_true_eq, Bool.and_eq_true, Bool.or_eq_false_iff, Bool.not_eq_eq_eq_not, Bool.not_true, Bool.not_false, beq_eq_false_iff_ne, bne_iff_ne, List.length_replicate, Int.toNat_natCast, List.length_set, List.length_map, List.length_append, List.length_cons, List.length_nil, List.length_take, List.length_drop, Nat.ble_eq] at hi
      simp only [laws_toFlightS_l3_body, T.safe, and_true, true_and, implies_true, bne_eq_false_iff_eq, beq_iff_eq, decide_eq_false_iff_not, decide_eq_true_eq, Bool.and_eq_true, Bool.or_eq_false_iff, Bool.not_eq_eq_eq_not, Bool.not_true, Bool.not_false, beq_eq_false_iff_ne, bne_iff_ne, List.length_replicate, Int.toNat_natCast, List.length_set, List.length_map, List.length_append, List.length_cons, List.length_nil, List.length_take, List.length_drop, Nat.ble_eq, spec_l1In, spec_l1In_T, T.val, Bool.cond_eq_ite, spec_l5Copy_pre, l5Copy_eq, spec_NetTake_pre, spec_NetDrop_pre, laws_toFlightS_pre]
      repeat' (first | exact trivial | apply And.intro | intro _)
      all_goals first | omega | (simp_all; done) | (simp_all; omega)
    case pres =>
      intro s' hs
      simp only [laws_toFlightS_l3_body, T.val, Bool.cond_eq_ite] at hs
      repeat' split at hs
      all_goals first | (cases hs; done) | (cases hs; exact hi) | (cases hs; refine ⟨?_, hi.2⟩; have hi := hi.1; simp only [bne_eq_false_iff_eq, beq_iff_eq, decide_eq_false_iff_not, decide_eq_true_eq, Bool.and_eq_true, Bool.or_eq_false_iff, Bool.not_eq_eq_eq_not, Bool.not_true, Bool.not_false, beq_eq_false_iff_ne, bne_iff_ne, List.length_replicate, Int.toNat_natCast, List.length_set, List.length_map, List.length_append, List.length_cons, List.length_nil, List.length_take, List.length_drop, Nat.ble_eq] at hi ⊢; omega) | (cases hs; simp only [bne_eq_false_iff_eq, beq_iff_eq, decide_eq_false_iff_not, decide_eq_true_eq, Bool.and_eq_true, Bool.or_eq_false_iff, Bool.not_eq_eq_eq_not, Bool.not_true, Bool.not_false, beq_eq_false_iff_ne, bne_iff_ne, List.length_replicate, Int.toNat_natCast, List.length_set, List.length_map, List.length_append, List.length_cons, List.length_nil, List.length_take, List.length_drop, Nat.ble_eq] at hi ⊢; first | exact hi | (simp_all; done) | omega)
  case hd =>
    intro s hi
    exact T.safe_free (by kernel_rfl)
  case hKb =>
    intro m i s h0 hN hi
    exact fun h => h
  case hKd =>
    intro s hi
    exact fun h => h
def laws_toFlightS_T (a : List D.Flight) : T (S ((List D.Flight)) ((List D.Flight))) :=
  .grd ((decide (0 ≤ (a.length : Int)) && decide ((a.length : Int) ≤ (a.length : Int))) && decide ((a.length : Int) * 48 ≤ maxRows)) (.ret (.on (List.replicate (Int.toNat (a.length : Int)) D.Flight.zero)))
def laws_toFlightS (a : List D.Flight) : (List D.Flight) := S.res (fun t => laws_toFlightS_l3 a t) (laws_toFlightS_T a).val
theorem laws_toFlightS_start (a : List D.Flight) (k : Nat) (K : Kont) : bodyA V76 (run V76 k 9) 56 k [AV.one (AC.dat .flight a)] [] (clean tab0 false 0 K) =
  (laws_toFlightS_T a).run (S.k (fun t => laws_toFlightS_l3_L k k K (laws_toFlightS_l3_st a 0 t)) (laws_toFlightS_K K)) := by kernel_rfl
theorem laws_toFlightS_safe (a : List D.Flight) (ok_a : okL (okD .flight) a) (hp : laws_toFlightS_pre a = true) : (laws_toFlightS_T a).safe := by
  have hml := maxLen_eq
  have hmr := maxRows_eq
  have q_a := (ok_a).1
  have hpp := hp
  simp only [laws_toFlightS_pre, Bool.and_eq_true, decide_eq_true_eq] at hpp
  have hml := maxLen_eq
  have hmr := maxRows_eq
  simp only [laws_toFlightS_T, T.safe, and_true, true_and, implies_true, bne_eq_false_iff_eq, beq_iff_eq, decide_eq_false_iff_not, decide_eq_true_eq, Bool.and_eq_true, Bool.or_eq_false_iff, Bool.not_eq_eq_eq_not, Bool.not_true, Bool.not_false, beq_eq_false_iff_ne, bne_iff_ne, List.length_replicate, Int.toNat_natCast, List.length_set, List.length_map, List.length_append, List.length_cons, List.length_nil, List.length_take, List.length_drop, Nat.ble_eq, spec_l1In, spec_l1In_T, T.val, Bool.cond_eq_ite, spec_l5Copy_pre, l5Copy_eq, spec_NetTake_pre, spec_NetDrop_pre, laws_toFlightS_pre]
  repeat' (first | exact trivial | apply And.intro | intro _)
  all_goals first | omega | (simp_all; done) | (simp_all; omega)
theorem laws_toFlightS_true (a : List D.Flight) (ok_a : okL (okD .flight) a) (hp : laws_toFlightS_pre a = true) (K : Kont) (h : (laws_toFlightS_K K) (laws_toFlightS a) = true) : bodyA V76 (run V76 ((a.length + 1)) 9) 56 ((a.length + 1)) [AV.one (AC.dat .flight a)] [] (clean tab0 false 0 K) = true := by
  rw [laws_toFlightS_start]
  refine T.run_true (laws_toFlightS_safe a ok_a hp) ?_
  have hml := maxLen_eq
  have hmr := maxRows_eq
  have q_a := (ok_a).1
  have hpp := hp
  simp only [laws_toFlightS_pre, Bool.and_eq_true, decide_eq_true_eq] at hpp
  unfold laws_toFlightS at h
  revert h
  cases hv : (laws_toFlightS_T a).val with
  | on t =>
    intro h
    simp only [S.res, S.res2, S.k] at h ⊢
    exact laws_toFlightS_l3_ok a _ K _ (by first | omega | (dsimp only; omega)) hp (by first | omega | (dsimp only; omega)) (by simp only [laws_toFlightS_T, T.val, Bool.cond_eq_ite] at hv; (repeat' split at hv) <;> first | (cases hv; done) | (cases hv; rfl) | (cases hv; simp_all; done) | (cases hv; simp_all; omega) | (cases hv; simp only [bne_eq_false_iff_eq, beq_iff_eq, decide_eq_false_iff_not, decide_eq_true_eq, Bool.and_eq_true, Bool.or_eq_false_iff, Bool.not_eq_eq_eq_not, Bool.not_true, Bool.not_false, beq_eq_false_iff_ne, bne_iff_ne, List.length_replicate, Int.toNat_natCast, List.length_set, List.length_map, List.length_append, List.length_cons, List.length_nil, List.length_take, List.length_drop, Nat.ble_eq]; omega)) h
  | out r => exact fun h => h
theorem toFlightS_eq (a : List D.Flight) : laws_toFlightS a = a := by
  refine (forL_map (done := fun s => (laws_toFlightS_l3_done a s).val) laws_toFlight (fun i x s hi => ?_) (by simp)).trans ?_
  · rfl
  · simp [laws_toFlightS_l3_done, T.val, show laws_toFlight = id from funext fun x => rfl]
def laws_toFlightS_go : List AV → List Blk → Kont → Bool
  | [.one (AC.dat .flight a)], [], K => grd (laws_toFlightS_pre a) (laws_toFlightS_K K (laws_toFlightS a))
  | _, _, _ => false
noncomputable def V56 : Env := V76.add 56 ⟨fun _ => true, [], laws_toFlightS_go⟩
theorem V56_ok : EnvOk V56 := by
  refine V76_ok.put hm 56 _ _ laws_toFlightS_go (fun args B K h oka okb => ?_)
  unfold laws_toFlightS_go at h
  split at h
  · rename_i a
    have ok_a : okL (okD .flight) a := oka _ (List.mem_of_getElem? (i := 0) rfl)
    obtain ⟨hp, h⟩ := grd_ok h
    exact ⟨_, 9, false, laws_toFlightS_true a ok_a hp K h⟩
  · cases h
def laws_toNet_K (K : Kont) (r : D.Net) : Bool := K [AV.agg [AC.int .i64 r.next, AC.own 0]] [Blk.rows 52 .flight r.list]
def laws_toNet_pre (a : D.Net) : Bool := decide (a.list.length ≤ 1048576)
def laws_toNet_T (a : D.Net) : T (D.Net) :=
  let r1 : (List D.Flight) := laws_toFlightS a.list
  .grd (laws_toFlightS_pre a.list) (.ret (⟨a.next, r1⟩ : D.Net))
def laws_toNet (a : D.Net) : D.Net := (laws_toNet_T a).val
theorem laws_toNet_eqn (a : D.Net) : laws_toNet a =
  let r1 : (List D.Flight) := laws_toFlightS a.list
  (⟨a.next, r1⟩ : D.Net) := by kernel_rfl
theorem laws_toNet_start (a : D.Net) (k : Nat) (K : Kont) : bodyA V56 (run V56 k 9) 32 k [AV.agg (D.Net.cs a)] [] (clean tab0 false 0 K) =
  (laws_toNet_T a).run (laws_toNet_K K) := by kernel_rfl
theorem laws_toNet_safe (a : D.Net) (ok_a : D.Net.ok a) (hp : laws_toNet_pre a = true) : (laws_toNet_T a).safe := by
  have hml := maxLen_eq
  have hmr := maxRows_eq
  have q_a_list := (ok_a.2).1
  have hpp := hp
  simp only [laws_toNet_pre, Bool.and_eq_true, decide_eq_true_eq] at hpp
  have hml := maxLen_eq
  have hmr := maxRows_eq
  simp only [laws_toNet_T, T.safe, and_true, true_and, implies_true, bne_eq_false_iff_eq, beq_iff_eq, decide_eq_false_iff_not, decide_eq_true_eq, Bool.and_eq_true, Bool.or_eq_false_iff, Bool.not_eq_eq_eq_not, Bool.not_true, Bool.not_false, beq_eq_false_iff_ne, bne_iff_ne, List.length_replicate, Int.toNat_natCast, List.length_set, List.length_map, List.length_append, List.length_cons, List.length_nil, List.length_take, List.length_drop, Nat.ble_eq, spec_l1In, spec_l1In_T, T.val, Bool.cond_eq_ite, spec_l5Copy_pre, l5Copy_eq, spec_NetTake_pre, spec_NetDrop_pre, laws_toFlightS_pre, laws_toNet_pre]
  repeat' (first | exact trivial | apply And.intro | intro _)
  all_goals first | omega | (simp_all; done) | (simp_all; omega)
theorem laws_toNet_true (a : D.Net) (ok_a : D.Net.ok a) (hp : laws_toNet_pre a = true) (K : Kont) (h : (laws_toNet_K K) (laws_toNet a) = true) : bodyA V56 (run V56 (0) 9) 32 (0) [AV.agg (D.Net.cs a)] [] (clean tab0 false 0 K) = true := by
  rw [laws_toNet_start]
  refine T.run_true (laws_toNet_safe a ok_a hp) ?_
  exact h
theorem toNet_eq (a : D.Net) : laws_toNet a = a := by
  simp only [laws_toNet, laws_toNet_T, T.val, toFlightS_eq]
def laws_toNet_go : List AV → List Blk → Kont → Bool
  | [.agg a_], [], K => (match D.Net.dec a_ with | some a => grd (laws_toNet_pre a) (laws_toNet_K K (laws_toNet a)) | none => false)
  | _, _, _ => false
noncomputable def V32 : Env := V56.add 32 ⟨fun _ => true, [], laws_toNet_go⟩
theorem V32_ok : EnvOk V32 := by
  refine V56_ok.put hm 32 _ _ laws_toNet_go (fun args B K h oka okb => ?_)
  unfold laws_toNet_go at h
  split at h
  · rename_i a_
    split at h
    rotate_left
    · cases h
    rename_i a dec_a
    have dec_a := D.Net.dec_ok dec_a
    subst dec_a
    have ok_a : D.Net.ok a := D.Net.okOf (oka _ (List.mem_of_getElem? (i := 0) rfl))
    obtain ⟨hp, h⟩ := grd_ok h
    exact ⟨_, 9, false, laws_toNet_true a ok_a hp K h⟩
  · cases h
def impl_in_K (K : Kont) (r : Bool) : Bool := K [AV.one (AC.bool r)] []
def impl_in_T (a : Int) (b : Int) (c : Int) : T (Bool) :=
  .br (decide ((b : Int) ≤ a))
  (.ret (decide ((a : Int) ≤ c)))
  (.ret false)
def impl_in (a : Int) (b : Int) (c : Int) : Bool := (impl_in_T a b c).val
theorem impl_in_eqn (a : Int) (b : Int) (c : Int) : impl_in a b c =
  bif (decide ((b : Int) ≤ a)) then
  ((decide ((a : Int) ≤ c)))
  else (false) := by kernel_rfl
theorem impl_in_start (a : Int) (b : Int) (c : Int) (k : Nat) (K : Kont) : bodyA V32 (run V32 k 9) 53 k [AV.one (AC.int .i64 a), AV.one (AC.int .i64 b), AV.one (AC.int .i64 c)] [] (clean tab0 false 0 K) =
  (impl_in_T a b c).run (impl_in_K K) := by kernel_rfl
theorem impl_in_safe (a : Int) (b : Int) (c : Int) (ok_a : i64 a) (ok_b : i64 b) (ok_c : i64 c) : (impl_in_T a b c).safe := by
  exact T.safe_free (by kernel_rfl)
theorem impl_in_true (a : Int) (b : Int) (c : Int) (ok_a : i64 a) (ok_b : i64 b) (ok_c : i64 c) (K : Kont) (h : (impl_in_K K) (impl_in a b c) = true) : bodyA V32 (run V32 (0) 9) 53 (0) [AV.one (AC.int .i64 a), AV.one (AC.int .i64 b), AV.one (AC.int .i64 c)] [] (clean tab0 false 0 K) = true := by
  rw [impl_in_start]
  refine T.run_true (impl_in_safe a b c ok_a ok_b ok_c) ?_
  exact h
def impl_in_go : List AV → List Blk → Kont → Bool
  | [.one (AC.int .i64 a), .one (AC.int .i64 b), .one (AC.int .i64 c)], [], K => impl_in_K K (impl_in a b c)
  | _, _, _ => false
noncomputable def V53 : Env := V32.add 53 ⟨fun _ => true, [], impl_in_go⟩
theorem V53_ok : EnvOk V53 := by
  refine V32_ok.put hm 53 _ _ impl_in_go (fun args B K h oka okb => ?_)
  unfold impl_in_go at h
  split at h
  · rename_i a b c
    have ok_a : i64 a := by have := oka _ (List.mem_of_getElem? (i := 0) rfl); exact wf_i64.1 this
    have ok_b : i64 b := by have := oka _ (List.mem_of_getElem? (i := 1) rfl); exact wf_i64.1 this
    have ok_c : i64 c := by have := oka _ (List.mem_of_getElem? (i := 2) rfl); exact wf_i64.1 this
    exact ⟨_, 9, false, impl_in_true a b c ok_a ok_b ok_c K h⟩
  · cases h
def impl_isNode_K (K : Kont) (r : Bool) : Bool := K [AV.one (AC.bool r)] []
def impl_isNode_T (a : Int) : T (Bool) :=
  .ret (impl_in a 0 7)
def impl_isNode (a : Int) : Bool := (impl_isNode_T a).val
theorem impl_isNode_eqn (a : Int) : impl_isNode a =
  (impl_in a 0 7) := by kernel_rfl
theorem impl_isNode_start (a : Int) (k : Nat) (K : Kont) : bodyA V53 (run V53 k 9) 88 k [AV.one (AC.int .i64 a)] [] (clean tab0 false 0 K) =
  (impl_isNode_T a).run (impl_isNode_K K) := by kernel_rfl
theorem impl_isNode_safe (a : Int) (ok_a : i64 a) : (impl_isNode_T a).safe := by
  exact T.safe_free (by kernel_rfl)
theorem impl_isNode_true (a : Int) (ok_a : i64 a) (K : Kont) (h : (impl_isNode_K K) (impl_isNode a) = true) : bodyA V53 (run V53 (0) 9) 88 (0) [AV.one (AC.int .i64 a)] [] (clean tab0 false 0 K) = true := by
  rw [impl_isNode_start]
  refine T.run_true (impl_isNode_safe a ok_a) ?_
  exact h
def impl_isNode_go : List AV → List Blk → Kont → Bool
  | [.one (AC.int .i64 a)], [], K => impl_isNode_K K (impl_isNode a)
  | _, _, _ => false
noncomputable def V88 : Env := V53.add 88 ⟨fun _ => true, [], impl_isNode_go⟩
theorem V88_ok : EnvOk V88 := by
  refine V53_ok.put hm 88 _ _ impl_isNode_go (fun args B K h oka okb => ?_)
  unfold impl_isNode_go at h
  split at h
  · rename_i a
    have ok_a : i64 a := by have := oka _ (List.mem_of_getElem? (i := 0) rfl); exact wf_i64.1 this
    exact ⟨_, 9, false, impl_isNode_true a ok_a K h⟩
  · cases h
def impl_isTime_K (K : Kont) (r : Bool) : Bool := K [AV.one (AC.bool r)] []
def impl_isTime_T (a : Int) : T (Bool) :=
  .ret (impl_in a 0 1000000000000)
def impl_isTime (a : Int) : Bool := (impl_isTime_T a).val
theorem impl_isTime_eqn (a : Int) : impl_isTime a =
  (impl_in a 0 1000000000000) := by kernel_rfl
theorem impl_isTime_start (a : Int) (k : Nat) (K : Kont) : bodyA V88 (run V88 k 9) 89 k [AV.one (AC.int .i64 a)] [] (clean tab0 false 0 K) =
  (impl_isTime_T a).run (impl_isTime_K K) := by kernel_rfl
theorem impl_isTime_safe (a : Int) (ok_a : i64 a) : (impl_isTime_T a).safe := by
  exact T.safe_free (by kernel_rfl)
theorem impl_isTime_true (a : Int) (ok_a : i64 a) (K : Kont) (h : (impl_isTime_K K) (impl_isTime a) = true) : bodyA V88 (run V88 (0) 9) 89 (0) [AV.one (AC.int .i64 a)] [] (clean tab0 false 0 K) = true := by
  rw [impl_isTime_start]
  refine T.run_true (impl_isTime_safe a ok_a) ?_
  exact h
def impl_isTime_go : List AV → List Blk → Kont → Bool
  | [.one (AC.int .i64 a)], [], K => impl_isTime_K K (impl_isTime a)
  | _, _, _ => false
noncomputable def V89 : Env := V88.add 89 ⟨fun _ => true, [], impl_isTime_go⟩
theorem V89_ok : EnvOk V89 := by
  refine V88_ok.put hm 89 _ _ impl_isTime_go (fun args B K h oka okb => ?_)
  unfold impl_isTime_go at h
  split at h
  · rename_i a
    have ok_a : i64 a := by have := oka _ (List.mem_of_getElem? (i := 0) rfl); exact wf_i64.1 this
    exact ⟨_, 9, false, impl_isTime_true a ok_a K h⟩
  · cases h
def impl_flightOk_K (K : Kont) (r : Bool) : Bool := K [AV.one (AC.bool r)] []
def impl_flightOk_T (a : D.Flight) : T (Bool) :=
  .br (impl_isNode a.frm)
  (.br (impl_isNode a.to)
   (.br (decide (((a.bytes.length : Int) : Int) ≤ 64))
    (.ret (impl_isTime a.at_))
    (.ret false))
   (.ret false))
  (.ret false)
def impl_flightOk (a : D.Flight) : Bool := (impl_flightOk_T a).val
theorem impl_flightOk_eqn (a : D.Flight) : impl_flightOk a =
  bif (impl_isNode a.frm) then
  (bif (impl_isNode a.to) then
   (bif (decide (((a.bytes.length : Int) : Int) ≤ 64)) then
    ((impl_isTime a.at_))
    else (false))
   else (false))
  else (false) := by kernel_rfl
theorem impl_flightOk_start (a : D.Flight) (k : Nat) (K : Kont) : bodyA V89 (run V89 k 9) 85 k [AV.agg (D.Flight.cs a)] [] (clean tab0 false 0 K) =
  (impl_flightOk_T a).run (impl_flightOk_K K) := by kernel_rfl
theorem impl_flightOk_safe (a : D.Flight) (ok_a : D.Flight.ok a) : (impl_flightOk_T a).safe := by
  exact T.safe_free (by kernel_rfl)
theorem impl_flightOk_true (a : D.Flight) (ok_a : D.Flight.ok a) (K : Kont) (h : (impl_flightOk_K K) (impl_flightOk a) = true) : bodyA V89 (run V89 (0) 9) 85 (0) [AV.agg (D.Flight.cs a)] [] (clean tab0 false 0 K) = true := by
  rw [impl_flightOk_start]
  refine T.run_true (impl_flightOk_safe a ok_a) ?_
  exact h
def impl_flightOk_go : List AV → List Blk → Kont → Bool
  | [.agg a_], [], K => (match D.Flight.dec a_ with | some a => impl_flightOk_K K (impl_flightOk a) | none => false)
  | _, _, _ => false
noncomputable def V85 : Env := V89.add 85 ⟨fun _ => true, [], impl_flightOk_go⟩
theorem V85_ok : EnvOk V85 := by
  refine V89_ok.put hm 85 _ _ impl_flightOk_go (fun args B K h oka okb => ?_)
  unfold impl_flightOk_go at h
  split at h
  · rename_i a_
    split at h
    rotate_left
    · cases h
    rename_i a dec_a
    have dec_a := D.Flight.dec_ok dec_a
    subst dec_a
    have ok_a : D.Flight.ok a := D.Flight.okOf (oka _ (List.mem_of_getElem? (i := 0) rfl))
    exact ⟨_, 9, false, impl_flightOk_true a ok_a K h⟩
  · cases h
def impl_NetOk_K (K : Kont) (r : Bool) : Bool := K [AV.one (AC.bool r)] []
noncomputable def impl_NetOk_l5_L (k m : Nat) (K : Kont) (st : St) : Bool := iter tab0 0 (exC V85 (run V85 k 9) 0 77 k (fstC (fstC (sndC (fstC (sndC (sndC (sndC (bodyC V85.P 77))))))))) [1, 3, 18, 19, 20] m st (kBlk 0 (kSeq (exC V85 (run V85 k 9) 0 77 k (sndC (sndC (sndC (sndC (bodyC V85.P 77)))))) (kBody V85.P (resC V85.P 77) (clean tab0 false 0 K))))
def impl_NetOk_l5_st (a : D.Net) (i : Int) (s : (List (Int × Bool))) : St := ⟨[(1, AV.one (AC.ptr 0 0 0)), (3, AV.one (AC.map 1)), (18, AV.one (AC.dat .flight a.list)), (19, AV.one (AC.int .i64 (a.list.length : Int))), (20, AV.one (AC.int .i64 (i)))], [Blk.box (D.Net.cs a), Blk.map .bool (s)]⟩
def impl_NetOk_l5_body (a : D.Net) (i : Int) (x : D.Flight) (s : (List (Int × Bool))) : T (S ((List (Int × Bool))) (Bool)) :=
  .grd (decide (0 ≤ i) && decide (i < (a.list.length : Int))) (.br (!(impl_flightOk x))
  (.ret (.out (false)))
  (.br (!(impl_in (x.id) 0 (w64 (a.next - 1))))
   (.ret (.out (false)))
   (.br (findD (x.id) (s) false)
    (.ret (.out (false)))
    (.ret (.on (putM (x.id) true (s)))))))
def impl_NetOk_l5_done (a : D.Net) (s : (List (Int × Bool))) : T (Bool) :=
  .ret true
theorem impl_NetOk_l5_step (a : D.Net) (k m : Nat) (K : Kont) (i : Int) (s : (List (Int × Bool))) : impl_NetOk_l5_L k (m + 1) K (impl_NetOk_l5_st a i s) =
  br (decide (i < (a.list.length : Int))) ((impl_NetOk_l5_body a i (elem .flight a.list (Int.toNat i)) s).run (S.k (fun s' => impl_NetOk_l5_L k m K (impl_NetOk_l5_st a (w64 (i + 1)) s')) (impl_NetOk_K K))) ((impl_NetOk_l5_done a s).run (impl_NetOk_K K)) := by kernel_rfl
def impl_NetOk_l5 (a : D.Net) (s : (List (Int × Bool))) : Bool := forL (fun i x s => (impl_NetOk_l5_body a i x s).val) (fun s => (impl_NetOk_l5_done a s).val) a.list 0 s
theorem impl_NetOk_l5_ok (a : D.Net) (k : Nat) (K : Kont) (s : (List (Int × Bool))) (hl : a.list.length ≤ maxLen) (hk : a.list.length < k) (hi : (fun i s => (!(impl_in a.next 0 1000000)) = false ∧ (decide ((40 : Int) < (a.list.length : Int))) = false) 0 s) (h : (impl_NetOk_K K) (impl_NetOk_l5 a s) = true) : impl_NetOk_l5_L k k K (impl_NetOk_l5_st a 0 s) = true := by
  have hml := maxLen_eq
  have hmr := maxRows_eq
  refine forL_ok (L := fun m i s => impl_NetOk_l5_L k m K (impl_NetOk_l5_st a i s)) (l := a.list) (dv := dflt .flight) (body := impl_NetOk_l5_body a) (done := impl_NetOk_l5_done a) (fb := (fun i x s c => c)) (fd := fun c => c) (Kb := fun m i => S.k (fun s' => impl_NetOk_l5_L k m K (impl_NetOk_l5_st a (w64 (i + 1)) s')) (impl_NetOk_K K)) (Kd := (impl_NetOk_K K)) (K := (impl_NetOk_K K)) (fun m i s => impl_NetOk_l5_step a k m K i s) (fun i s => (!(impl_in a.next 0 1000000)) = false ∧ (decide ((40 : Int) < (a.list.length : Int))) = false) hl ?hb ?hd ?hKb ?hKd _ k 0 s (by omega) rfl (by omega) (by simp; omega) hi h
  case hb =>
    intro i s h0 hN hi
    refine ⟨?safe, ?pres⟩
    case safe =>
      try simp only [bne_eq_false_iff_eq, beq_iff_eq, decide_eq_false_iff_not, decide_eq_true_eq, Bool.and_eq_true, Bool.or_eq_false_iff, Bool.not_eq_eq_eq_not, Bool.not_true, Bool.not_false, beq_eq_false_iff_ne, bne_iff_ne, List.length_replicate, Int.toNat_natCast, List.length_set, List.length_map, List.length_append, List.length_cons, List.length_nil, List.length_take, List.length_drop, Nat.ble_eq] at hi
      simp only [impl_NetOk_l5_body, T.safe, and_true, true_and, implies_true, bne_eq_false_iff_eq, beq_iff_eq, decide_eq_false_iff_not, decide_eq_true_eq, Bool.and_eq_true, Bool.or_eq_false_iff, Bool.not_eq_eq_eq_not, Bool.not_true, Bool.not_false, beq_eq_false_iff_ne, bne_iff_ne, List.length_replicate, Int.toNat_natCast, List.length_set, List.length_map, List.length_append, List.length_cons, List.length_nil, List.length_take, List.length_drop, Nat.ble_eq, spec_l1In, spec_l1In_T, T.val, Bool.cond_eq_ite, spec_l5Copy_pre, l5Copy_eq, spec_NetTake_pre, spec_NetDrop_pre, laws_toFlightS_pre, laws_toNet_pre, toNet_eq, impl_in, impl_in_T]
      repeat' (first | exact trivial | apply And.intro | intro _)
      all_goals first | omega | (simp_all; done) | (simp_all; omega)
    case pres =>
      intro s' hs
      simp only [impl_NetOk_l5_body, T.val, Bool.cond_eq_ite] at hs
      repeat' split at hs
      all_goals first | (cases hs; done) | (cases hs; exact hi) | (cases hs; refine ⟨?_, hi.2⟩; have hi := hi.1; simp only [bne_eq_false_iff_eq, beq_iff_eq, decide_eq_false_iff_not, decide_eq_true_eq, Bool.and_eq_true, Bool.or_eq_false_iff, Bool.not_eq_eq_eq_not, Bool.not_true, Bool.not_false, beq_eq_false_iff_ne, bne_iff_ne, List.length_replicate, Int.toNat_natCast, List.length_set, List.length_map, List.length_append, List.length_cons, List.length_nil, List.length_take, List.length_drop, Nat.ble_eq] at hi ⊢; omega) | (cases hs; simp only [bne_eq_false_iff_eq, beq_iff_eq, decide_eq_false_iff_not, decide_eq_true_eq, Bool.and_eq_true, Bool.or_eq_false_iff, Bool.not_eq_eq_eq_not, Bool.not_true, Bool.not_false, beq_eq_false_iff_ne, bne_iff_ne, List.length_replicate, Int.toNat_natCast, List.length_set, List.length_map, List.length_append, List.length_cons, List.length_nil, List.length_take, List.length_drop, Nat.ble_eq] at hi ⊢; first | exact hi | (simp_all; done) | omega)
  case hd =>
    intro s hi
    exact T.safe_free (by kernel_rfl)
  case hKb =>
    intro m i s h0 hN hi
    exact fun h => h
  case hKd =>
    intro s hi
    exact fun h => h
def impl_NetOk_T (a : D.Net) : T (S ((List (Int × Bool))) (Bool)) :=
  .br (!(impl_in a.next 0 1000000))
  (.ret (.out (false)))
  (.br (decide ((40 : Int) < (a.list.length : Int)))
   (.ret (.out (false)))
   (.ret (.on [])))
def impl_NetOk (a : D.Net) : Bool := S.res (fun t => impl_NetOk_l5 a t) (impl_NetOk_T a).val
theorem impl_NetOk_start (a : D.Net) (k : Nat) (K : Kont) : bodyA V85 (run V85 k 9) 77 k [AV.agg (D.Net.cs a)] [] (clean tab0 false 0 K) =
  (impl_NetOk_T a).run (S.k (fun t => impl_NetOk_l5_L k k K (impl_NetOk_l5_st a 0 t)) (impl_NetOk_K K)) := by kernel_rfl
theorem impl_NetOk_safe (a : D.Net) (ok_a : D.Net.ok a) : (impl_NetOk_T a).safe := by
  exact T.safe_free (by kernel_rfl)
theorem impl_NetOk_true (a : D.Net) (ok_a : D.Net.ok a) (K : Kont) (h : (impl_NetOk_K K) (impl_NetOk a) = true) : bodyA V85 (run V85 ((a.list.length + 1)) 9) 77 ((a.list.length + 1)) [AV.agg (D.Net.cs a)] [] (clean tab0 false 0 K) = true := by
  rw [impl_NetOk_start]
  refine T.run_true (impl_NetOk_safe a ok_a) ?_
  have hml := maxLen_eq
  have hmr := maxRows_eq
  have q_a_list := (ok_a.2).1
  unfold impl_NetOk at h
  revert h
  cases hv : (impl_NetOk_T a).val with
  | on t =>
    intro h
    simp only [S.res, S.res2, S.k] at h ⊢
    exact impl_NetOk_l5_ok a _ K _ (by first | omega | (dsimp only; omega)) (by first | omega | (dsimp only; omega)) (by simp only [impl_NetOk_T, T.val, Bool.cond_eq_ite] at hv; (repeat' split at hv) <;> first | (cases hv; done) | (cases hv; rfl) | (cases hv; simp_all; done) | (cases hv; simp_all; omega) | (cases hv; simp only [bne_eq_false_iff_eq, beq_iff_eq, decide_eq_false_iff_not, decide_eq_true_eq, Bool.and_eq_true, Bool.or_eq_false_iff, Bool.not_eq_eq_eq_not, Bool.not_true, Bool.not_false, beq_eq_false_iff_ne, bne_iff_ne, List.length_replicate, Int.toNat_natCast, List.length_set, List.length_map, List.length_append, List.length_cons, List.length_nil, List.length_take, List.length_drop, Nat.ble_eq]; omega)) h
  | out r => exact fun h => h
def impl_NetOk_go : List AV → List Blk → Kont → Bool
  | [.agg a_], [], K => (match D.Net.dec a_ with | some a => impl_NetOk_K K (impl_NetOk a) | none => false)
  | _, _, _ => false
noncomputable def V77 : Env := V85.add 77 ⟨fun _ => true, [], impl_NetOk_go⟩
theorem V77_ok : EnvOk V77 := by
  refine V85_ok.put hm 77 _ _ impl_NetOk_go (fun args B K h oka okb => ?_)
  unfold impl_NetOk_go at h
  split at h
  · rename_i a_
    split at h
    rotate_left
    · cases h
    rename_i a dec_a
    have dec_a := D.Net.dec_ok dec_a
    subst dec_a
    have ok_a : D.Net.ok a := D.Net.okOf (oka _ (List.mem_of_getElem? (i := 0) rfl))
    exact ⟨_, 9, false, impl_NetOk_true a ok_a K h⟩
  · cases h
def impl_Net_at_K (K : Kont) (r : Int) : Bool := K [AV.one (AC.int .i64 r)] []
noncomputable def impl_Net_at_l4_L (k m : Nat) (K : Kont) (st : St) : Bool := iter tab0 0 (exC V77 (run V77 k 9) 0 57 k (fstC (fstC (sndC (fstC (sndC (sndC (bodyC V77.P 57)))))))) [2, 10, 11, 12] m st (kBlk 0 (kSeq (exC V77 (run V77 k 9) 0 57 k (sndC (sndC (sndC (bodyC V77.P 57))))) (kBody V77.P (resC V77.P 57) (clean tab0 false 0 K))))
def impl_Net_at_l4_st (a : D.Net) (b : List Int) (i : Int) (s : Unit) : St := ⟨[(2, AV.one (AC.ptr 0 0 0)), (10, AV.one (AC.dat .int b)), (11, AV.one (AC.int .i64 (b.length : Int))), (12, AV.one (AC.int .i64 (i)))], [Blk.box (D.Net.cs a)]⟩
def impl_Net_at_l4_body (a : D.Net) (b : List Int) (i : Int) (x : Int) (s : Unit) : T (S (Unit) (Int)) :=
  .grd (decide (0 ≤ i) && decide (i < (b.length : Int))) (.br (!(impl_in x 0 (w64 ((a.list.length : Int) - 1))))
  (.ret (.out (2)))
  (.ret (.on ())))
def impl_Net_at_l4_done (a : D.Net) (b : List Int) (s : Unit) : T (Int) :=
  .ret 0
theorem impl_Net_at_l4_step (a : D.Net) (b : List Int) (k m : Nat) (K : Kont) (i : Int) (s : Unit) : impl_Net_at_l4_L k (m + 1) K (impl_Net_at_l4_st a b i s) =
  br (decide (i < (b.length : Int))) ((impl_Net_at_l4_body a b i (elem .int b (Int.toNat i)) s).run (S.k (fun s' => impl_Net_at_l4_L k m K (impl_Net_at_l4_st a b (w64 (i + 1)) s')) (impl_Net_at_K K))) ((impl_Net_at_l4_done a b s).run (impl_Net_at_K K)) := by kernel_rfl
def impl_Net_at_l4 (a : D.Net) (b : List Int) (s : Unit) : Int := forL (fun i x s => (impl_Net_at_l4_body a b i x s).val) (fun s => (impl_Net_at_l4_done a b s).val) b 0 s
theorem impl_Net_at_l4_ok (a : D.Net) (b : List Int) (k : Nat) (K : Kont) (s : Unit) (hl : b.length ≤ maxLen) (hk : b.length < k) (hi : (fun i s => (!(impl_NetOk a)) = false) 0 s) (h : (impl_Net_at_K K) (impl_Net_at_l4 a b s) = true) : impl_Net_at_l4_L k k K (impl_Net_at_l4_st a b 0 s) = true := by
  have hml := maxLen_eq
  have hmr := maxRows_eq
  refine forL_ok (L := fun m i s => impl_Net_at_l4_L k m K (impl_Net_at_l4_st a b i s)) (l := b) (dv := dflt .int) (body := impl_Net_at_l4_body a b) (done := impl_Net_at_l4_done a b) (fb := (fun i x s c => c)) (fd := fun c => c) (Kb := fun m i => S.k (fun s' => impl_Net_at_l4_L k m K (impl_Net_at_l4_st a b (w64 (i + 1)) s')) (impl_Net_at_K K)) (Kd := (impl_Net_at_K K)) (K := (impl_Net_at_K K)) (fun m i s => impl_Net_at_l4_step a b k m K i s) (fun i s => (!(impl_NetOk a)) = false) hl ?hb ?hd ?hKb ?hKd _ k 0 s (by omega) rfl (by omega) (by simp; omega) hi h
  case hb =>
    intro i s h0 hN hi
    refine ⟨?safe, ?pres⟩
    case safe =>
      try simp only [bne_eq_false_iff_eq, beq_iff_eq, decide_eq_false_iff_not, decide_eq_true_eq, Bool.and_eq_true, Bool.or_eq_false_iff, Bool.not_eq_eq_eq_not, Bool.not_true, Bool.not_false, beq_eq_false_iff_ne, bne_iff_ne, List.length_replicate, Int.toNat_natCast, List.length_set, List.length_map, List.length_append, List.length_cons, List.length_nil, List.length_take, List.length_drop, Nat.ble_eq] at hi
      simp only [impl_Net_at_l4_body, T.safe, and_true, true_and, implies_true, bne_eq_false_iff_eq, beq_iff_eq, decide_eq_false_iff_not, decide_eq_true_eq, Bool.and_eq_true, Bool.or_eq_false_iff, Bool.not_eq_eq_eq_not, Bool.not_true, Bool.not_false, beq_eq_false_iff_ne, bne_iff_ne, List.length_replicate, Int.toNat_natCast, List.length_set, List.length_map, List.length_append, List.length_cons, List.length_nil, List.length_take, List.length_drop, Nat.ble_eq, spec_l1In, spec_l1In_T, T.val, Bool.cond_eq_ite, spec_l5Copy_pre, l5Copy_eq, spec_NetTake_pre, spec_NetDrop_pre, laws_toFlightS_pre, laws_toNet_pre, toNet_eq, impl_in, impl_in_T]
      repeat' (first | exact trivial | apply And.intro | intro _)
      all_goals first | omega | (simp_all; done) | (simp_all; omega)
    case pres =>
      intro s' hs
      simp only [impl_Net_at_l4_body, T.val, Bool.cond_eq_ite] at hs
      repeat' split at hs
      all_goals first | (cases hs; done) | (cases hs; exact hi) | (cases hs; refine ⟨?_, hi.2⟩; have hi := hi.1; simp only [bne_eq_false_iff_eq, beq_iff_eq, decide_eq_false_iff_not, decide_eq_true_eq, Bool.and_eq_true, Bool.or_eq_false_iff, Bool.not_eq_eq_eq_not, Bool.not_true, Bool.not_false, beq_eq_false_iff_ne, bne_iff_ne, List.length_replicate, Int.toNat_natCast, List.length_set, List.length_map, List.length_append, List.length_cons, List.length_nil, List.length_take, List.length_drop, Nat.ble_eq] at hi ⊢; omega) | (cases hs; simp only [bne_eq_false_iff_eq, beq_iff_eq, decide_eq_false_iff_not, decide_eq_true_eq, Bool.and_eq_true, Bool.or_eq_false_iff, Bool.not_eq_eq_eq_not, Bool.not_true, Bool.not_false, beq_eq_false_iff_ne, bne_iff_ne, List.length_replicate, Int.toNat_natCast, List.length_set, List.length_map, List.length_append, List.length_cons, List.length_nil, List.length_take, List.length_drop, Nat.ble_eq] at hi ⊢; first | exact hi | (simp_all; done) | omega)
  case hd =>
    intro s hi
    exact T.safe_free (by kernel_rfl)
  case hKb =>
    intro m i s h0 hN hi
    exact fun h => h
  case hKd =>
    intro s hi
    exact fun h => h
def impl_Net_at_T (a : D.Net) (b : List Int) : T (S (Unit) (Int)) :=
  .br (!(impl_NetOk a))
  (.ret (.out (1)))
  (.ret (.on ()))
def impl_Net_at (a : D.Net) (b : List Int) : Int := S.res (fun t => impl_Net_at_l4 a b t) (impl_Net_at_T a b).val
theorem impl_Net_at_start (a : D.Net) (b : List Int) (k : Nat) (K : Kont) : bodyA V77 (run V77 k 9) 57 k [AV.agg (D.Net.cs a), AV.one (AC.dat .int b)] [] (clean tab0 false 0 K) =
  (impl_Net_at_T a b).run (S.k (fun t => impl_Net_at_l4_L k k K (impl_Net_at_l4_st a b 0 t)) (impl_Net_at_K K)) := by kernel_rfl
theorem impl_Net_at_safe (a : D.Net) (b : List Int) (ok_a : D.Net.ok a) (ok_b : okL (okD .int) b) : (impl_Net_at_T a b).safe := by
  exact T.safe_free (by kernel_rfl)
theorem impl_Net_at_true (a : D.Net) (b : List Int) (ok_a : D.Net.ok a) (ok_b : okL (okD .int) b) (K : Kont) (h : (impl_Net_at_K K) (impl_Net_at a b) = true) : bodyA V77 (run V77 ((b.length + 1)) 9) 57 ((b.length + 1)) [AV.agg (D.Net.cs a), AV.one (AC.dat .int b)] [] (clean tab0 false 0 K) = true := by
  rw [impl_Net_at_start]
  refine T.run_true (impl_Net_at_safe a b ok_a ok_b) ?_
  have hml := maxLen_eq
  have hmr := maxRows_eq
  have q_a_list := (ok_a.2).1
  have q_b := (ok_b).1
  unfold impl_Net_at at h
  revert h
  cases hv : (impl_Net_at_T a b).val with
  | on t =>
    intro h
    simp only [S.res, S.res2, S.k] at h ⊢
    exact impl_Net_at_l4_ok a b _ K _ (by first | omega | (dsimp only; omega)) (by first | omega | (dsimp only; omega)) (by simp only [impl_Net_at_T, T.val, Bool.cond_eq_ite] at hv; (repeat' split at hv) <;> first | (cases hv; done) | (cases hv; rfl) | (cases hv; simp_all; done) | (cases hv; simp_all; omega) | (cases hv; simp only [bne_eq_false_iff_eq, beq_iff_eq, decide_eq_false_iff_not, decide_eq_true_eq, Bool.and_eq_true, Bool.or_eq_false_iff, Bool.not_eq_eq_eq_not, Bool.not_true, Bool.not_false, beq_eq_false_iff_ne, bne_iff_ne, List.length_replicate, Int.toNat_natCast, List.length_set, List.length_map, List.length_append, List.length_cons, List.length_nil, List.length_take, List.length_drop, Nat.ble_eq]; omega)) h
  | out r => exact fun h => h
theorem Net_at_zero (a : D.Net) (b : Int) (ha : a.list.length ≤ maxLen) (h : impl_Net_at a [b] = 0) : 0 ≤ b ∧ b < (a.list.length : Int) := by
  have hml := maxLen_eq
  unfold impl_Net_at at h
  simp only [impl_Net_at_T, T.val, Bool.cond_eq_ite] at h
  split at h
  · simp [S.res] at h
  · simp only [S.res, impl_Net_at_l4, forL, impl_Net_at_l4_body, impl_Net_at_l4_done, T.val, Bool.cond_eq_ite] at h
    have hw : w64 ((a.list.length : Int) - 1) = (a.list.length : Int) - 1 := w64_id (by omega) (by omega)
    rw [hw] at h
    cases hin : impl_in b 0 ((a.list.length : Int) - 1) with
    | false => rw [hin] at h; simp at h
    | true =>
      simp only [impl_in, impl_in_T, T.val, Bool.cond_eq_ite] at hin
      split at hin
      · rename_i h0
        simp at h0 hin
        omega
      · cases hin
def impl_Net_at_go : List AV → List Blk → Kont → Bool
  | [.agg a_, .one (AC.dat .int b)], [], K => (match D.Net.dec a_ with | some a => impl_Net_at_K K (impl_Net_at a b) | none => false)
  | _, _, _ => false
noncomputable def V57 : Env := V77.add 57 ⟨fun _ => true, [], impl_Net_at_go⟩
theorem V57_ok : EnvOk V57 := by
  refine V77_ok.put hm 57 _ _ impl_Net_at_go (fun args B K h oka okb => ?_)
  unfold impl_Net_at_go at h
  split at h
  · rename_i a_ b
    split at h
    rotate_left
    · cases h
    rename_i a dec_a
    have dec_a := D.Net.dec_ok dec_a
    subst dec_a
    have ok_a : D.Net.ok a := D.Net.okOf (oka _ (List.mem_of_getElem? (i := 0) rfl))
    have ok_b : okL (okD .int) b := oka _ (List.mem_of_getElem? (i := 1) rfl)
    exact ⟨_, 9, false, impl_Net_at_true a b ok_a ok_b K h⟩
  · cases h
def slices_Clone_Flight_K (K : Kont) (r : (List D.Flight)) : Bool := K [AV.one (AC.own 0)] [Blk.rows 52 .flight r]
def slices_Clone_Flight_pre (a : List D.Flight) : Bool := decide (a.length ≤ 1048576)
def slices_Clone_Flight_T (a : List D.Flight) : T ((List D.Flight)) :=
  .br (Nat.beq a.length 0)
  (.both (.ret [])
   (.grd (decide ((0 + a.length) * 48 ≤ maxRows)) (.ret ([] ++ a))))
  (.grd (decide ((0 + a.length) * 48 ≤ maxRows)) (.ret ([] ++ a)))
def slices_Clone_Flight (a : List D.Flight) : (List D.Flight) := (slices_Clone_Flight_T a).val
theorem slices_Clone_Flight_eqn (a : List D.Flight) : slices_Clone_Flight a =
  bif (Nat.beq a.length 0) then
  ([])
  else (([] ++ a)) := by kernel_rfl
theorem slices_Clone_Flight_start (a : List D.Flight) (k : Nat) (K : Kont) : bodyA V57 (run V57 k 9) 60 k [AV.one (AC.dat .flight a)] [] (clean tab0 false 0 K) =
  (slices_Clone_Flight_T a).run (slices_Clone_Flight_K K) := by kernel_rfl
theorem slices_Clone_Flight_safe (a : List D.Flight) (ok_a : okL (okD .flight) a) (hp : slices_Clone_Flight_pre a = true) : (slices_Clone_Flight_T a).safe := by
  have hml := maxLen_eq
  have hmr := maxRows_eq
  have q_a := (ok_a).1
  have hpp := hp
  simp only [slices_Clone_Flight_pre, Bool.and_eq_true, decide_eq_true_eq] at hpp
  have hml := maxLen_eq
  have hmr := maxRows_eq
  simp only [slices_Clone_Flight_T, T.safe, and_true, true_and, implies_true, bne_eq_false_iff_eq, beq_iff_eq, decide_eq_false_iff_not, decide_eq_true_eq, Bool.and_eq_true, Bool.or_eq_false_iff, Bool.not_eq_eq_eq_not, Bool.not_true, Bool.not_false, beq_eq_false_iff_ne, bne_iff_ne, List.length_replicate, Int.toNat_natCast, List.length_set, List.length_map, List.length_append, List.length_cons, List.length_nil, List.length_take, List.length_drop, Nat.ble_eq, spec_l1In, spec_l1In_T, T.val, Bool.cond_eq_ite, spec_l5Copy_pre, l5Copy_eq, spec_NetTake_pre, spec_NetDrop_pre, laws_toFlightS_pre, laws_toNet_pre, toNet_eq, impl_in, impl_in_T, slices_Clone_Flight_pre]
  repeat' (first | exact trivial | apply And.intro | intro _)
  all_goals first | omega | (simp_all; done) | (simp_all; omega)
theorem slices_Clone_Flight_true (a : List D.Flight) (ok_a : okL (okD .flight) a) (hp : slices_Clone_Flight_pre a = true) (K : Kont) (h : (slices_Clone_Flight_K K) (slices_Clone_Flight a) = true) : bodyA V57 (run V57 (0) 9) 60 (0) [AV.one (AC.dat .flight a)] [] (clean tab0 false 0 K) = true := by
  rw [slices_Clone_Flight_start]
  refine T.run_true (slices_Clone_Flight_safe a ok_a hp) ?_
  exact h
theorem Clone_Flight_eq (a : List D.Flight) : slices_Clone_Flight a = a := by
  simp only [slices_Clone_Flight, slices_Clone_Flight_T, T.val]
  cases a <;> simp [Nat.beq]
def slices_Clone_Flight_go : List AV → List Blk → Kont → Bool
  | [.one (AC.dat .flight a)], [], K => grd (slices_Clone_Flight_pre a) (slices_Clone_Flight_K K (slices_Clone_Flight a))
  | _, _, _ => false
noncomputable def V60 : Env := V57.add 60 ⟨fun _ => true, [], slices_Clone_Flight_go⟩
theorem V60_ok : EnvOk V60 := by
  refine V57_ok.put hm 60 _ _ slices_Clone_Flight_go (fun args B K h oka okb => ?_)
  unfold slices_Clone_Flight_go at h
  split at h
  · rename_i a
    have ok_a : okL (okD .flight) a := oka _ (List.mem_of_getElem? (i := 0) rfl)
    obtain ⟨hp, h⟩ := grd_ok h
    exact ⟨_, 9, false, slices_Clone_Flight_true a ok_a hp K h⟩
  · cases h
def impl_Net_own_K (K : Kont) (r : D.Net) : Bool := K [AV.agg [AC.int .i64 r.next, AC.own 0]] [Blk.rows 52 .flight r.list]
def impl_Net_own_pre (a : D.Net) : Bool := decide (a.list.length ≤ 1048576)
def impl_Net_own_T (a : D.Net) : T (D.Net) :=
  .both (let r1 : (List D.Flight) := slices_Clone_Flight a.list
   .grd (slices_Clone_Flight_pre a.list) (.ret (⟨a.next, r1⟩ : D.Net)))
  (.both (let r2 : (List D.Flight) := slices_Clone_Flight a.list
    .grd (slices_Clone_Flight_pre a.list) (.ret (⟨a.next, r2⟩ : D.Net)))
   (let r3 : (List D.Flight) := slices_Clone_Flight a.list
    .grd (slices_Clone_Flight_pre a.list) (.ret (⟨a.next, r3⟩ : D.Net))))
def impl_Net_own (a : D.Net) : D.Net := (impl_Net_own_T a).val
theorem impl_Net_own_eqn (a : D.Net) : impl_Net_own a =
  let r1 : (List D.Flight) := slices_Clone_Flight a.list
  (⟨a.next, r1⟩ : D.Net) := by kernel_rfl
theorem impl_Net_own_start (a : D.Net) (k : Nat) (K : Kont) : bodyA V60 (run V60 k 9) 78 k [AV.agg (D.Net.cs a)] [] (clean tab0 false 0 K) =
  (impl_Net_own_T a).run (impl_Net_own_K K) := by kernel_rfl
theorem impl_Net_own_safe (a : D.Net) (ok_a : D.Net.ok a) (hp : impl_Net_own_pre a = true) : (impl_Net_own_T a).safe := by
  have hml := maxLen_eq
  have hmr := maxRows_eq
  have q_a_list := (ok_a.2).1
  have hpp := hp
  simp only [impl_Net_own_pre, Bool.and_eq_true, decide_eq_true_eq] at hpp
  have hml := maxLen_eq
  have hmr := maxRows_eq
  simp only [impl_Net_own_T, T.safe, and_true, true_and, implies_true, bne_eq_false_iff_eq, beq_iff_eq, decide_eq_false_iff_not, decide_eq_true_eq, Bool.and_eq_true, Bool.or_eq_false_iff, Bool.not_eq_eq_eq_not, Bool.not_true, Bool.not_false, beq_eq_false_iff_ne, bne_iff_ne, List.length_replicate, Int.toNat_natCast, List.length_set, List.length_map, List.length_append, List.length_cons, List.length_nil, List.length_take, List.length_drop, Nat.ble_eq, spec_l1In, spec_l1In_T, T.val, Bool.cond_eq_ite, spec_l5Copy_pre, l5Copy_eq, spec_NetTake_pre, spec_NetDrop_pre, laws_toFlightS_pre, laws_toNet_pre, toNet_eq, impl_in, impl_in_T, slices_Clone_Flight_pre, Clone_Flight_eq, impl_Net_own_pre]
  repeat' (first | exact trivial | apply And.intro | intro _)
  all_goals first | omega | (simp_all; done) | (simp_all; omega)
theorem impl_Net_own_true (a : D.Net) (ok_a : D.Net.ok a) (hp : impl_Net_own_pre a = true) (K : Kont) (h : (impl_Net_own_K K) (impl_Net_own a) = true) : bodyA V60 (run V60 (0) 9) 78 (0) [AV.agg (D.Net.cs a)] [] (clean tab0 false 0 K) = true := by
  rw [impl_Net_own_start]
  refine T.run_true (impl_Net_own_safe a ok_a hp) ?_
  exact h
def impl_Net_own_go : List AV → List Blk → Kont → Bool
  | [.agg a_], [], K => (match D.Net.dec a_ with | some a => grd (impl_Net_own_pre a) (impl_Net_own_K K (impl_Net_own a)) | none => false)
  | _, _, _ => false
noncomputable def V78 : Env := V60.add 78 ⟨fun _ => true, [], impl_Net_own_go⟩
theorem V78_ok : EnvOk V78 := by
  refine V60_ok.put hm 78 _ _ impl_Net_own_go (fun args B K h oka okb => ?_)
  unfold impl_Net_own_go at h
  split at h
  · rename_i a_
    split at h
    rotate_left
    · cases h
    rename_i a dec_a
    have dec_a := D.Net.dec_ok dec_a
    subst dec_a
    have ok_a : D.Net.ok a := D.Net.okOf (oka _ (List.mem_of_getElem? (i := 0) rfl))
    obtain ⟨hp, h⟩ := grd_ok h
    exact ⟨_, 9, false, impl_Net_own_true a ok_a hp K h⟩
  · cases h
def impl_Net_refused_K (K : Kont) (r : D.Net × Int) : Bool := K [AV.agg [AC.int .i64 r.1.next, AC.own 0], AV.one (AC.int .i64 r.2)] [Blk.rows 52 .flight r.1.list]
def impl_Net_refused_pre (a : D.Net) (b : Int) : Bool := decide (a.list.length ≤ 1048576)
def impl_Net_refused_T (a : D.Net) (b : Int) : T (D.Net × Int) :=
  .br ((b : Int) == 1)
  (.ret (D.Net.zero, b))
  (let r1 : D.Net := impl_Net_own a
   .grd (impl_Net_own_pre a) (.ret (r1, b)))
def impl_Net_refused (a : D.Net) (b : Int) : D.Net × Int := (impl_Net_refused_T a b).val
theorem impl_Net_refused_eqn (a : D.Net) (b : Int) : impl_Net_refused a b =
  bif ((b : Int) == 1) then
  ((D.Net.zero, b))
  else (let r1 : D.Net := impl_Net_own a
   (r1, b)) := by kernel_rfl
theorem impl_Net_refused_start (a : D.Net) (b : Int) (k : Nat) (K : Kont) : bodyA V78 (run V78 k 9) 58 k [AV.agg (D.Net.cs a), AV.one (AC.int .i64 b)] [] (clean tab0 false 0 K) =
  (impl_Net_refused_T a b).run (impl_Net_refused_K K) := by kernel_rfl
theorem impl_Net_refused_safe (a : D.Net) (b : Int) (ok_a : D.Net.ok a) (ok_b : i64 b) (hp : impl_Net_refused_pre a b = true) : (impl_Net_refused_T a b).safe := by
  have hml := maxLen_eq
  have hmr := maxRows_eq
  have q_a_list := (ok_a.2).1
  have hpp := hp
  simp only [impl_Net_refused_pre, Bool.and_eq_true, decide_eq_true_eq] at hpp
  have hml := maxLen_eq
  have hmr := maxRows_eq
  simp only [impl_Net_refused_T, T.safe, and_true, true_and, implies_true, bne_eq_false_iff_eq, beq_iff_eq, decide_eq_false_iff_not, decide_eq_true_eq, Bool.and_eq_true, Bool.or_eq_false_iff, Bool.not_eq_eq_eq_not, Bool.not_true, Bool.not_false, beq_eq_false_iff_ne, bne_iff_ne, List.length_replicate, Int.toNat_natCast, List.length_set, List.length_map, List.length_append, List.length_cons, List.length_nil, List.length_take, List.length_drop, Nat.ble_eq, spec_l1In, spec_l1In_T, T.val, Bool.cond_eq_ite, spec_l5Copy_pre, l5Copy_eq, spec_NetTake_pre, spec_NetDrop_pre, laws_toFlightS_pre, laws_toNet_pre, toNet_eq, impl_in, impl_in_T, slices_Clone_Flight_pre, Clone_Flight_eq, impl_Net_own_pre, impl_Net_refused_pre]
  repeat' (first | exact trivial | apply And.intro | intro _)
  all_goals first | omega | (simp_all; done) | (simp_all; omega)
theorem impl_Net_refused_true (a : D.Net) (b : Int) (ok_a : D.Net.ok a) (ok_b : i64 b) (hp : impl_Net_refused_pre a b = true) (K : Kont) (h : (impl_Net_refused_K K) (impl_Net_refused a b) = true) : bodyA V78 (run V78 (0) 9) 58 (0) [AV.agg (D.Net.cs a), AV.one (AC.int .i64 b)] [] (clean tab0 false 0 K) = true := by
  rw [impl_Net_refused_start]
  refine T.run_true (impl_Net_refused_safe a b ok_a ok_b hp) ?_
  exact h
def impl_Net_refused_go : List AV → List Blk → Kont → Bool
  | [.agg a_, .one (AC.int .i64 b)], [], K => (match D.Net.dec a_ with | some a => grd (impl_Net_refused_pre a b) (impl_Net_refused_K K (impl_Net_refused a b)) | none => false)
  | _, _, _ => false
noncomputable def V58 : Env := V78.add 58 ⟨fun _ => true, [], impl_Net_refused_go⟩
theorem V58_ok : EnvOk V58 := by
  refine V78_ok.put hm 58 _ _ impl_Net_refused_go (fun args B K h oka okb => ?_)
  unfold impl_Net_refused_go at h
  split at h
  · rename_i a_ b
    split at h
    rotate_left
    · cases h
    rename_i a dec_a
    have dec_a := D.Net.dec_ok dec_a
    subst dec_a
    have ok_a : D.Net.ok a := D.Net.okOf (oka _ (List.mem_of_getElem? (i := 0) rfl))
    have ok_b : i64 b := by have := oka _ (List.mem_of_getElem? (i := 1) rfl); exact wf_i64.1 this
    obtain ⟨hp, h⟩ := grd_ok h
    exact ⟨_, 9, false, impl_Net_refused_true a b ok_a ok_b hp K h⟩
  · cases h
def impl_NetDrop_K (K : Kont) (r : D.Net × Int) : Bool := K [AV.agg [AC.int .i64 r.1.next, AC.own 0], AV.one (AC.int .i64 r.2)] [Blk.rows 52 .flight r.1.list]
def impl_NetDrop_pre (a : D.Net) (b : Int) : Bool := decide (a.list.length ≤ 1048576)
def impl_NetDrop_T (a : D.Net) (b : Int) : T (D.Net × Int) :=
  .br (((impl_Net_at a ([b] : List Int)) : Int) != 0)
  (let r1 : D.Net × Int := impl_Net_refused a (impl_Net_at a ([b] : List Int))
   .grd (impl_Net_refused_pre a (impl_Net_at a ([b] : List Int))) (.ret (r1.1, r1.2)))
  (.both (let r2 : (List D.Flight) := slices_Clone_Flight a.list
    .grd (slices_Clone_Flight_pre a.list) (.grd ((decide (0 ≤ (r2.length : Int)) && decide ((r2.length : Int) ≤ (r2.length : Int))) && ((decide (0 ≤ (w64 (b + 1))) && decide ((w64 (b + 1)) ≤ ((Int.toNat (r2.length : Int)) : Int))) && (decide (0 ≤ b) && decide (b ≤ ((Int.toNat (w64 (b + 1))) : Int))))) (.br ((b : Int) == (w64 (b + 1)))
    (.ret ((⟨a.next, r2⟩ : D.Net), 0))
    (.grd ((decide (0 ≤ b) && decide (b ≤ (r2.length : Int))) && true) (.grd (true && (decide (0 ≤ (w64 (b + 1))) && decide ((w64 (b + 1)) ≤ (r2.length : Int)))) (.grd (Nat.ble (((Int.toNat b) - 0) + ((r2.drop (Int.toNat (w64 (b + 1)))).take (r2.length - (Int.toNat (w64 (b + 1))))).length) r2.length) (.grd ((decide (0 ≤ (r2.length : Int)) && decide ((r2.length : Int) ≤ ((r2.take ((Int.toNat b) - 0) ++ ((r2.drop (Int.toNat (w64 (b + 1)))).take (r2.length - (Int.toNat (w64 (b + 1))))) ++ r2.drop (((Int.toNat b) - 0) + ((r2.drop (Int.toNat (w64 (b + 1)))).take (r2.length - (Int.toNat (w64 (b + 1))))).length)).length : Int))) && (decide (0 ≤ ((((r2.take ((Int.toNat b) - 0) ++ ((r2.drop (Int.toNat (w64 (b + 1)))).take (r2.length - (Int.toNat (w64 (b + 1))))) ++ r2.drop (((Int.toNat b) - 0) + ((r2.drop (Int.toNat (w64 (b + 1)))).take (r2.length - (Int.toNat (w64 (b + 1))))).length)).drop 0).take (((Int.toNat b) - 0) + ((r2.drop (Int.toNat (w64 (b + 1)))).take (r2.length - (Int.toNat (w64 (b + 1))))).length)).length : Int)) && decide (((((r2.take ((Int.toNat b) - 0) ++ ((r2.drop (Int.toNat (w64 (b + 1)))).take (r2.length - (Int.toNat (w64 (b + 1))))) ++ r2.drop (((Int.toNat b) - 0) + ((r2.drop (Int.toNat (w64 (b + 1)))).take (r2.length - (Int.toNat (w64 (b + 1))))).length)).drop 0).take (((Int.toNat b) - 0) + ((r2.drop (Int.toNat (w64 (b + 1)))).take (r2.length - (Int.toNat (w64 (b + 1))))).length)).length : Int) ≤ ((Int.toNat (r2.length : Int)) : Int)))) (.ret ((⟨a.next, (((r2.take ((Int.toNat b) - 0) ++ ((r2.drop (Int.toNat (w64 (b + 1)))).take (r2.length - (Int.toNat (w64 (b + 1))))) ++ r2.drop (((Int.toNat b) - 0) + ((r2.drop (Int.toNat (w64 (b + 1)))).take (r2.length - (Int.toNat (w64 (b + 1))))).length)).take (Int.toNat ((((r2.take ((Int.toNat b) - 0) ++ ((r2.drop (Int.toNat (w64 (b + 1)))).take (r2.length - (Int.toNat (w64 (b + 1))))) ++ r2.drop (((Int.toNat b) - 0) + ((r2.drop (Int.toNat (w64 (b + 1)))).take (r2.length - (Int.toNat (w64 (b + 1))))).length)).drop 0).take (((Int.toNat b) - 0) + ((r2.drop (Int.toNat (w64 (b + 1)))).take (r2.length - (Int.toNat (w64 (b + 1))))).length)).length : Int)) ++ List.replicate ((Int.toNat (r2.length : Int)) - (Int.toNat ((((r2.take ((Int.toNat b) - 0) ++ ((r2.drop (Int.toNat (w64 (b + 1)))).take (r2.length - (Int.toNat (w64 (b + 1))))) ++ r2.drop (((Int.toNat b) - 0) + ((r2.drop (Int.toNat (w64 (b + 1)))).take (r2.length - (Int.toNat (w64 (b + 1))))).length)).drop 0).take (((Int.toNat b) - 0) + ((r2.drop (Int.toNat (w64 (b + 1)))).take (r2.length - (Int.toNat (w64 (b + 1))))).length)).length : Int))) D.Flight.zero ++ (r2.take ((Int.toNat b) - 0) ++ ((r2.drop (Int.toNat (w64 (b + 1)))).take (r2.length - (Int.toNat (w64 (b + 1))))) ++ r2.drop (((Int.toNat b) - 0) + ((r2.drop (Int.toNat (w64 (b + 1)))).take (r2.length - (Int.toNat (w64 (b + 1))))).length)).drop ((Int.toNat ((((r2.take ((Int.toNat b) - 0) ++ ((r2.drop (Int.toNat (w64 (b + 1)))).take (r2.length - (Int.toNat (w64 (b + 1))))) ++ r2.drop (((Int.toNat b) - 0) + ((r2.drop (Int.toNat (w64 (b + 1)))).take (r2.length - (Int.toNat (w64 (b + 1))))).length)).drop 0).take (((Int.toNat b) - 0) + ((r2.drop (Int.toNat (w64 (b + 1)))).take (r2.length - (Int.toNat (w64 (b + 1))))).length)).length : Int)) + ((Int.toNat (r2.length : Int)) - (Int.toNat ((((r2.take ((Int.toNat b) - 0) ++ ((r2.drop (Int.toNat (w64 (b + 1)))).take (r2.length - (Int.toNat (w64 (b + 1))))) ++ r2.drop (((Int.toNat b) - 0) + ((r2.drop (Int.toNat (w64 (b + 1)))).take (r2.length - (Int.toNat (w64 (b + 1))))).length)).drop 0).take (((Int.toNat b) - 0) + ((r2.drop (Int.toNat (w64 (b + 1)))).take (r2.length - (Int.toNat (w64 (b + 1))))).length)).length : Int))))).take (((Int.toNat b) - 0) + ((r2.drop (Int.toNat (w64 (b + 1)))).take (r2.length - (Int.toNat (w64 (b + 1))))).length))⟩ : D.Net), 0)))))))))
   (.both (let r3 : (List D.Flight) := slices_Clone_Flight a.list
     .grd (slices_Clone_Flight_pre a.list) (.grd ((decide (0 ≤ (r3.length : Int)) && decide ((r3.length : Int) ≤ (r3.length : Int))) && ((decide (0 ≤ (w64 (b + 1))) && decide ((w64 (b + 1)) ≤ ((Int.toNat (r3.length : Int)) : Int))) && (decide (0 ≤ b) && decide (b ≤ ((Int.toNat (w64 (b + 1))) : Int))))) (.br ((b : Int) == (w64 (b + 1)))
     (.ret ((⟨a.next, r3⟩ : D.Net), 0))
     (.grd ((decide (0 ≤ b) && decide (b ≤ (r3.length : Int))) && true) (.grd (true && (decide (0 ≤ (w64 (b + 1))) && decide ((w64 (b + 1)) ≤ (r3.length : Int)))) (.grd (Nat.ble (((Int.toNat b) - 0) + ((r3.drop (Int.toNat (w64 (b + 1)))).take (r3.length - (Int.toNat (w64 (b + 1))))).length) r3.length) (.grd ((decide (0 ≤ (r3.length : Int)) && decide ((r3.length : Int) ≤ ((r3.take ((Int.toNat b) - 0) ++ ((r3.drop (Int.toNat (w64 (b + 1)))).take (r3.length - (Int.toNat (w64 (b + 1))))) ++ r3.drop (((Int.toNat b) - 0) + ((r3.drop (Int.toNat (w64 (b + 1)))).take (r3.length - (Int.toNat (w64 (b + 1))))).length)).length : Int))) && (decide (0 ≤ ((((r3.take ((Int.toNat b) - 0) ++ ((r3.drop (Int.toNat (w64 (b + 1)))).take (r3.length - (Int.toNat (w64 (b + 1))))) ++ r3.drop (((Int.toNat b) - 0) + ((r3.drop (Int.toNat (w64 (b + 1)))).take (r3.length - (Int.toNat (w64 (b + 1))))).length)).drop 0).take (((Int.toNat b) - 0) + ((r3.drop (Int.toNat (w64 (b + 1)))).take (r3.length - (Int.toNat (w64 (b + 1))))).length)).length : Int)) && decide (((((r3.take ((Int.toNat b) - 0) ++ ((r3.drop (Int.toNat (w64 (b + 1)))).take (r3.length - (Int.toNat (w64 (b + 1))))) ++ r3.drop (((Int.toNat b) - 0) + ((r3.drop (Int.toNat (w64 (b + 1)))).take (r3.length - (Int.toNat (w64 (b + 1))))).length)).drop 0).take (((Int.toNat b) - 0) + ((r3.drop (Int.toNat (w64 (b + 1)))).take (r3.length - (Int.toNat (w64 (b + 1))))).length)).length : Int) ≤ ((Int.toNat (r3.length : Int)) : Int)))) (.ret ((⟨a.next, (((r3.take ((Int.toNat b) - 0) ++ ((r3.drop (Int.toNat (w64 (b + 1)))).take (r3.length - (Int.toNat (w64 (b + 1))))) ++ r3.drop (((Int.toNat b) - 0) + ((r3.drop (Int.toNat (w64 (b + 1)))).take (r3.length - (Int.toNat (w64 (b + 1))))).length)).take (Int.toNat ((((r3.take ((Int.toNat b) - 0) ++ ((r3.drop (Int.toNat (w64 (b + 1)))).take (r3.length - (Int.toNat (w64 (b + 1))))) ++ r3.drop (((Int.toNat b) - 0) + ((r3.drop (Int.toNat (w64 (b + 1)))).take (r3.length - (Int.toNat (w64 (b + 1))))).length)).drop 0).take (((Int.toNat b) - 0) + ((r3.drop (Int.toNat (w64 (b + 1)))).take (r3.length - (Int.toNat (w64 (b + 1))))).length)).length : Int)) ++ List.replicate ((Int.toNat (r3.length : Int)) - (Int.toNat ((((r3.take ((Int.toNat b) - 0) ++ ((r3.drop (Int.toNat (w64 (b + 1)))).take (r3.length - (Int.toNat (w64 (b + 1))))) ++ r3.drop (((Int.toNat b) - 0) + ((r3.drop (Int.toNat (w64 (b + 1)))).take (r3.length - (Int.toNat (w64 (b + 1))))).length)).drop 0).take (((Int.toNat b) - 0) + ((r3.drop (Int.toNat (w64 (b + 1)))).take (r3.length - (Int.toNat (w64 (b + 1))))).length)).length : Int))) D.Flight.zero ++ (r3.take ((Int.toNat b) - 0) ++ ((r3.drop (Int.toNat (w64 (b + 1)))).take (r3.length - (Int.toNat (w64 (b + 1))))) ++ r3.drop (((Int.toNat b) - 0) + ((r3.drop (Int.toNat (w64 (b + 1)))).take (r3.length - (Int.toNat (w64 (b + 1))))).length)).drop ((Int.toNat ((((r3.take ((Int.toNat b) - 0) ++ ((r3.drop (Int.toNat (w64 (b + 1)))).take (r3.length - (Int.toNat (w64 (b + 1))))) ++ r3.drop (((Int.toNat b) - 0) + ((r3.drop (Int.toNat (w64 (b + 1)))).take (r3.length - (Int.toNat (w64 (b + 1))))).length)).drop 0).take (((Int.toNat b) - 0) + ((r3.drop (Int.toNat (w64 (b + 1)))).take (r3.length - (Int.toNat (w64 (b + 1))))).length)).length : Int)) + ((Int.toNat (r3.length : Int)) - (Int.toNat ((((r3.take ((Int.toNat b) - 0) ++ ((r3.drop (Int.toNat (w64 (b + 1)))).take (r3.length - (Int.toNat (w64 (b + 1))))) ++ r3.drop (((Int.toNat b) - 0) + ((r3.drop (Int.toNat (w64 (b + 1)))).take (r3.length - (Int.toNat (w64 (b + 1))))).length)).drop 0).take (((Int.toNat b) - 0) + ((r3.drop (Int.toNat (w64 (b + 1)))).take (r3.length - (Int.toNat (w64 (b + 1))))).length)).length : Int))))).take (((Int.toNat b) - 0) + ((r3.drop (Int.toNat (w64 (b + 1)))).take (r3.length - (Int.toNat (w64 (b + 1))))).length))⟩ : D.Net), 0)))))))))
    (let r4 : (List D.Flight) := slices_Clone_Flight a.list
     .grd (slices_Clone_Flight_pre a.list) (.both (.grd ((decide (0 ≤ (r4.length : Int)) && decide ((r4.length : Int) ≤ (r4.length : Int))) && ((decide (0 ≤ (w64 (b + 1))) && decide ((w64 (b + 1)) ≤ ((Int.toNat (r4.length : Int)) : Int))) && (decide (0 ≤ b) && decide (b ≤ ((Int.toNat (w64 (b + 1))) : Int))))) (.br ((b : Int) == (w64 (b + 1)))
      (.ret ((⟨a.next, r4⟩ : D.Net), 0))
      (.grd ((decide (0 ≤ b) && decide (b ≤ (r4.length : Int))) && true) (.grd (true && (decide (0 ≤ (w64 (b + 1))) && decide ((w64 (b + 1)) ≤ (r4.length : Int)))) (.grd (Nat.ble (((Int.toNat b) - 0) + ((r4.drop (Int.toNat (w64 (b + 1)))).take (r4.length - (Int.toNat (w64 (b + 1))))).length) r4.length) (.grd ((decide (0 ≤ (r4.length : Int)) && decide ((r4.length : Int) ≤ ((r4.take ((Int.toNat b) - 0) ++ ((r4.drop (Int.toNat (w64 (b + 1)))).take (r4.length - (Int.toNat (w64 (b + 1))))) ++ r4.drop (((Int.toNat b) - 0) + ((r4.drop (Int.toNat (w64 (b + 1)))).take (r4.length - (Int.toNat (w64 (b + 1))))).length)).length : Int))) && (decide (0 ≤ ((((r4.take ((Int.toNat b) - 0) ++ ((r4.drop (Int.toNat (w64 (b + 1)))).take (r4.length - (Int.toNat (w64 (b + 1))))) ++ r4.drop (((Int.toNat b) - 0) + ((r4.drop (Int.toNat (w64 (b + 1)))).take (r4.length - (Int.toNat (w64 (b + 1))))).length)).drop 0).take (((Int.toNat b) - 0) + ((r4.drop (Int.toNat (w64 (b + 1)))).take (r4.length - (Int.toNat (w64 (b + 1))))).length)).length : Int)) && decide (((((r4.take ((Int.toNat b) - 0) ++ ((r4.drop (Int.toNat (w64 (b + 1)))).take (r4.length - (Int.toNat (w64 (b + 1))))) ++ r4.drop (((Int.toNat b) - 0) + ((r4.drop (Int.toNat (w64 (b + 1)))).take (r4.length - (Int.toNat (w64 (b + 1))))).length)).drop 0).take (((Int.toNat b) - 0) + ((r4.drop (Int.toNat (w64 (b + 1)))).take (r4.length - (Int.toNat (w64 (b + 1))))).length)).length : Int) ≤ ((Int.toNat (r4.length : Int)) : Int)))) (.ret ((⟨a.next, (((r4.take ((Int.toNat b) - 0) ++ ((r4.drop (Int.toNat (w64 (b + 1)))).take (r4.length - (Int.toNat (w64 (b + 1))))) ++ r4.drop (((Int.toNat b) - 0) + ((r4.drop (Int.toNat (w64 (b + 1)))).take (r4.length - (Int.toNat (w64 (b + 1))))).length)).take (Int.toNat ((((r4.take ((Int.toNat b) - 0) ++ ((r4.drop (Int.toNat (w64 (b + 1)))).take (r4.length - (Int.toNat (w64 (b + 1))))) ++ r4.drop (((Int.toNat b) - 0) + ((r4.drop (Int.toNat (w64 (b + 1)))).take (r4.length - (Int.toNat (w64 (b + 1))))).length)).drop 0).take (((Int.toNat b) - 0) + ((r4.drop (Int.toNat (w64 (b + 1)))).take (r4.length - (Int.toNat (w64 (b + 1))))).length)).length : Int)) ++ List.replicate ((Int.toNat (r4.length : Int)) - (Int.toNat ((((r4.take ((Int.toNat b) - 0) ++ ((r4.drop (Int.toNat (w64 (b + 1)))).take (r4.length - (Int.toNat (w64 (b + 1))))) ++ r4.drop (((Int.toNat b) - 0) + ((r4.drop (Int.toNat (w64 (b + 1)))).take (r4.length - (Int.toNat (w64 (b + 1))))).length)).drop 0).take (((Int.toNat b) - 0) + ((r4.drop (Int.toNat (w64 (b + 1)))).take (r4.length - (Int.toNat (w64 (b + 1))))).length)).length : Int))) D.Flight.zero ++ (r4.take ((Int.toNat b) - 0) ++ ((r4.drop (Int.toNat (w64 (b + 1)))).take (r4.length - (Int.toNat (w64 (b + 1))))) ++ r4.drop (((Int.toNat b) - 0) + ((r4.drop (Int.toNat (w64 (b + 1)))).take (r4.length - (Int.toNat (w64 (b + 1))))).length)).drop ((Int.toNat ((((r4.take ((Int.toNat b) - 0) ++ ((r4.drop (Int.toNat (w64 (b + 1)))).take (r4.length - (Int.toNat (w64 (b + 1))))) ++ r4.drop (((Int.toNat b) - 0) + ((r4.drop (Int.toNat (w64 (b + 1)))).take (r4.length - (Int.toNat (w64 (b + 1))))).length)).drop 0).take (((Int.toNat b) - 0) + ((r4.drop (Int.toNat (w64 (b + 1)))).take (r4.length - (Int.toNat (w64 (b + 1))))).length)).length : Int)) + ((Int.toNat (r4.length : Int)) - (Int.toNat ((((r4.take ((Int.toNat b) - 0) ++ ((r4.drop (Int.toNat (w64 (b + 1)))).take (r4.length - (Int.toNat (w64 (b + 1))))) ++ r4.drop (((Int.toNat b) - 0) + ((r4.drop (Int.toNat (w64 (b + 1)))).take (r4.length - (Int.toNat (w64 (b + 1))))).length)).drop 0).take (((Int.toNat b) - 0) + ((r4.drop (Int.toNat (w64 (b + 1)))).take (r4.length - (Int.toNat (w64 (b + 1))))).length)).length : Int))))).take (((Int.toNat b) - 0) + ((r4.drop (Int.toNat (w64 (b + 1)))).take (r4.length - (Int.toNat (w64 (b + 1))))).length))⟩ : D.Net), 0))))))))
     (.grd ((decide (0 ≤ (r4.length : Int)) && decide ((r4.length : Int) ≤ (r4.length : Int))) && ((decide (0 ≤ (w64 (b + 1))) && decide ((w64 (b + 1)) ≤ ((Int.toNat (r4.length : Int)) : Int))) && (decide (0 ≤ b) && decide (b ≤ ((Int.toNat (w64 (b + 1))) : Int))))) (.br ((b : Int) == (w64 (b + 1)))
      (.ret ((⟨a.next, r4⟩ : D.Net), 0))
      (.grd ((decide (0 ≤ b) && decide (b ≤ (r4.length : Int))) && true) (.grd (true && (decide (0 ≤ (w64 (b + 1))) && decide ((w64 (b + 1)) ≤ (r4.length : Int)))) (.grd (Nat.ble (((Int.toNat b) - 0) + ((r4.drop (Int.toNat (w64 (b + 1)))).take (r4.length - (Int.toNat (w64 (b + 1))))).length) r4.length) (.grd ((decide (0 ≤ (r4.length : Int)) && decide ((r4.length : Int) ≤ ((r4.take ((Int.toNat b) - 0) ++ ((r4.drop (Int.toNat (w64 (b + 1)))).take (r4.length - (Int.toNat (w64 (b + 1))))) ++ r4.drop (((Int.toNat b) - 0) + ((r4.drop (Int.toNat (w64 (b + 1)))).take (r4.length - (Int.toNat (w64 (b + 1))))).length)).length : Int))) && (decide (0 ≤ ((((r4.take ((Int.toNat b) - 0) ++ ((r4.drop (Int.toNat (w64 (b + 1)))).take (r4.length - (Int.toNat (w64 (b + 1))))) ++ r4.drop (((Int.toNat b) - 0) + ((r4.drop (Int.toNat (w64 (b + 1)))).take (r4.length - (Int.toNat (w64 (b + 1))))).length)).drop 0).take (((Int.toNat b) - 0) + ((r4.drop (Int.toNat (w64 (b + 1)))).take (r4.length - (Int.toNat (w64 (b + 1))))).length)).length : Int)) && decide (((((r4.take ((Int.toNat b) - 0) ++ ((r4.drop (Int.toNat (w64 (b + 1)))).take (r4.length - (Int.toNat (w64 (b + 1))))) ++ r4.drop (((Int.toNat b) - 0) + ((r4.drop (Int.toNat (w64 (b + 1)))).take (r4.length - (Int.toNat (w64 (b + 1))))).length)).drop 0).take (((Int.toNat b) - 0) + ((r4.drop (Int.toNat (w64 (b + 1)))).take (r4.length - (Int.toNat (w64 (b + 1))))).length)).length : Int) ≤ ((Int.toNat (r4.length : Int)) : Int)))) (.ret ((⟨a.next, (((r4.take ((Int.toNat b) - 0) ++ ((r4.drop (Int.toNat (w64 (b + 1)))).take (r4.length - (Int.toNat (w64 (b + 1))))) ++ r4.drop (((Int.toNat b) - 0) + ((r4.drop (Int.toNat (w64 (b + 1)))).take (r4.length - (Int.toNat (w64 (b + 1))))).length)).take (Int.toNat ((((r4.take ((Int.toNat b) - 0) ++ ((r4.drop (Int.toNat (w64 (b + 1)))).take (r4.length - (Int.toNat (w64 (b + 1))))) ++ r4.drop (((Int.toNat b) - 0) + ((r4.drop (Int.toNat (w64 (b + 1)))).take (r4.length - (Int.toNat (w64 (b + 1))))).length)).drop 0).take (((Int.toNat b) - 0) + ((r4.drop (Int.toNat (w64 (b + 1)))).take (r4.length - (Int.toNat (w64 (b + 1))))).length)).length : Int)) ++ List.replicate ((Int.toNat (r4.length : Int)) - (Int.toNat ((((r4.take ((Int.toNat b) - 0) ++ ((r4.drop (Int.toNat (w64 (b + 1)))).take (r4.length - (Int.toNat (w64 (b + 1))))) ++ r4.drop (((Int.toNat b) - 0) + ((r4.drop (Int.toNat (w64 (b + 1)))).take (r4.length - (Int.toNat (w64 (b + 1))))).length)).drop 0).take (((Int.toNat b) - 0) + ((r4.drop (Int.toNat (w64 (b + 1)))).take (r4.length - (Int.toNat (w64 (b + 1))))).length)).length : Int))) D.Flight.zero ++ (r4.take ((Int.toNat b) - 0) ++ ((r4.drop (Int.toNat (w64 (b + 1)))).take (r4.length - (Int.toNat (w64 (b + 1))))) ++ r4.drop (((Int.toNat b) - 0) + ((r4.drop (Int.toNat (w64 (b + 1)))).take (r4.length - (Int.toNat (w64 (b + 1))))).length)).drop ((Int.toNat ((((r4.take ((Int.toNat b) - 0) ++ ((r4.drop (Int.toNat (w64 (b + 1)))).take (r4.length - (Int.toNat (w64 (b + 1))))) ++ r4.drop (((Int.toNat b) - 0) + ((r4.drop (Int.toNat (w64 (b + 1)))).take (r4.length - (Int.toNat (w64 (b + 1))))).length)).drop 0).take (((Int.toNat b) - 0) + ((r4.drop (Int.toNat (w64 (b + 1)))).take (r4.length - (Int.toNat (w64 (b + 1))))).length)).length : Int)) + ((Int.toNat (r4.length : Int)) - (Int.toNat ((((r4.take ((Int.toNat b) - 0) ++ ((r4.drop (Int.toNat (w64 (b + 1)))).take (r4.length - (Int.toNat (w64 (b + 1))))) ++ r4.drop (((Int.toNat b) - 0) + ((r4.drop (Int.toNat (w64 (b + 1)))).take (r4.length - (Int.toNat (w64 (b + 1))))).length)).drop 0).take (((Int.toNat b) - 0) + ((r4.drop (Int.toNat (w64 (b + 1)))).take (r4.length - (Int.toNat (w64 (b + 1))))).length)).length : Int))))).take (((Int.toNat b) - 0) + ((r4.drop (Int.toNat (w64 (b + 1)))).take (r4.length - (Int.toNat (w64 (b + 1))))).length))⟩ : D.Net), 0))))))))))))
def impl_NetDrop (a : D.Net) (b : Int) : D.Net × Int := (impl_NetDrop_T a b).val
theorem impl_NetDrop_eqn (a : D.Net) (b : Int) : impl_NetDrop a b =
  bif (((impl_Net_at a ([b] : List Int)) : Int) != 0) then
  (let r1 : D.Net × Int := impl_Net_refused a (impl_Net_at a ([b] : List Int))
   (r1.1, r1.2))
  else (let r2 : (List D.Flight) := slices_Clone_Flight a.list
   bif ((b : Int) == (w64 (b + 1))) then
   (((⟨a.next, r2⟩ : D.Net), 0))
   else (((⟨a.next, (((r2.take ((Int.toNat b) - 0) ++ ((r2.drop (Int.toNat (w64 (b + 1)))).take (r2.length - (Int.toNat (w64 (b + 1))))) ++ r2.drop (((Int.toNat b) - 0) + ((r2.drop (Int.toNat (w64 (b + 1)))).take (r2.length - (Int.toNat (w64 (b + 1))))).length)).take (Int.toNat ((((r2.take ((Int.toNat b) - 0) ++ ((r2.drop (Int.toNat (w64 (b + 1)))).take (r2.length - (Int.toNat (w64 (b + 1))))) ++ r2.drop (((Int.toNat b) - 0) + ((r2.drop (Int.toNat (w64 (b + 1)))).take (r2.length - (Int.toNat (w64 (b + 1))))).length)).drop 0).take (((Int.toNat b) - 0) + ((r2.drop (Int.toNat (w64 (b + 1)))).take (r2.length - (Int.toNat (w64 (b + 1))))).length)).length : Int)) ++ List.replicate ((Int.toNat (r2.length : Int)) - (Int.toNat ((((r2.take ((Int.toNat b) - 0) ++ ((r2.drop (Int.toNat (w64 (b + 1)))).take (r2.length - (Int.toNat (w64 (b + 1))))) ++ r2.drop (((Int.toNat b) - 0) + ((r2.drop (Int.toNat (w64 (b + 1)))).take (r2.length - (Int.toNat (w64 (b + 1))))).length)).drop 0).take (((Int.toNat b) - 0) + ((r2.drop (Int.toNat (w64 (b + 1)))).take (r2.length - (Int.toNat (w64 (b + 1))))).length)).length : Int))) D.Flight.zero ++ (r2.take ((Int.toNat b) - 0) ++ ((r2.drop (Int.toNat (w64 (b + 1)))).take (r2.length - (Int.toNat (w64 (b + 1))))) ++ r2.drop (((Int.toNat b) - 0) + ((r2.drop (Int.toNat (w64 (b + 1)))).take (r2.length - (Int.toNat (w64 (b + 1))))).length)).drop ((Int.toNat ((((r2.take ((Int.toNat b) - 0) ++ ((r2.drop (Int.toNat (w64 (b + 1)))).take (r2.length - (Int.toNat (w64 (b + 1))))) ++ r2.drop (((Int.toNat b) - 0) + ((r2.drop (Int.toNat (w64 (b + 1)))).take (r2.length - (Int.toNat (w64 (b + 1))))).length)).drop 0).take (((Int.toNat b) - 0) + ((r2.drop (Int.toNat (w64 (b + 1)))).take (r2.length - (Int.toNat (w64 (b + 1))))).length)).length : Int)) + ((Int.toNat (r2.length : Int)) - (Int.toNat ((((r2.take ((Int.toNat b) - 0) ++ ((r2.drop (Int.toNat (w64 (b + 1)))).take (r2.length - (Int.toNat (w64 (b + 1))))) ++ r2.drop (((Int.toNat b) - 0) + ((r2.drop (Int.toNat (w64 (b + 1)))).take (r2.length - (Int.toNat (w64 (b + 1))))).length)).drop 0).take (((Int.toNat b) - 0) + ((r2.drop (Int.toNat (w64 (b + 1)))).take (r2.length - (Int.toNat (w64 (b + 1))))).length)).length : Int))))).take (((Int.toNat b) - 0) + ((r2.drop (Int.toNat (w64 (b + 1)))).take (r2.length - (Int.toNat (w64 (b + 1))))).length))⟩ : D.Net), 0))) := by kernel_rfl
theorem impl_NetDrop_start (a : D.Net) (b : Int) (k : Nat) (K : Kont) : bodyA V58 (run V58 k 9) 33 k [AV.agg (D.Net.cs a), AV.one (AC.int .i64 b)] [] (clean tab0 false 0 K) =
  (impl_NetDrop_T a b).run (impl_NetDrop_K K) := by kernel_rfl
theorem impl_NetDrop_safe (a : D.Net) (b : Int) (ok_a : D.Net.ok a) (ok_b : i64 b) (hp : impl_NetDrop_pre a b = true) : (impl_NetDrop_T a b).safe := by
  have hml := maxLen_eq
  have hmr := maxRows_eq
  have q_a_list := (ok_a.2).1
  have hat := Net_at_zero a b q_a_list
  have hw : 0 ≤ b → b < (a.list.length : Int) → w64 (b + 1) = b + 1 := fun h1 h2 => w64_id (by omega) (by omega)
  have hpp := hp
  simp only [impl_NetDrop_pre, Bool.and_eq_true, decide_eq_true_eq] at hpp
  have hml := maxLen_eq
  have hmr := maxRows_eq
  simp only [impl_NetDrop_T, T.safe, and_true, true_and, implies_true, bne_eq_false_iff_eq, beq_iff_eq, decide_eq_false_iff_not, decide_eq_true_eq, Bool.and_eq_true, Bool.or_eq_false_iff, Bool.not_eq_eq_eq_not, Bool.not_true, Bool.not_false, beq_eq_false_iff_ne, bne_iff_ne, List.length_replicate, Int.toNat_natCast, List.length_set, List.length_map, List.length_append, List.length_cons, List.length_nil, List.length_take, List.length_drop, Nat.ble_eq, spec_l1In, spec_l1In_T, T.val, Bool.cond_eq_ite, spec_l5Copy_pre, l5Copy_eq, spec_NetTake_pre, spec_NetDrop_pre, laws_toFlightS_pre, laws_toNet_pre, toNet_eq, impl_in, impl_in_T, slices_Clone_Flight_pre, Clone_Flight_eq, impl_Net_own_pre, impl_Net_refused_pre, impl_NetDrop_pre]
  repeat' (first | exact trivial | apply And.intro | intro _)
  all_goals first | omega | (simp_all; done) | (simp_all; omega)
theorem impl_NetDrop_true (a : D.Net) (b : Int) (ok_a : D.Net.ok a) (ok_b : i64 b) (hp : impl_NetDrop_pre a b = true) (K : Kont) (h : (impl_NetDrop_K K) (impl_NetDrop a b) = true) : bodyA V58 (run V58 (0) 9) 33 (0) [AV.agg (D.Net.cs a), AV.one (AC.int .i64 b)] [] (clean tab0 false 0 K) = true := by
  rw [impl_NetDrop_start]
  refine T.run_true (impl_NetDrop_safe a b ok_a ok_b hp) ?_
  exact h
theorem NetDrop_code (a : D.Net) (b : Int) : (impl_NetDrop a b).2 = impl_Net_at a [b] := by
  simp only [impl_NetDrop, impl_NetDrop_T, T.val, Bool.cond_eq_ite]
  split
  · simp only [impl_Net_refused, impl_Net_refused_T, T.val, Bool.cond_eq_ite]
    split <;> rfl
  · rename_i h
    simp at h
    rw [h]
    split <;> rfl
def impl_NetDrop_go : List AV → List Blk → Kont → Bool
  | [.agg a_, .one (AC.int .i64 b)], [], K => (match D.Net.dec a_ with | some a => grd (impl_NetDrop_pre a b) (impl_NetDrop_K K (impl_NetDrop a b)) | none => false)
  | _, _, _ => false
noncomputable def V33 : Env := V58.add 33 ⟨fun _ => true, [], impl_NetDrop_go⟩
theorem V33_ok : EnvOk V33 := by
  refine V58_ok.put hm 33 _ _ impl_NetDrop_go (fun args B K h oka okb => ?_)
  unfold impl_NetDrop_go at h
  split at h
  · rename_i a_ b
    split at h
    rotate_left
    · cases h
    rename_i a dec_a
    have dec_a := D.Net.dec_ok dec_a
    subst dec_a
    have ok_a : D.Net.ok a := D.Net.okOf (oka _ (List.mem_of_getElem? (i := 0) rfl))
    have ok_b : i64 b := by have := oka _ (List.mem_of_getElem? (i := 1) rfl); exact wf_i64.1 this
    obtain ⟨hp, h⟩ := grd_ok h
    exact ⟨_, 9, false, impl_NetDrop_true a b ok_a ok_b hp K h⟩
  · cases h
def laws_eqFlight_K (K : Kont) (r : Bool) : Bool := K [AV.one (AC.bool r)] []
def laws_eqFlight_T (a : D.Flight) (b : D.Flight) : T (Bool) :=
  .br ((a.id : Int) != b.id)
  (.ret false)
  (.br ((a.frm : Int) != b.frm)
   (.ret false)
   (.br ((a.to : Int) != b.to)
    (.ret false)
    (.br (!(a.bytes == b.bytes))
     (.ret false)
     (.br ((a.at_ : Int) != b.at_)
      (.ret false)
      (.ret true)))))
def laws_eqFlight (a : D.Flight) (b : D.Flight) : Bool := (laws_eqFlight_T a b).val
theorem laws_eqFlight_eqn (a : D.Flight) (b : D.Flight) : laws_eqFlight a b =
  bif ((a.id : Int) != b.id) then
  (false)
  else (bif ((a.frm : Int) != b.frm) then
   (false)
   else (bif ((a.to : Int) != b.to) then
    (false)
    else (bif (!(a.bytes == b.bytes)) then
     (false)
     else (bif ((a.at_ : Int) != b.at_) then
      (false)
      else (true))))) := by kernel_rfl
theorem laws_eqFlight_start (a : D.Flight) (b : D.Flight) (k : Nat) (K : Kont) : bodyA V33 (run V33 k 9) 39 k [AV.agg (D.Flight.cs a), AV.agg (D.Flight.cs b)] [] (clean tab0 false 0 K) =
  (laws_eqFlight_T a b).run (laws_eqFlight_K K) := by kernel_rfl
theorem laws_eqFlight_safe (a : D.Flight) (b : D.Flight) (ok_a : D.Flight.ok a) (ok_b : D.Flight.ok b) : (laws_eqFlight_T a b).safe := by
  exact T.safe_free (by kernel_rfl)
theorem laws_eqFlight_true (a : D.Flight) (b : D.Flight) (ok_a : D.Flight.ok a) (ok_b : D.Flight.ok b) (K : Kont) (h : (laws_eqFlight_K K) (laws_eqFlight a b) = true) : bodyA V33 (run V33 (0) 9) 39 (0) [AV.agg (D.Flight.cs a), AV.agg (D.Flight.cs b)] [] (clean tab0 false 0 K) = true := by
  rw [laws_eqFlight_start]
  refine T.run_true (laws_eqFlight_safe a b ok_a ok_b) ?_
  exact h
def laws_eqFlight_go : List AV → List Blk → Kont → Bool
  | [.agg a_, .agg b_], [], K => (match D.Flight.dec a_ with | some a => (match D.Flight.dec b_ with | some b => laws_eqFlight_K K (laws_eqFlight a b) | none => false) | none => false)
  | _, _, _ => false
noncomputable def V39 : Env := V33.add 39 ⟨fun _ => true, [], laws_eqFlight_go⟩
theorem V39_ok : EnvOk V39 := by
  refine V33_ok.put hm 39 _ _ laws_eqFlight_go (fun args B K h oka okb => ?_)
  unfold laws_eqFlight_go at h
  split at h
  · rename_i a_ b_
    split at h
    rotate_left
    · cases h
    rename_i a dec_a
    have dec_a := D.Flight.dec_ok dec_a
    subst dec_a
    split at h
    rotate_left
    · cases h
    rename_i b dec_b
    have dec_b := D.Flight.dec_ok dec_b
    subst dec_b
    have ok_a : D.Flight.ok a := D.Flight.okOf (oka _ (List.mem_of_getElem? (i := 0) rfl))
    have ok_b : D.Flight.ok b := D.Flight.okOf (oka _ (List.mem_of_getElem? (i := 1) rfl))
    exact ⟨_, 9, false, laws_eqFlight_true a b ok_a ok_b K h⟩
  · cases h
def laws_eqFlightS_K (K : Kont) (r : Bool) : Bool := K [AV.one (AC.bool r)] []
noncomputable def laws_eqFlightS_l4_L (k m : Nat) (K : Kont) (st : St) : Bool := iter tab0 0 (exC V39 (run V39 k 9) 0 61 k (fstC (fstC (sndC (fstC (sndC (sndC (bodyC V39.P 61)))))))) [0, 1, 5] m st (kBlk 0 (kSeq (exC V39 (run V39 k 9) 0 61 k (sndC (sndC (sndC (bodyC V39.P 61))))) (kBody V39.P (resC V39.P 61) (clean tab0 false 0 K))))
def laws_eqFlightS_l4_st (a : List D.Flight) (b : List D.Flight) (i : Int) (s : Unit) : St := ⟨[(0, AV.one (AC.dat .flight a)), (1, AV.one (AC.dat .flight b)), (5, AV.one (AC.int .i64 (i)))], []⟩
def laws_eqFlightS_l4_body (a : List D.Flight) (b : List D.Flight) (i : Int) (x : D.Flight) (s : Unit) : T (S (Unit) (Bool)) :=
  .grd (decide (0 ≤ i) && decide (i < (a.length : Int))) (.grd (decide (0 ≤ i) && decide (i < (b.length : Int))) (.br (!(laws_eqFlight x (elem .flight b (Int.toNat (i)))))
  (.ret (.out (false)))
  (.ret (.on ()))))
def laws_eqFlightS_l4_done (a : List D.Flight) (b : List D.Flight) (s : Unit) : T (Bool) :=
  .ret true
theorem laws_eqFlightS_l4_step (a : List D.Flight) (b : List D.Flight) (k m : Nat) (K : Kont) (i : Int) (s : Unit) : laws_eqFlightS_l4_L k (m + 1) K (laws_eqFlightS_l4_st a b i s) =
  br (decide (i < (a.length : Int))) ((laws_eqFlightS_l4_body a b i (elem .flight a (Int.toNat i)) s).run (S.k (fun s' => laws_eqFlightS_l4_L k m K (laws_eqFlightS_l4_st a b (w64 (i + 1)) s')) (laws_eqFlightS_K K))) ((laws_eqFlightS_l4_done a b s).run (laws_eqFlightS_K K)) := by kernel_rfl
def laws_eqFlightS_l4 (a : List D.Flight) (b : List D.Flight) (s : Unit) : Bool := forL (fun i x s => (laws_eqFlightS_l4_body a b i x s).val) (fun s => (laws_eqFlightS_l4_done a b s).val) a 0 s
theorem laws_eqFlightS_l4_ok (a : List D.Flight) (b : List D.Flight) (k : Nat) (K : Kont) (s : Unit) (hl : a.length ≤ maxLen) (hk : a.length < k) (hi : (fun i s => (((a.length : Int) : Int) != (b.length : Int)) = false) 0 s) (h : (laws_eqFlightS_K K) (laws_eqFlightS_l4 a b s) = true) : laws_eqFlightS_l4_L k k K (laws_eqFlightS_l4_st a b 0 s) = true := by
  have hml := maxLen_eq
  have hmr := maxRows_eq
  refine forL_ok (L := fun m i s => laws_eqFlightS_l4_L k m K (laws_eqFlightS_l4_st a b i s)) (l := a) (dv := dflt .flight) (body := laws_eqFlightS_l4_body a b) (done := laws_eqFlightS_l4_done a b) (fb := (fun i x s c => c)) (fd := fun c => c) (Kb := fun m i => S.k (fun s' => laws_eqFlightS_l4_L k m K (laws_eqFlightS_l4_st a b (w64 (i + 1)) s')) (laws_eqFlightS_K K)) (Kd := (laws_eqFlightS_K K)) (K := (laws_eqFlightS_K K)) (fun m i s => laws_eqFlightS_l4_step a b k m K i s) (fun i s => (((a.length : Int) : Int) != (b.length : Int)) = false) hl ?hb ?hd ?hKb ?hKd _ k 0 s (by omega) rfl (by omega) (by simp; omega) hi h
  case hb =>
    intro i s h0 hN hi
    refine ⟨?safe, ?pres⟩
    case safe =>
      try simp only [bne_eq_false_iff_eq, beq_iff_eq, decide_eq_false_iff_not, decide_eq_true_eq, Bool.and_eq_true, Bool.or_eq_false_iff, Bool.not_eq_eq_eq_not, Bool.not_true, Bool.not_false, beq_eq_false_iff_ne, bne_iff_ne, List.length_replicate, Int.toNat_natCast, List.length_set, List.length_map, List.length_append, List.length_cons, List.length_nil, List.length_take, List.length_drop, Nat.ble_eq] at hi
      simp only [laws_eqFlightS_l4_body, T.safe, and_true, true_and, implies_true, bne_eq_false_iff_eq, beq_iff_eq, decide_eq_false_iff_not, decide_eq_true_eq, Bool.and_eq_true, Bool.or_eq_false_iff, Bool.not_eq_eq_eq_not, Bool.not_true, Bool.not_false, beq_eq_false_iff_ne, bne_iff_ne, List.length_replicate, Int.toNat_natCast, List.length_set, List.length_map, List.length_append, List.length_cons, List.length_nil, List.length_take, List.length_drop, Nat.ble_eq, spec_l1In, spec_l1In_T, T.val, Bool.cond_eq_ite, spec_l5Copy_pre, l5Copy_eq, spec_NetTake_pre, spec_NetDrop_pre, laws_toFlightS_pre, laws_toNet_pre, toNet_eq, impl_in, impl_in_T, slices_Clone_Flight_pre, Clone_Flight_eq, impl_Net_own_pre, impl_Net_refused_pre, impl_NetDrop_pre]
      repeat' (first | exact trivial | apply And.intro | intro _)
      all_goals first | omega | (simp_all; done) | (simp_all; omega)
    case pres =>
      intro s' hs
      simp only [laws_eqFlightS_l4_body, T.val, Bool.cond_eq_ite] at hs
      repeat' split at hs
      all_goals first | (cases hs; done) | (cases hs; exact hi) | (cases hs; refine ⟨?_, hi.2⟩; have hi := hi.1; simp only [bne_eq_false_iff_eq, beq_iff_eq, decide_eq_false_iff_not, decide_eq_true_eq, Bool.and_eq_true, Bool.or_eq_false_iff, Bool.not_eq_eq_eq_not, Bool.not_true, Bool.not_false, beq_eq_false_iff_ne, bne_iff_ne, List.length_replicate, Int.toNat_natCast, List.length_set, List.length_map, List.length_append, List.length_cons, List.length_nil, List.length_take, List.length_drop, Nat.ble_eq] at hi ⊢; omega) | (cases hs; simp only [bne_eq_false_iff_eq, beq_iff_eq, decide_eq_false_iff_not, decide_eq_true_eq, Bool.and_eq_true, Bool.or_eq_false_iff, Bool.not_eq_eq_eq_not, Bool.not_true, Bool.not_false, beq_eq_false_iff_ne, bne_iff_ne, List.length_replicate, Int.toNat_natCast, List.length_set, List.length_map, List.length_append, List.length_cons, List.length_nil, List.length_take, List.length_drop, Nat.ble_eq] at hi ⊢; first | exact hi | (simp_all; done) | omega)
  case hd =>
    intro s hi
    exact T.safe_free (by kernel_rfl)
  case hKb =>
    intro m i s h0 hN hi
    exact fun h => h
  case hKd =>
    intro s hi
    exact fun h => h
def laws_eqFlightS_T (a : List D.Flight) (b : List D.Flight) : T (S (Unit) (Bool)) :=
  .br (((a.length : Int) : Int) != (b.length : Int))
  (.ret (.out (false)))
  (.ret (.on ()))
def laws_eqFlightS (a : List D.Flight) (b : List D.Flight) : Bool := S.res (fun t => laws_eqFlightS_l4 a b t) (laws_eqFlightS_T a b).val
theorem laws_eqFlightS_start (a : List D.Flight) (b : List D.Flight) (k : Nat) (K : Kont) : bodyA V39 (run V39 k 9) 61 k [AV.one (AC.dat .flight a), AV.one (AC.dat .flight b)] [] (clean tab0 false 0 K) =
  (laws_eqFlightS_T a b).run (S.k (fun t => laws_eqFlightS_l4_L k k K (laws_eqFlightS_l4_st a b 0 t)) (laws_eqFlightS_K K)) := by kernel_rfl
theorem laws_eqFlightS_safe (a : List D.Flight) (b : List D.Flight) (ok_a : okL (okD .flight) a) (ok_b : okL (okD .flight) b) : (laws_eqFlightS_T a b).safe := by
  exact T.safe_free (by kernel_rfl)
theorem laws_eqFlightS_true (a : List D.Flight) (b : List D.Flight) (ok_a : okL (okD .flight) a) (ok_b : okL (okD .flight) b) (K : Kont) (h : (laws_eqFlightS_K K) (laws_eqFlightS a b) = true) : bodyA V39 (run V39 ((a.length + 1)) 9) 61 ((a.length + 1)) [AV.one (AC.dat .flight a), AV.one (AC.dat .flight b)] [] (clean tab0 false 0 K) = true := by
  rw [laws_eqFlightS_start]
  refine T.run_true (laws_eqFlightS_safe a b ok_a ok_b) ?_
  have hml := maxLen_eq
  have hmr := maxRows_eq
  have q_a := (ok_a).1
  have q_b := (ok_b).1
  unfold laws_eqFlightS at h
  revert h
  cases hv : (laws_eqFlightS_T a b).val with
  | on t =>
    intro h
    simp only [S.res, S.res2, S.k] at h ⊢
    exact laws_eqFlightS_l4_ok a b _ K _ (by first | omega | (dsimp only; omega)) (by first | omega | (dsimp only; omega)) (by simp only [laws_eqFlightS_T, T.val, Bool.cond_eq_ite] at hv; (repeat' split at hv) <;> first | (cases hv; done) | (cases hv; rfl) | (cases hv; simp_all; done) | (cases hv; simp_all; omega) | (cases hv; simp only [bne_eq_false_iff_eq, beq_iff_eq, decide_eq_false_iff_not, decide_eq_true_eq, Bool.and_eq_true, Bool.or_eq_false_iff, Bool.not_eq_eq_eq_not, Bool.not_true, Bool.not_false, beq_eq_false_iff_ne, bne_iff_ne, List.length_replicate, Int.toNat_natCast, List.length_set, List.length_map, List.length_append, List.length_cons, List.length_nil, List.length_take, List.length_drop, Nat.ble_eq]; omega)) h
  | out r => exact fun h => h
def laws_eqFlightS_go : List AV → List Blk → Kont → Bool
  | [.one (AC.dat .flight a), .one (AC.dat .flight b)], [], K => laws_eqFlightS_K K (laws_eqFlightS a b)
  | _, _, _ => false
noncomputable def V61 : Env := V39.add 61 ⟨fun _ => true, [], laws_eqFlightS_go⟩
theorem V61_ok : EnvOk V61 := by
  refine V39_ok.put hm 61 _ _ laws_eqFlightS_go (fun args B K h oka okb => ?_)
  unfold laws_eqFlightS_go at h
  split at h
  · rename_i a b
    have ok_a : okL (okD .flight) a := oka _ (List.mem_of_getElem? (i := 0) rfl)
    have ok_b : okL (okD .flight) b := oka _ (List.mem_of_getElem? (i := 1) rfl)
    exact ⟨_, 9, false, laws_eqFlightS_true a b ok_a ok_b K h⟩
  · cases h
def laws_eqNet_K (K : Kont) (r : Bool) : Bool := K [AV.one (AC.bool r)] []
def laws_eqNet_T (a : D.Net) (b : D.Net) : T (Bool) :=
  .br ((a.next : Int) != b.next)
  (.ret false)
  (.br (!(laws_eqFlightS a.list b.list))
   (.ret false)
   (.ret true))
def laws_eqNet (a : D.Net) (b : D.Net) : Bool := (laws_eqNet_T a b).val
theorem laws_eqNet_eqn (a : D.Net) (b : D.Net) : laws_eqNet a b =
  bif ((a.next : Int) != b.next) then
  (false)
  else (bif (!(laws_eqFlightS a.list b.list)) then
   (false)
   else (true)) := by kernel_rfl
theorem laws_eqNet_start (a : D.Net) (b : D.Net) (k : Nat) (K : Kont) : bodyA V61 (run V61 k 9) 34 k [AV.agg (D.Net.cs a), AV.agg (D.Net.cs b)] [] (clean tab0 false 0 K) =
  (laws_eqNet_T a b).run (laws_eqNet_K K) := by kernel_rfl
theorem laws_eqNet_safe (a : D.Net) (b : D.Net) (ok_a : D.Net.ok a) (ok_b : D.Net.ok b) : (laws_eqNet_T a b).safe := by
  exact T.safe_free (by kernel_rfl)
theorem laws_eqNet_true (a : D.Net) (b : D.Net) (ok_a : D.Net.ok a) (ok_b : D.Net.ok b) (K : Kont) (h : (laws_eqNet_K K) (laws_eqNet a b) = true) : bodyA V61 (run V61 (0) 9) 34 (0) [AV.agg (D.Net.cs a), AV.agg (D.Net.cs b)] [] (clean tab0 false 0 K) = true := by
  rw [laws_eqNet_start]
  refine T.run_true (laws_eqNet_safe a b ok_a ok_b) ?_
  exact h
def laws_eqNet_go : List AV → List Blk → Kont → Bool
  | [.agg a_, .agg b_], [], K => (match D.Net.dec a_ with | some a => (match D.Net.dec b_ with | some b => laws_eqNet_K K (laws_eqNet a b) | none => false) | none => false)
  | _, _, _ => false
noncomputable def V34 : Env := V61.add 34 ⟨fun _ => true, [], laws_eqNet_go⟩
theorem V34_ok : EnvOk V34 := by
  refine V61_ok.put hm 34 _ _ laws_eqNet_go (fun args B K h oka okb => ?_)
  unfold laws_eqNet_go at h
  split at h
  · rename_i a_ b_
    split at h
    rotate_left
    · cases h
    rename_i a dec_a
    have dec_a := D.Net.dec_ok dec_a
    subst dec_a
    split at h
    rotate_left
    · cases h
    rename_i b dec_b
    have dec_b := D.Net.dec_ok dec_b
    subst dec_b
    have ok_a : D.Net.ok a := D.Net.okOf (oka _ (List.mem_of_getElem? (i := 0) rfl))
    have ok_b : D.Net.ok b := D.Net.okOf (oka _ (List.mem_of_getElem? (i := 1) rfl))
    exact ⟨_, 9, false, laws_eqNet_true a b ok_a ok_b K h⟩
  · cases h
def laws_markText_K (K : Kont) (r : (List UInt8)) : Bool := K [AV.one (AC.str r)] []
noncomputable def laws_markText_l4_L (k m : Nat) (K : Kont) (st : St) : Bool := iter tab0 0 (exC V34 (run V34 k 9) 0 79 k (fstC (fstC (fstC (sndC (sndC (sndC (bodyC V34.P 79)))))))) [0, 3] m st (kBlk 0 (kSeq (exC V34 (run V34 k 9) 0 79 k (sndC (sndC (sndC (sndC (bodyC V34.P 79)))))) (kBody V34.P (resC V34.P 79) (clean tab0 false 0 K))))
def laws_markText_l4_st (s : Int × (List UInt8)) : St := ⟨[(0, AV.one (AC.int .i64 (s.1))), (3, AV.one (AC.str (s.2)))], []⟩
def laws_markText_l4_body (s : Int × (List UInt8)) : T (S (Int × (List UInt8)) ((List UInt8))) :=
  .br (decide ((0 : Int) < s.1))
  (.grd (decide (((([toU8 (IntKind.wrap .u8 (w64 (48 + (Int.tmod (s.1) 10))))] : List UInt8).length + (s.2).length : Nat) : Int) ≤ 9223372036854775807)) (.ret (.on ((w64 (Int.tdiv (s.1) 10)), (([toU8 (IntKind.wrap .u8 (w64 (48 + (Int.tmod (s.1) 10))))] : List UInt8) ++ s.2)))))
  (.grd (decide (((1 + (s.2).length : Nat) : Int) ≤ 9223372036854775807)) (.ret (.out (([109] ++ s.2)))))
theorem laws_markText_l4_step (k m : Nat) (K : Kont) (s : Int × (List UInt8)) : laws_markText_l4_L k (m + 1) K (laws_markText_l4_st s) =
  (laws_markText_l4_body s).run (S.k (fun s' => laws_markText_l4_L k m K (laws_markText_l4_st s')) (laws_markText_K K)) := by kernel_rfl
def laws_markText_l4 (s : Int × (List UInt8)) : (List UInt8) := loopN (fun s => (laws_markText_l4_body s).val) [] ((fun s => Int.toNat s.1) s + 1) s
theorem laws_markText_l4_ok (k : Nat) (K : Kont) (s : Int × (List UInt8)) (hk : (fun s => Int.toNat s.1) s < k) (hi : (fun s => 0 ≤ s.1 ∧ s.1 ≤ 9223372036854775807 ∧ (s.2 = [] ∨ s.1 + (s.2.length : Int) ≤ 4611686018427387904)) s) (h : (laws_markText_K K) (laws_markText_l4 s) = true) : laws_markText_l4_L k k K (laws_markText_l4_st s) = true := by
  have hml := maxLen_eq
  have hmr := maxRows_eq
  refine loopN_ok (L := fun m s => laws_markText_l4_L k m K (laws_markText_l4_st s)) (body := laws_markText_l4_body) (fb := (fun s c => c)) (Kb := fun m => S.k (fun s' => laws_markText_l4_L k m K (laws_markText_l4_st s')) (laws_markText_K K)) (d := []) (K := (laws_markText_K K)) (fun m s => laws_markText_l4_step k m K s) (fun s => 0 ≤ s.1 ∧ s.1 ≤ 9223372036854775807 ∧ (s.2 = [] ∨ s.1 + (s.2.length : Int) ≤ 4611686018427387904)) (fun s => Int.toNat s.1) ?hb ?hKb ((fun s => Int.toNat s.1) s + 1) k s (Nat.lt_succ_self _) hk hi h
  case hb =>
    intro s hi
    obtain ⟨h0, h1, h2⟩ := hi
    have hd : Int.tdiv s.1 10 = s.1 / 10 := Int.tdiv_eq_ediv_of_nonneg h0
    have hw : w64 (Int.tdiv s.1 10) = s.1 / 10 := by rw [hd]; exact w64_id (by omega) (by omega)
    have hl : (s.2.length : Int) ≤ 4611686018427387904 := by
      rcases h2 with h2 | h2
      · rw [h2]; simp
      · omega
    simp only [laws_markText_l4_body, T.safe, T.val, decide_eq_true_eq, decide_eq_false_iff_not, hw]
    refine ⟨⟨fun h => ⟨by simp; omega, trivial⟩, fun h => ⟨by omega, trivial⟩⟩, fun s' hs => ?_⟩
    by_cases hp : (0 : Int) < s.1
    · rw [show decide ((0 : Int) < s.1) = true by simpa using hp] at hs
      cases hs
      simp only [List.length_append, List.length_cons, List.length_nil]
      refine ⟨⟨by omega, by omega, .inr ?_⟩, by omega⟩
      rcases h2 with h2 | h2
      · rw [h2]; simp; omega
      · omega
    · rw [show decide ((0 : Int) < s.1) = false by simpa using hp] at hs
      cases hs
  case hKb =>
    intro m s hi
    exact fun h => h
def laws_markText_T (a : Int) : T (S (Int × (List UInt8)) ((List UInt8))) :=
  .br (decide ((a : Int) ≤ 0))
  (.ret (.out (([109, 48] : List UInt8))))
  (.ret (.on (a, [])))
def laws_markText (a : Int) : (List UInt8) := S.res (fun t => laws_markText_l4 t) (laws_markText_T a).val
theorem laws_markText_start (a : Int) (k : Nat) (K : Kont) : bodyA V34 (run V34 k 9) 79 k [AV.one (AC.int .i64 a)] [] (clean tab0 false 0 K) =
  (laws_markText_T a).run (S.k (fun t => laws_markText_l4_L k k K (laws_markText_l4_st t)) (laws_markText_K K)) := by kernel_rfl
theorem laws_markText_safe (a : Int) (ok_a : i64 a) : (laws_markText_T a).safe := by
  exact T.safe_free (by kernel_rfl)
theorem laws_markText_true (a : Int) (ok_a : i64 a) (K : Kont) (h : (laws_markText_K K) (laws_markText a) = true) : bodyA V34 (run V34 ((Int.toNat a + 1)) 9) 79 ((Int.toNat a + 1)) [AV.one (AC.int .i64 a)] [] (clean tab0 false 0 K) = true := by
  rw [laws_markText_start]
  refine T.run_true (laws_markText_safe a ok_a) ?_
  have ha := ok_a
  unfold i64 at ha
  unfold laws_markText at h
  revert h
  by_cases h0 : a ≤ 0
  · simp only [laws_markText_T, T.val, show decide (a ≤ 0) = true by simpa using h0]
    exact fun h => h
  · simp only [laws_markText_T, T.val, show decide (a ≤ 0) = false by simpa using h0]
    intro h
    exact laws_markText_l4_ok _ K (a, []) (Nat.lt_succ_self _) ⟨by omega, by omega, .inl rfl⟩ h
def laws_markText_go : List AV → List Blk → Kont → Bool
  | [.one (AC.int .i64 a)], [], K => laws_markText_K K (laws_markText a)
  | _, _, _ => false
noncomputable def V79 : Env := V34.add 79 ⟨fun _ => true, [], laws_markText_go⟩
theorem V79_ok : EnvOk V79 := by
  refine V34_ok.put hm 79 _ _ laws_markText_go (fun args B K h oka okb => ?_)
  unfold laws_markText_go at h
  split at h
  · rename_i a
    have ok_a : i64 a := by have := oka _ (List.mem_of_getElem? (i := 0) rfl); exact wf_i64.1 this
    exact ⟨_, 9, false, laws_markText_true a ok_a K h⟩
  · cases h
def laws_markFlightS_K (K : Kont) (r : Int × (List D.Flight)) : Bool := K [AV.one (AC.int .i64 r.1)] [Blk.rows 52 .flight r.2]
noncomputable def laws_markFlightS_l2_L (k m : Nat) (K : Kont) (st : St) : Bool := iter tab0 1 (exC V79 (run V79 k 9) 1 62 k (fstC (fstC (sndC (fstC (sndC (bodyC V79.P 62))))))) [0, 1, 5] m st (kBlk 0 (kSeq (exC V79 (run V79 k 9) 1 62 k (sndC (sndC (bodyC V79.P 62)))) (kBody V79.P (resC V79.P 62) (clean tab0 false 1 K))))
def laws_markFlightS_l2_st (i : Int) (s : Int × (List D.Flight)) : St := ⟨[(0, AV.one (AC.own 0)), (1, AV.one (AC.int .i64 (s.1))), (5, AV.one (AC.int .i64 (i)))], [Blk.rows 52 .flight (s.2)]⟩
def laws_markFlightS_l2_body (i : Int) (s : Int × (List D.Flight)) : T (S (Int × (List D.Flight)) (Int × (List D.Flight))) :=
  .grd (decide (0 ≤ i) && decide (i < ((s.2).length : Int))) (let r7 : List D.Flight := ((s.2).set (Int.toNat (i)) (⟨s.1, (elem .flight (s.2) (Int.toNat (i))).frm, (elem .flight (s.2) (Int.toNat (i))).to, (elem .flight (s.2) (Int.toNat (i))).bytes, (elem .flight (s.2) (Int.toNat (i))).at_⟩ : D.Flight))
  .grd (decide (0 ≤ i) && decide (i < (r7.length : Int))) (let r8 : List D.Flight := (r7.set (Int.toNat (i)) (⟨(elem .flight r7 (Int.toNat (i))).id, (w64 (s.1 + 1)), (elem .flight r7 (Int.toNat (i))).to, (elem .flight r7 (Int.toNat (i))).bytes, (elem .flight r7 (Int.toNat (i))).at_⟩ : D.Flight))
  .grd (decide (0 ≤ i) && decide (i < (r8.length : Int))) (let r9 : List D.Flight := (r8.set (Int.toNat (i)) (⟨(elem .flight r8 (Int.toNat (i))).id, (elem .flight r8 (Int.toNat (i))).frm, (w64 ((w64 (s.1 + 1)) + 1)), (elem .flight r8 (Int.toNat (i))).bytes, (elem .flight r8 (Int.toNat (i))).at_⟩ : D.Flight))
  let r10 : (List UInt8) := laws_markText (w64 ((w64 ((w64 (s.1 + 1)) + 1)) + 1))
  .grd (decide (0 ≤ i) && decide (i < (r9.length : Int))) (let r11 : List D.Flight := (r9.set (Int.toNat (i)) (⟨(elem .flight r9 (Int.toNat (i))).id, (elem .flight r9 (Int.toNat (i))).frm, (elem .flight r9 (Int.toNat (i))).to, r10, (elem .flight r9 (Int.toNat (i))).at_⟩ : D.Flight))
  .grd (decide (0 ≤ i) && decide (i < (r11.length : Int))) (let r12 : List D.Flight := (r11.set (Int.toNat (i)) (⟨(elem .flight r11 (Int.toNat (i))).id, (elem .flight r11 (Int.toNat (i))).frm, (elem .flight r11 (Int.toNat (i))).to, (elem .flight r11 (Int.toNat (i))).bytes, (w64 ((w64 ((w64 ((w64 (s.1 + 1)) + 1)) + 1)) + 1))⟩ : D.Flight))
  .ret (.on ((w64 ((w64 ((w64 ((w64 ((w64 (s.1 + 1)) + 1)) + 1)) + 1)) + 1)), r12)))))))
def laws_markFlightS_l2_done (s : Int × (List D.Flight)) : T (Int × (List D.Flight)) :=
  .ret (s.1, s.2)
theorem laws_markFlightS_l2_step (k m : Nat) (K : Kont) (i : Int) (s : Int × (List D.Flight)) : laws_markFlightS_l2_L k (m + 1) K (laws_markFlightS_l2_st i s) =
  br (decide (i < ((s.2).length : Int))) ((laws_markFlightS_l2_body i s).run (S.k (fun s' => laws_markFlightS_l2_L k m K (laws_markFlightS_l2_st (w64 (i + 1)) s')) (laws_markFlightS_K K))) ((laws_markFlightS_l2_done s).run (laws_markFlightS_K K)) := by kernel_rfl
def laws_markFlightS_l2 (s : Int × (List D.Flight)) : Int × (List D.Flight) := forN (fun i s => (laws_markFlightS_l2_body i s).val) (fun s => (laws_markFlightS_l2_done s).val) (Int.toNat (((s.2).length : Int) - 0)) 0 s
theorem laws_markFlightS_l2_ok (k : Nat) (K : Kont) (s : Int × (List D.Flight)) (hl : ((s.2).length : Int) ≤ 9223372036854775807) (hk : Int.toNat (((s.2).length : Int) - 0) < k) (hi : (fun i s' => s'.2.length = s.2.length) 0 s) (h : (laws_markFlightS_K K) (laws_markFlightS_l2 s) = true) : laws_markFlightS_l2_L k k K (laws_markFlightS_l2_st 0 s) = true := by
  have hml := maxLen_eq
  have hmr := maxRows_eq
  refine forN_ok (L := fun m i s => laws_markFlightS_l2_L k m K (laws_markFlightS_l2_st i s)) (N := ((s.2).length : Int)) (body := laws_markFlightS_l2_body) (done := laws_markFlightS_l2_done) (fb := (fun i s c => c)) (fd := fun c => c) (Kb := fun m i => S.k (fun s' => laws_markFlightS_l2_L k m K (laws_markFlightS_l2_st (w64 (i + 1)) s')) (laws_markFlightS_K K)) (Kd := (laws_markFlightS_K K)) (K := (laws_markFlightS_K K)) (fun i s' => s'.2.length = s.2.length) (fun m i s' hi => by rw [laws_markFlightS_l2_step k m K i s', show decide (i < ((s'.2).length : Int)) = decide (i < ((s.2).length : Int)) by first | rw [hi] | rw [hi.1]]) hl ?hb ?hd ?hKb ?hKd _ k 0 s (by omega) rfl hk hi h
  case hb =>
    intro i s h0 hN hi
    refine ⟨?safe, ?pres⟩
    case safe =>
      try simp only [bne_eq_false_iff_eq, beq_iff_eq, decide_eq_false_iff_not, decide_eq_true_eq, Bool.and_eq_true, Bool.or_eq_false_iff, Bool.not_eq_eq_eq_not, Bool.not_true, Bool.not_false, beq_eq_false_iff_ne, bne_iff_ne, List.length_replicate, Int.toNat_natCast, List.length_set, List.length_map, List.length_append, List.length_cons, List.length_nil, List.length_take, List.length_drop, Nat.ble_eq] at hi
      simp only [laws_markFlightS_l2_body, T.safe, and_true, true_and, implies_true, bne_eq_false_iff_eq, beq_iff_eq, decide_eq_false_iff_not, decide_eq_true_eq, Bool.and_eq_true, Bool.or_eq_false_iff, Bool.not_eq_eq_eq_not, Bool.not_true, Bool.not_false, beq_eq_false_iff_ne, bne_iff_ne, List.length_replicate, Int.toNat_natCast, List.length_set, List.length_map, List.length_append, List.length_cons, List.length_nil, List.length_take, List.length_drop, Nat.ble_eq, spec_l1In, spec_l1In_T, T.val, Bool.cond_eq_ite, spec_l5Copy_pre, l5Copy_eq, spec_NetTake_pre, spec_NetDrop_pre, laws_toFlightS_pre, laws_toNet_pre, toNet_eq, impl_in, impl_in_T, slices_Clone_Flight_pre, Clone_Flight_eq, impl_Net_own_pre, impl_Net_refused_pre, impl_NetDrop_pre]
      repeat' (first | exact trivial | apply And.intro | intro _)
      all_goals first | omega | (simp_all; done) | (simp_all; omega)
    case pres =>
      intro s' hs
      simp only [laws_markFlightS_l2_body, T.val, Bool.cond_eq_ite] at hs
      repeat' split at hs
      all_goals first | (cases hs; done) | (cases hs; exact hi) | (cases hs; refine ⟨?_, hi.2⟩; have hi := hi.1; simp only [bne_eq_false_iff_eq, beq_iff_eq, decide_eq_false_iff_not, decide_eq_true_eq, Bool.and_eq_true, Bool.or_eq_false_iff, Bool.not_eq_eq_eq_not, Bool.not_true, Bool.not_false, beq_eq_false_iff_ne, bne_iff_ne, List.length_replicate, Int.toNat_natCast, List.length_set, List.length_map, List.length_append, List.length_cons, List.length_nil, List.length_take, List.length_drop, Nat.ble_eq] at hi ⊢; omega) | (cases hs; simp only [bne_eq_false_iff_eq, beq_iff_eq, decide_eq_false_iff_not, decide_eq_true_eq, Bool.and_eq_true, Bool.or_eq_false_iff, Bool.not_eq_eq_eq_not, Bool.not_true, Bool.not_false, beq_eq_false_iff_ne, bne_iff_ne, List.length_replicate, Int.toNat_natCast, List.length_set, List.length_map, List.length_append, List.length_cons, List.length_nil, List.length_take, List.length_drop, Nat.ble_eq] at hi ⊢; first | exact hi | (simp_all; done) | omega)
  case hd =>
    intro s i h0 hN hi
    exact T.safe_free (by kernel_rfl)
  case hKb =>
    intro m i s h0 hN hi
    exact fun h => h
  case hKd =>
    intro s i h0 hN hi
    exact fun h => h
def laws_markFlightS_T (a : List D.Flight) (b : Int) : T (S (Int × (List D.Flight)) (Int × (List D.Flight))) :=
  .ret (.on (b, a))
def laws_markFlightS (a : List D.Flight) (b : Int) : Int × (List D.Flight) := S.res (fun t => laws_markFlightS_l2 t) (laws_markFlightS_T a b).val
theorem laws_markFlightS_start (a : List D.Flight) (b : Int) (k : Nat) (K : Kont) : bodyA V79 (run V79 k 9) 62 k [AV.one (AC.own 0), AV.one (AC.int .i64 b)] [Blk.rows 52 .flight a] (clean tab0 false 1 K) =
  (laws_markFlightS_T a b).run (S.k (fun t => laws_markFlightS_l2_L k k K (laws_markFlightS_l2_st 0 t)) (laws_markFlightS_K K)) := by kernel_rfl
theorem laws_markFlightS_safe (a : List D.Flight) (b : Int) (ok_a : okL (okD .flight) a) (ok_b : i64 b) : (laws_markFlightS_T a b).safe := by
  exact T.safe_free (by kernel_rfl)
theorem laws_markFlightS_true (a : List D.Flight) (b : Int) (ok_a : okL (okD .flight) a) (ok_b : i64 b) (K : Kont) (h : (laws_markFlightS_K K) (laws_markFlightS a b) = true) : bodyA V79 (run V79 ((Int.toNat ((a.length : Int) - 0) + 1)) 9) 62 ((Int.toNat ((a.length : Int) - 0) + 1)) [AV.one (AC.own 0), AV.one (AC.int .i64 b)] [Blk.rows 52 .flight a] (clean tab0 false 1 K) = true := by
  rw [laws_markFlightS_start]
  refine T.run_true (laws_markFlightS_safe a b ok_a ok_b) ?_
  have hml := maxLen_eq
  have hmr := maxRows_eq
  have q_a := (ok_a).1
  unfold laws_markFlightS at h
  revert h
  cases hv : (laws_markFlightS_T a b).val with
  | on t =>
    intro h
    simp only [S.res, S.res2, S.k] at h ⊢
    simp only [laws_markFlightS_T, T.val, Bool.cond_eq_ite] at hv
    cases hv
    exact laws_markFlightS_l2_ok _ K _ (by first | omega | (dsimp only; omega)) (by first | omega | (dsimp only; omega)) rfl h
  | out r => exact fun h => h
def laws_markFlightS_go : List AV → List Blk → Kont → Bool
  | [AV.one (AC.own 0), .one (AC.int .i64 b)], [Blk.rows 52 .flight a], K => laws_markFlightS_K K (laws_markFlightS a b)
  | _, _, _ => false
noncomputable def V62 : Env := V79.add 62 ⟨fun _ => true, [true], laws_markFlightS_go⟩
theorem V62_ok : EnvOk V62 := by
  refine V79_ok.put hm 62 _ _ laws_markFlightS_go (fun args B K h oka okb => ?_)
  unfold laws_markFlightS_go at h
  split at h
  · rename_i b a
    have ok_a : okL (okD .flight) a := okb _ (List.mem_of_getElem? (i := 0) rfl)
    have ok_b : i64 b := by have := oka _ (List.mem_of_getElem? (i := 1) rfl); exact wf_i64.1 this
    exact ⟨_, 9, false, laws_markFlightS_true a b ok_a ok_b K h⟩
  · cases h
def laws_markNet_K (K : Kont) (r : Int × (List D.Flight)) : Bool := K [AV.one (AC.int .i64 r.1)] [Blk.rows 52 .flight r.2]
def laws_markNet_T (a : D.Net) (b : Int) : T (Int × (List D.Flight)) :=
  let r1 : Int × (List D.Flight) := laws_markFlightS a.list b
  .ret (r1.1, r1.2)
def laws_markNet (a : D.Net) (b : Int) : Int × (List D.Flight) := (laws_markNet_T a b).val
theorem laws_markNet_eqn (a : D.Net) (b : Int) : laws_markNet a b =
  let r1 : Int × (List D.Flight) := laws_markFlightS a.list b
  (r1.1, r1.2) := by kernel_rfl
theorem laws_markNet_start (a : D.Net) (b : Int) (k : Nat) (K : Kont) : bodyA V62 (run V62 k 9) 35 k [AV.agg [AC.int .i64 a.next, AC.own 0], AV.one (AC.int .i64 b)] [Blk.rows 52 .flight a.list] (clean tab0 false 1 K) =
  (laws_markNet_T a b).run (laws_markNet_K K) := by kernel_rfl
theorem laws_markNet_safe (a : D.Net) (b : Int) (ok_a : D.Net.ok a) (ok_b : i64 b) : (laws_markNet_T a b).safe := by
  exact T.safe_free (by kernel_rfl)
theorem laws_markNet_true (a : D.Net) (b : Int) (ok_a : D.Net.ok a) (ok_b : i64 b) (K : Kont) (h : (laws_markNet_K K) (laws_markNet a b) = true) : bodyA V62 (run V62 (0) 9) 35 (0) [AV.agg [AC.int .i64 a.next, AC.own 0], AV.one (AC.int .i64 b)] [Blk.rows 52 .flight a.list] (clean tab0 false 1 K) = true := by
  rw [laws_markNet_start]
  refine T.run_true (laws_markNet_safe a b ok_a ok_b) ?_
  exact h
def laws_markNet_go : List AV → List Blk → Kont → Bool
  | [AV.agg [AC.int .i64 a_next, AC.own 0], .one (AC.int .i64 b)], [Blk.rows 52 .flight a_list], K => laws_markNet_K K (laws_markNet (⟨a_next, a_list⟩ : D.Net) b)
  | _, _, _ => false
noncomputable def V35 : Env := V62.add 35 ⟨fun _ => true, [true], laws_markNet_go⟩
theorem V35_ok : EnvOk V35 := by
  refine V62_ok.put hm 35 _ _ laws_markNet_go (fun args B K h oka okb => ?_)
  unfold laws_markNet_go at h
  split at h
  · rename_i a_next b a_list
    have ok_a : D.Net.ok (⟨a_next, a_list⟩ : D.Net) := ⟨wf_i64.1 ((oka _ (List.mem_of_getElem? (i := 0) rfl)) _ (List.mem_of_getElem? (i := 0) rfl)), okb _ (List.mem_of_getElem? (i := 0) rfl)⟩
    have ok_b : i64 b := by have := oka _ (List.mem_of_getElem? (i := 1) rfl); exact wf_i64.1 this
    exact ⟨_, 9, false, laws_markNet_true (⟨a_next, a_list⟩ : D.Net) b ok_a ok_b K h⟩
  · cases h
def laws_heldFlightS_K (K : Kont) (r : Int) : Bool := K [AV.one (AC.int .i64 r)] []
noncomputable def laws_heldFlightS_l2_L (k m : Nat) (K : Kont) (st : St) : Bool := iter tab0 0 (exC V35 (run V35 k 9) 0 63 k (fstC (fstC (sndC (fstC (sndC (bodyC V35.P 63))))))) [0, 1, 5] m st (kBlk 0 (kSeq (exC V35 (run V35 k 9) 0 63 k (sndC (sndC (bodyC V35.P 63)))) (kBody V35.P (resC V35.P 63) (clean tab0 false 0 K))))
def laws_heldFlightS_l2_st (a : List D.Flight) (i : Int) (s : Int) : St := ⟨[(0, AV.one (AC.dat .flight a)), (1, AV.one (AC.int .i64 (s))), (5, AV.one (AC.int .i64 (i)))], []⟩
def laws_heldFlightS_l2_body (a : List D.Flight) (i : Int) (x : D.Flight) (s : Int) : T (S (Int) (Int)) :=
  .grd (decide (0 ≤ i) && decide (i < (a.length : Int))) (.br ((x.id : Int) != s)
  (.ret (.out ((-1))))
  (.grd (decide (0 ≤ i) && decide (i < (a.length : Int))) (.br ((x.frm : Int) != (w64 (s + 1)))
   (.ret (.out ((-1))))
   (.grd (decide (0 ≤ i) && decide (i < (a.length : Int))) (.br ((x.to : Int) != (w64 ((w64 (s + 1)) + 1)))
    (.ret (.out ((-1))))
    (.grd (decide (0 ≤ i) && decide (i < (a.length : Int))) (.both (let r3 : (List UInt8) := laws_markText (w64 ((w64 ((w64 (s + 1)) + 1)) + 1))
      .br (!(x.bytes == r3))
      (.ret (.out ((-1))))
      (.grd (decide (0 ≤ i) && decide (i < (a.length : Int))) (.br ((x.at_ : Int) != (w64 ((w64 ((w64 ((w64 (s + 1)) + 1)) + 1)) + 1)))
       (.ret (.out ((-1))))
       (.ret (.on (w64 ((w64 ((w64 ((w64 ((w64 (s + 1)) + 1)) + 1)) + 1)) + 1)))))))
     (let r4 : (List UInt8) := laws_markText (w64 ((w64 ((w64 (s + 1)) + 1)) + 1))
      .br (!(x.bytes == r4))
      (.ret (.out ((-1))))
      (.grd (decide (0 ≤ i) && decide (i < (a.length : Int))) (.br ((x.at_ : Int) != (w64 ((w64 ((w64 ((w64 (s + 1)) + 1)) + 1)) + 1)))
       (.ret (.out ((-1))))
       (.ret (.on (w64 ((w64 ((w64 ((w64 ((w64 (s + 1)) + 1)) + 1)) + 1)) + 1))))))))))))))
def laws_heldFlightS_l2_done (a : List D.Flight) (s : Int) : T (Int) :=
  .ret s
theorem laws_heldFlightS_l2_step (a : List D.Flight) (k m : Nat) (K : Kont) (i : Int) (s : Int) : laws_heldFlightS_l2_L k (m + 1) K (laws_heldFlightS_l2_st a i s) =
  br (decide (i < (a.length : Int))) ((laws_heldFlightS_l2_body a i (elem .flight a (Int.toNat i)) s).run (S.k (fun s' => laws_heldFlightS_l2_L k m K (laws_heldFlightS_l2_st a (w64 (i + 1)) s')) (laws_heldFlightS_K K))) ((laws_heldFlightS_l2_done a s).run (laws_heldFlightS_K K)) := by kernel_rfl
def laws_heldFlightS_l2 (a : List D.Flight) (s : Int) : Int := forL (fun i x s => (laws_heldFlightS_l2_body a i x s).val) (fun s => (laws_heldFlightS_l2_done a s).val) a 0 s
theorem laws_heldFlightS_l2_ok (a : List D.Flight) (k : Nat) (K : Kont) (s : Int) (hl : a.length ≤ maxLen) (hk : a.length < k) (hi : (fun i s => True) 0 s) (h : (laws_heldFlightS_K K) (laws_heldFlightS_l2 a s) = true) : laws_heldFlightS_l2_L k k K (laws_heldFlightS_l2_st a 0 s) = true := by
  have hml := maxLen_eq
  have hmr := maxRows_eq
  refine forL_ok (L := fun m i s => laws_heldFlightS_l2_L k m K (laws_heldFlightS_l2_st a i s)) (l := a) (dv := dflt .flight) (body := laws_heldFlightS_l2_body a) (done := laws_heldFlightS_l2_done a) (fb := (fun i x s c => c)) (fd := fun c => c) (Kb := fun m i => S.k (fun s' => laws_heldFlightS_l2_L k m K (laws_heldFlightS_l2_st a (w64 (i + 1)) s')) (laws_heldFlightS_K K)) (Kd := (laws_heldFlightS_K K)) (K := (laws_heldFlightS_K K)) (fun m i s => laws_heldFlightS_l2_step a k m K i s) (fun i s => True) hl ?hb ?hd ?hKb ?hKd _ k 0 s (by omega) rfl (by omega) (by simp; omega) hi h
  case hb =>
    intro i s h0 hN hi
    refine ⟨?safe, fun _ _ => trivial⟩
    case safe =>
      simp only [laws_heldFlightS_l2_body, T.safe, and_true, true_and, implies_true, bne_eq_false_iff_eq, beq_iff_eq, decide_eq_false_iff_not, decide_eq_true_eq, Bool.and_eq_true, Bool.or_eq_false_iff, Bool.not_eq_eq_eq_not, Bool.not_true, Bool.not_false, beq_eq_false_iff_ne, bne_iff_ne, List.length_replicate, Int.toNat_natCast, List.length_set, List.length_map, List.length_append, List.length_cons, List.length_nil, List.length_take, List.length_drop, Nat.ble_eq, spec_l1In, spec_l1In_T, T.val, Bool.cond_eq_ite, spec_l5Copy_pre, l5Copy_eq, spec_NetTake_pre, spec_NetDrop_pre, laws_toFlightS_pre, laws_toNet_pre, toNet_eq, impl_in, impl_in_T, slices_Clone_Flight_pre, Clone_Flight_eq, impl_Net_own_pre, impl_Net_refused_pre, impl_NetDrop_pre]
      repeat' (first | exact trivial | apply And.intro | intro _)
      all_goals first | omega | (simp_all; done) | (simp_all; omega)
  case hd =>
    intro s hi
    exact T.safe_free (by kernel_rfl)
  case hKb =>
    intro m i s h0 hN hi
    exact fun h => h
  case hKd =>
    intro s hi
    exact fun h => h
def laws_heldFlightS_T (a : List D.Flight) (b : Int) : T (S (Int) (Int)) :=
  .ret (.on b)
def laws_heldFlightS (a : List D.Flight) (b : Int) : Int := S.res (fun t => laws_heldFlightS_l2 a t) (laws_heldFlightS_T a b).val
theorem laws_heldFlightS_start (a : List D.Flight) (b : Int) (k : Nat) (K : Kont) : bodyA V35 (run V35 k 9) 63 k [AV.one (AC.dat .flight a), AV.one (AC.int .i64 b)] [] (clean tab0 false 0 K) =
  (laws_heldFlightS_T a b).run (S.k (fun t => laws_heldFlightS_l2_L k k K (laws_heldFlightS_l2_st a 0 t)) (laws_heldFlightS_K K)) := by kernel_rfl
theorem laws_heldFlightS_safe (a : List D.Flight) (b : Int) (ok_a : okL (okD .flight) a) (ok_b : i64 b) : (laws_heldFlightS_T a b).safe := by
  exact T.safe_free (by kernel_rfl)
theorem laws_heldFlightS_true (a : List D.Flight) (b : Int) (ok_a : okL (okD .flight) a) (ok_b : i64 b) (K : Kont) (h : (laws_heldFlightS_K K) (laws_heldFlightS a b) = true) : bodyA V35 (run V35 ((a.length + 1)) 9) 63 ((a.length + 1)) [AV.one (AC.dat .flight a), AV.one (AC.int .i64 b)] [] (clean tab0 false 0 K) = true := by
  rw [laws_heldFlightS_start]
  refine T.run_true (laws_heldFlightS_safe a b ok_a ok_b) ?_
  have hml := maxLen_eq
  have hmr := maxRows_eq
  have q_a := (ok_a).1
  unfold laws_heldFlightS at h
  revert h
  cases hv : (laws_heldFlightS_T a b).val with
  | on t =>
    intro h
    simp only [S.res, S.res2, S.k] at h ⊢
    exact laws_heldFlightS_l2_ok a _ K _ (by first | omega | (dsimp only; omega)) (by first | omega | (dsimp only; omega)) trivial h
  | out r => exact fun h => h
def laws_heldFlightS_go : List AV → List Blk → Kont → Bool
  | [.one (AC.dat .flight a), .one (AC.int .i64 b)], [], K => laws_heldFlightS_K K (laws_heldFlightS a b)
  | _, _, _ => false
noncomputable def V63 : Env := V35.add 63 ⟨fun _ => true, [], laws_heldFlightS_go⟩
theorem V63_ok : EnvOk V63 := by
  refine V35_ok.put hm 63 _ _ laws_heldFlightS_go (fun args B K h oka okb => ?_)
  unfold laws_heldFlightS_go at h
  split at h
  · rename_i a b
    have ok_a : okL (okD .flight) a := oka _ (List.mem_of_getElem? (i := 0) rfl)
    have ok_b : i64 b := by have := oka _ (List.mem_of_getElem? (i := 1) rfl); exact wf_i64.1 this
    exact ⟨_, 9, false, laws_heldFlightS_true a b ok_a ok_b K h⟩
  · cases h
def laws_heldNet_K (K : Kont) (r : Int) : Bool := K [AV.one (AC.int .i64 r)] []
def laws_heldNet_T (a : D.Net) (b : Int) : T (Int) :=
  .br (decide (((laws_heldFlightS a.list b) : Int) < 0))
  (.ret (-1))
  (.ret (laws_heldFlightS a.list b))
def laws_heldNet (a : D.Net) (b : Int) : Int := (laws_heldNet_T a b).val
theorem laws_heldNet_eqn (a : D.Net) (b : Int) : laws_heldNet a b =
  bif (decide (((laws_heldFlightS a.list b) : Int) < 0)) then
  ((-1))
  else ((laws_heldFlightS a.list b)) := by kernel_rfl
theorem laws_heldNet_start (a : D.Net) (b : Int) (k : Nat) (K : Kont) : bodyA V63 (run V63 k 9) 36 k [AV.agg (D.Net.cs a), AV.one (AC.int .i64 b)] [] (clean tab0 false 0 K) =
  (laws_heldNet_T a b).run (laws_heldNet_K K) := by kernel_rfl
theorem laws_heldNet_safe (a : D.Net) (b : Int) (ok_a : D.Net.ok a) (ok_b : i64 b) : (laws_heldNet_T a b).safe := by
  exact T.safe_free (by kernel_rfl)
theorem laws_heldNet_true (a : D.Net) (b : Int) (ok_a : D.Net.ok a) (ok_b : i64 b) (K : Kont) (h : (laws_heldNet_K K) (laws_heldNet a b) = true) : bodyA V63 (run V63 (0) 9) 36 (0) [AV.agg (D.Net.cs a), AV.one (AC.int .i64 b)] [] (clean tab0 false 0 K) = true := by
  rw [laws_heldNet_start]
  refine T.run_true (laws_heldNet_safe a b ok_a ok_b) ?_
  exact h
def laws_heldNet_go : List AV → List Blk → Kont → Bool
  | [.agg a_, .one (AC.int .i64 b)], [], K => (match D.Net.dec a_ with | some a => laws_heldNet_K K (laws_heldNet a b) | none => false)
  | _, _, _ => false
noncomputable def V36 : Env := V63.add 36 ⟨fun _ => true, [], laws_heldNet_go⟩
theorem V36_ok : EnvOk V36 := by
  refine V63_ok.put hm 36 _ _ laws_heldNet_go (fun args B K h oka okb => ?_)
  unfold laws_heldNet_go at h
  split at h
  · rename_i a_ b
    split at h
    rotate_left
    · cases h
    rename_i a dec_a
    have dec_a := D.Net.dec_ok dec_a
    subst dec_a
    have ok_a : D.Net.ok a := D.Net.okOf (oka _ (List.mem_of_getElem? (i := 0) rfl))
    have ok_b : i64 b := by have := oka _ (List.mem_of_getElem? (i := 1) rfl); exact wf_i64.1 this
    exact ⟨_, 9, false, laws_heldNet_true a b ok_a ok_b K h⟩
  · cases h
def laws_FnExactNetDrop_K (K : Kont) (r : Bool) : Bool := K [AV.one (AC.bool r)] []
def laws_FnExactNetDrop_T (a : D.Net) (b : Int) : T (Bool) :=
  .br (decide (((laws_szNet a 1048576) : Int) < 0))
  (.ret true)
  (let r1 : D.Net := laws_toNet a
   .grd (laws_toNet_pre a) (let r2 : D.Net × Int := spec_NetDrop r1 b
   .grd (spec_NetDrop_pre r1 b) (let r3 : D.Net := laws_toNet a
   .grd (laws_toNet_pre a) (let r4 : D.Net × Int := impl_NetDrop r3 b
   .grd (impl_NetDrop_pre r3 b) (.br (!(laws_eqNet r4.1 r2.1))
   (.ret false)
   (.br ((r4.2 : Int) != r2.2)
    (.ret false)
    (.both (let r5 : D.Net := laws_toNet a
      .grd (laws_toNet_pre a) (.br (!(laws_eqNet r3 r5))
      (.ret false)
      (let r6 : Int × (List D.Flight) := laws_markNet r3 1
       .br (decide ((r6.1 : Int) < 0))
       (.ret false)
       (.br (!(laws_eqNet r4.1 r2.1))
        (.ret false)
        (.br ((r4.2 : Int) != r2.2)
         (.ret false)
         (let r7 : Int × (List D.Flight) := laws_markNet r4.1 1
          .br (decide (((laws_heldNet (⟨r4.1.next, r7.2⟩ : D.Net) 1) : Int) < 0))
          (.ret false)
          (.br (((laws_heldNet (⟨r4.1.next, r7.2⟩ : D.Net) 1) : Int) != r7.1)
           (.ret false)
           (let r8 : D.Net := laws_toNet a
            .grd (laws_toNet_pre a) (let r9 : D.Net × Int := impl_NetDrop r8 b
            .grd (impl_NetDrop_pre r8 b) (.br (!(laws_eqNet r9.1 r2.1))
            (.ret false)
            (.br ((r9.2 : Int) != r2.2)
             (.ret false)
             (.br (decide (((laws_heldNet (⟨r4.1.next, r7.2⟩ : D.Net) 1) : Int) < 0))
              (.ret false)
              (.br (((laws_heldNet (⟨r4.1.next, r7.2⟩ : D.Net) 1) : Int) != r7.1)
               (.ret false)
               (.ret true))))))))))))))
     (.both (let r10 : D.Net := laws_toNet a
       .grd (laws_toNet_pre a) (.br (!(laws_eqNet r3 r10))
       (.ret false)
       (let r11 : Int × (List D.Flight) := laws_markNet r3 1
        .br (decide ((r11.1 : Int) < 0))
        (.ret false)
        (.br (!(laws_eqNet r4.1 r2.1))
         (.ret false)
         (.br ((r4.2 : Int) != r2.2)
          (.ret false)
          (let r12 : Int × (List D.Flight) := laws_markNet r4.1 1
           .br (decide (((laws_heldNet (⟨r4.1.next, r12.2⟩ : D.Net) 1) : Int) < 0))
           (.ret false)
           (.br (((laws_heldNet (⟨r4.1.next, r12.2⟩ : D.Net) 1) : Int) != r12.1)
            (.ret false)
            (let r13 : D.Net := laws_toNet a
             .grd (laws_toNet_pre a) (let r14 : D.Net × Int := impl_NetDrop r13 b
             .grd (impl_NetDrop_pre r13 b) (.br (!(laws_eqNet r14.1 r2.1))
             (.ret false)
             (.br ((r14.2 : Int) != r2.2)
              (.ret false)
              (.br (decide (((laws_heldNet (⟨r4.1.next, r12.2⟩ : D.Net) 1) : Int) < 0))
               (.ret false)
               (.br (((laws_heldNet (⟨r4.1.next, r12.2⟩ : D.Net) 1) : Int) != r12.1)
                (.ret false)
                (.ret true))))))))))))))
      (let r15 : D.Net := laws_toNet a
       .grd (laws_toNet_pre a) (.br (!(laws_eqNet r3 r15))
       (.ret false)
       (let r16 : Int × (List D.Flight) := laws_markNet r3 1
        .br (decide ((r16.1 : Int) < 0))
        (.ret false)
        (.br (!(laws_eqNet r4.1 r2.1))
         (.ret false)
         (.br ((r4.2 : Int) != r2.2)
          (.ret false)
          (let r17 : Int × (List D.Flight) := laws_markNet r4.1 1
           .br (decide (((laws_heldNet (⟨r4.1.next, r17.2⟩ : D.Net) 1) : Int) < 0))
           (.ret false)
           (.br (((laws_heldNet (⟨r4.1.next, r17.2⟩ : D.Net) 1) : Int) != r17.1)
            (.ret false)
            (let r18 : D.Net := laws_toNet a
             .grd (laws_toNet_pre a) (let r19 : D.Net × Int := impl_NetDrop r18 b
             .grd (impl_NetDrop_pre r18 b) (.br (!(laws_eqNet r19.1 r2.1))
             (.ret false)
             (.br ((r19.2 : Int) != r2.2)
              (.ret false)
              (.br (decide (((laws_heldNet (⟨r4.1.next, r17.2⟩ : D.Net) 1) : Int) < 0))
               (.ret false)
               (.br (((laws_heldNet (⟨r4.1.next, r17.2⟩ : D.Net) 1) : Int) != r17.1)
                (.ret false)
                (.ret true))))))))))))))))))))))
def laws_FnExactNetDrop (a : D.Net) (b : Int) : Bool := (laws_FnExactNetDrop_T a b).val
theorem laws_FnExactNetDrop_eqn (a : D.Net) (b : Int) : laws_FnExactNetDrop a b =
  bif (decide (((laws_szNet a 1048576) : Int) < 0)) then
  (true)
  else (let r1 : D.Net := laws_toNet a
   let r2 : D.Net × Int := spec_NetDrop r1 b
   let r3 : D.Net := laws_toNet a
   let r4 : D.Net × Int := impl_NetDrop r3 b
   bif (!(laws_eqNet r4.1 r2.1)) then
   (false)
   else (bif ((r4.2 : Int) != r2.2) then
    (false)
    else (let r5 : D.Net := laws_toNet a
     bif (!(laws_eqNet r3 r5)) then
     (false)
     else (let r6 : Int × (List D.Flight) := laws_markNet r3 1
      bif (decide ((r6.1 : Int) < 0)) then
      (false)
      else (bif (!(laws_eqNet r4.1 r2.1)) then
       (false)
       else (bif ((r4.2 : Int) != r2.2) then
        (false)
        else (let r7 : Int × (List D.Flight) := laws_markNet r4.1 1
         bif (decide (((laws_heldNet (⟨r4.1.next, r7.2⟩ : D.Net) 1) : Int) < 0)) then
         (false)
         else (bif (((laws_heldNet (⟨r4.1.next, r7.2⟩ : D.Net) 1) : Int) != r7.1) then
          (false)
          else (let r8 : D.Net := laws_toNet a
           let r9 : D.Net × Int := impl_NetDrop r8 b
           bif (!(laws_eqNet r9.1 r2.1)) then
           (false)
           else (bif ((r9.2 : Int) != r2.2) then
            (false)
            else (bif (decide (((laws_heldNet (⟨r4.1.next, r7.2⟩ : D.Net) 1) : Int) < 0)) then
             (false)
             else (bif (((laws_heldNet (⟨r4.1.next, r7.2⟩ : D.Net) 1) : Int) != r7.1) then
              (false)
              else (true))))))))))))) := by kernel_rfl
theorem laws_FnExactNetDrop_start (a : D.Net) (b : Int) (k : Nat) : bodyA V36 (run V36 k 9) 8 k [AV.agg (D.Net.cs a), AV.one (AC.int .i64 b)] [] isTrue =
  (laws_FnExactNetDrop_T a b).run (fun r => r) := by kernel_rfl
theorem laws_FnExactNetDrop_safe (a : D.Net) (b : Int) (ok_a : D.Net.ok a) (ok_b : i64 b) : (laws_FnExactNetDrop_T a b).safe := by
  have hml := maxLen_eq
  have hmr := maxRows_eq
  have q_a_list := (ok_a.2).1
  have hz := szNet_le a 1048576 q_a_list (by omega) (by omega)
  have hml := maxLen_eq
  have hmr := maxRows_eq
  simp only [laws_FnExactNetDrop_T, T.safe, and_true, true_and, implies_true, bne_eq_false_iff_eq, beq_iff_eq, decide_eq_false_iff_not, decide_eq_true_eq, Bool.and_eq_true, Bool.or_eq_false_iff, Bool.not_eq_eq_eq_not, Bool.not_true, Bool.not_false, beq_eq_false_iff_ne, bne_iff_ne, List.length_replicate, Int.toNat_natCast, List.length_set, List.length_map, List.length_append, List.length_cons, List.length_nil, List.length_take, List.length_drop, Nat.ble_eq, spec_l1In, spec_l1In_T, T.val, Bool.cond_eq_ite, spec_l5Copy_pre, l5Copy_eq, spec_NetTake_pre, spec_NetDrop_pre, laws_toFlightS_pre, laws_toNet_pre, toNet_eq, impl_in, impl_in_T, slices_Clone_Flight_pre, Clone_Flight_eq, impl_Net_own_pre, impl_Net_refused_pre, impl_NetDrop_pre]
  repeat' (first | exact trivial | apply And.intro | intro _)
  all_goals first | omega | (simp_all; done) | (simp_all; omega)
theorem laws_FnExactNetDrop_true (a : D.Net) (b : Int) (ok_a : D.Net.ok a) (ok_b : i64 b) (h : laws_FnExactNetDrop a b = true) : bodyA V36 (run V36 (0) 9) 8 (0) [AV.agg (D.Net.cs a), AV.one (AC.int .i64 b)] [] isTrue = true := by
  rw [laws_FnExactNetDrop_start]
  exact T.run_true (laws_FnExactNetDrop_safe a b ok_a ok_b) h
def impl_NetTake_K (K : Kont) (r : D.Net × D.Flight × Int) : Bool := K [AV.agg [AC.int .i64 r.1.next, AC.own 0], AV.agg (D.Flight.cs r.2.1), AV.one (AC.int .i64 r.2.2)] [Blk.rows 52 .flight r.1.list]
def impl_NetTake_pre (a : D.Net) (b : Int) : Bool := decide (a.list.length ≤ 1048576)
def impl_NetTake_T (a : D.Net) (b : Int) : T (D.Net × D.Flight × Int) :=
  let r1 : D.Net × Int := impl_NetDrop a b
  .grd (impl_NetDrop_pre a b) (.br ((r1.2 : Int) != 0)
  (.ret (r1.1, D.Flight.zero, r1.2))
  (.both (.both (.grd (decide (0 ≤ b) && decide (b < (a.list.length : Int))) (.both (.ret (r1.1, (elem .flight a.list (Int.toNat b)), r1.2))
     (.ret (r1.1, (elem .flight a.list (Int.toNat b)), r1.2))))
    (.grd (decide (0 ≤ b) && decide (b < (a.list.length : Int))) (.ret (r1.1, (elem .flight a.list (Int.toNat b)), r1.2))))
   (.grd (decide (0 ≤ b) && decide (b < (a.list.length : Int))) (.both (.both (.ret (r1.1, (elem .flight a.list (Int.toNat b)), r1.2))
     (.ret (r1.1, (elem .flight a.list (Int.toNat b)), r1.2)))
    (.ret (r1.1, (elem .flight a.list (Int.toNat b)), r1.2))))))
def impl_NetTake (a : D.Net) (b : Int) : D.Net × D.Flight × Int := (impl_NetTake_T a b).val
theorem impl_NetTake_eqn (a : D.Net) (b : Int) : impl_NetTake a b =
  let r1 : D.Net × Int := impl_NetDrop a b
  bif ((r1.2 : Int) != 0) then
  ((r1.1, D.Flight.zero, r1.2))
  else ((r1.1, (elem .flight a.list (Int.toNat b)), r1.2)) := by kernel_rfl
theorem impl_NetTake_start (a : D.Net) (b : Int) (k : Nat) (K : Kont) : bodyA V36 (run V36 k 9) 38 k [AV.agg (D.Net.cs a), AV.one (AC.int .i64 b)] [] (clean tab0 false 0 K) =
  (impl_NetTake_T a b).run (impl_NetTake_K K) := by kernel_rfl
theorem impl_NetTake_safe (a : D.Net) (b : Int) (ok_a : D.Net.ok a) (ok_b : i64 b) (hp : impl_NetTake_pre a b = true) : (impl_NetTake_T a b).safe := by
  have hml := maxLen_eq
  have hmr := maxRows_eq
  have q_a_list := (ok_a.2).1
  have hat := Net_at_zero a b q_a_list
  have hcd := NetDrop_code a b
  have hpp := hp
  simp only [impl_NetTake_pre, Bool.and_eq_true, decide_eq_true_eq] at hpp
  have hml := maxLen_eq
  have hmr := maxRows_eq
  simp only [impl_NetTake_T, T.safe, and_true, true_and, implies_true, bne_eq_false_iff_eq, beq_iff_eq, decide_eq_false_iff_not, decide_eq_true_eq, Bool.and_eq_true, Bool.or_eq_false_iff, Bool.not_eq_eq_eq_not, Bool.not_true, Bool.not_false, beq_eq_false_iff_ne, bne_iff_ne, List.length_replicate, Int.toNat_natCast, List.length_set, List.length_map, List.length_append, List.length_cons, List.length_nil, List.length_take, List.length_drop, Nat.ble_eq, spec_l1In, spec_l1In_T, T.val, Bool.cond_eq_ite, spec_l5Copy_pre, l5Copy_eq, spec_NetTake_pre, spec_NetDrop_pre, laws_toFlightS_pre, laws_toNet_pre, toNet_eq, impl_in, impl_in_T, slices_Clone_Flight_pre, Clone_Flight_eq, impl_Net_own_pre, impl_Net_refused_pre, impl_NetDrop_pre, impl_NetTake_pre]
  repeat' (first | exact trivial | apply And.intro | intro _)
  all_goals first | omega | (simp_all; done) | (simp_all; omega)
theorem impl_NetTake_true (a : D.Net) (b : Int) (ok_a : D.Net.ok a) (ok_b : i64 b) (hp : impl_NetTake_pre a b = true) (K : Kont) (h : (impl_NetTake_K K) (impl_NetTake a b) = true) : bodyA V36 (run V36 (0) 9) 38 (0) [AV.agg (D.Net.cs a), AV.one (AC.int .i64 b)] [] (clean tab0 false 0 K) = true := by
  rw [impl_NetTake_start]
  refine T.run_true (impl_NetTake_safe a b ok_a ok_b hp) ?_
  exact h
def impl_NetTake_go : List AV → List Blk → Kont → Bool
  | [.agg a_, .one (AC.int .i64 b)], [], K => (match D.Net.dec a_ with | some a => grd (impl_NetTake_pre a b) (impl_NetTake_K K (impl_NetTake a b)) | none => false)
  | _, _, _ => false
noncomputable def V38 : Env := V36.add 38 ⟨fun _ => true, [], impl_NetTake_go⟩
theorem V38_ok : EnvOk V38 := by
  refine V36_ok.put hm 38 _ _ impl_NetTake_go (fun args B K h oka okb => ?_)
  unfold impl_NetTake_go at h
  split at h
  · rename_i a_ b
    split at h
    rotate_left
    · cases h
    rename_i a dec_a
    have dec_a := D.Net.dec_ok dec_a
    subst dec_a
    have ok_a : D.Net.ok a := D.Net.okOf (oka _ (List.mem_of_getElem? (i := 0) rfl))
    have ok_b : i64 b := by have := oka _ (List.mem_of_getElem? (i := 1) rfl); exact wf_i64.1 this
    obtain ⟨hp, h⟩ := grd_ok h
    exact ⟨_, 9, false, impl_NetTake_true a b ok_a ok_b hp K h⟩
  · cases h
def laws_FnExactNetTake_K (K : Kont) (r : Bool) : Bool := K [AV.one (AC.bool r)] []
def laws_FnExactNetTake_T (a : D.Net) (b : Int) : T (Bool) :=
  .br (decide (((laws_szNet a 1048576) : Int) < 0))
  (.ret true)
  (let r1 : D.Net := laws_toNet a
   .grd (laws_toNet_pre a) (let r2 : D.Net × D.Flight × Int := spec_NetTake r1 b
   .grd (spec_NetTake_pre r1 b) (let r3 : D.Net := laws_toNet a
   .grd (laws_toNet_pre a) (let r4 : D.Net × D.Flight × Int := impl_NetTake r3 b
   .grd (impl_NetTake_pre r3 b) (.br (!(laws_eqNet r4.1 r2.1))
   (.ret false)
   (.br (!(laws_eqFlight r4.2.1 r2.2.1))
    (.ret false)
    (.br ((r4.2.2 : Int) != r2.2.2)
     (.ret false)
     (.both (let r5 : D.Net := laws_toNet a
       .grd (laws_toNet_pre a) (.br (!(laws_eqNet r3 r5))
       (.ret false)
       (let r6 : Int × (List D.Flight) := laws_markNet r3 1
        .br (decide ((r6.1 : Int) < 0))
        (.ret false)
        (.br (!(laws_eqNet r4.1 r2.1))
         (.ret false)
         (.br (!(laws_eqFlight r4.2.1 r2.2.1))
          (.ret false)
          (.br ((r4.2.2 : Int) != r2.2.2)
           (.ret false)
           (let r7 : Int × (List D.Flight) := laws_markNet r4.1 1
            .br (decide (((laws_heldNet (⟨r4.1.next, r7.2⟩ : D.Net) 1) : Int) < 0))
            (.ret false)
            (.br (((laws_heldNet (⟨r4.1.next, r7.2⟩ : D.Net) 1) : Int) != r7.1)
             (.ret false)
             (let r8 : D.Net := laws_toNet a
              .grd (laws_toNet_pre a) (let r9 : D.Net × D.Flight × Int := impl_NetTake r8 b
              .grd (impl_NetTake_pre r8 b) (.br (!(laws_eqNet r9.1 r2.1))
              (.ret false)
              (.br (!(laws_eqFlight r9.2.1 r2.2.1))
               (.ret false)
               (.br ((r9.2.2 : Int) != r2.2.2)
                (.ret false)
                (.br (decide (((laws_heldNet (⟨r4.1.next, r7.2⟩ : D.Net) 1) : Int) < 0))
                 (.ret false)
                 (.br (((laws_heldNet (⟨r4.1.next, r7.2⟩ : D.Net) 1) : Int) != r7.1)
                  (.ret false)
                  (.ret true))))))))))))))))
      (.both (let r10 : D.Net := laws_toNet a
        .grd (laws_toNet_pre a) (.br (!(laws_eqNet r3 r10))
        (.ret false)
        (let r11 : Int × (List D.Flight) := laws_markNet r3 1
         .br (decide ((r11.1 : Int) < 0))
         (.ret false)
         (.br (!(laws_eqNet r4.1 r2.1))
          (.ret false)
          (.br (!(laws_eqFlight r4.2.1 r2.2.1))
           (.ret false)
           (.br ((r4.2.2 : Int) != r2.2.2)
            (.ret false)
            (let r12 : Int × (List D.Flight) := laws_markNet r4.1 1
             .br (decide (((laws_heldNet (⟨r4.1.next, r12.2⟩ : D.Net) 1) : Int) < 0))
             (.ret false)
             (.br (((laws_heldNet (⟨r4.1.next, r12.2⟩ : D.Net) 1) : Int) != r12.1)
              (.ret false)
              (let r13 : D.Net := laws_toNet a
               .grd (laws_toNet_pre a) (let r14 : D.Net × D.Flight × Int := impl_NetTake r13 b
               .grd (impl_NetTake_pre r13 b) (.br (!(laws_eqNet r14.1 r2.1))
               (.ret false)
               (.br (!(laws_eqFlight r14.2.1 r2.2.1))
                (.ret false)
                (.br ((r14.2.2 : Int) != r2.2.2)
                 (.ret false)
                 (.br (decide (((laws_heldNet (⟨r4.1.next, r12.2⟩ : D.Net) 1) : Int) < 0))
                  (.ret false)
                  (.br (((laws_heldNet (⟨r4.1.next, r12.2⟩ : D.Net) 1) : Int) != r12.1)
                   (.ret false)
                   (.ret true))))))))))))))))
       (let r15 : D.Net := laws_toNet a
        .grd (laws_toNet_pre a) (.br (!(laws_eqNet r3 r15))
        (.ret false)
        (let r16 : Int × (List D.Flight) := laws_markNet r3 1
         .br (decide ((r16.1 : Int) < 0))
         (.ret false)
         (.br (!(laws_eqNet r4.1 r2.1))
          (.ret false)
          (.br (!(laws_eqFlight r4.2.1 r2.2.1))
           (.ret false)
           (.br ((r4.2.2 : Int) != r2.2.2)
            (.ret false)
            (let r17 : Int × (List D.Flight) := laws_markNet r4.1 1
             .br (decide (((laws_heldNet (⟨r4.1.next, r17.2⟩ : D.Net) 1) : Int) < 0))
             (.ret false)
             (.br (((laws_heldNet (⟨r4.1.next, r17.2⟩ : D.Net) 1) : Int) != r17.1)
              (.ret false)
              (let r18 : D.Net := laws_toNet a
               .grd (laws_toNet_pre a) (let r19 : D.Net × D.Flight × Int := impl_NetTake r18 b
               .grd (impl_NetTake_pre r18 b) (.br (!(laws_eqNet r19.1 r2.1))
               (.ret false)
               (.br (!(laws_eqFlight r19.2.1 r2.2.1))
                (.ret false)
                (.br ((r19.2.2 : Int) != r2.2.2)
                 (.ret false)
                 (.br (decide (((laws_heldNet (⟨r4.1.next, r17.2⟩ : D.Net) 1) : Int) < 0))
                  (.ret false)
                  (.br (((laws_heldNet (⟨r4.1.next, r17.2⟩ : D.Net) 1) : Int) != r17.1)
                   (.ret false)
                   (.ret true)))))))))))))))))))))))))
def laws_FnExactNetTake (a : D.Net) (b : Int) : Bool := (laws_FnExactNetTake_T a b).val
theorem laws_FnExactNetTake_eqn (a : D.Net) (b : Int) : laws_FnExactNetTake a b =
  bif (decide (((laws_szNet a 1048576) : Int) < 0)) then
  (true)
  else (let r1 : D.Net := laws_toNet a
   let r2 : D.Net × D.Flight × Int := spec_NetTake r1 b
   let r3 : D.Net := laws_toNet a
   let r4 : D.Net × D.Flight × Int := impl_NetTake r3 b
   bif (!(laws_eqNet r4.1 r2.1)) then
   (false)
   else (bif (!(laws_eqFlight r4.2.1 r2.2.1)) then
    (false)
    else (bif ((r4.2.2 : Int) != r2.2.2) then
     (false)
     else (let r5 : D.Net := laws_toNet a
      bif (!(laws_eqNet r3 r5)) then
      (false)
      else (let r6 : Int × (List D.Flight) := laws_markNet r3 1
       bif (decide ((r6.1 : Int) < 0)) then
       (false)
       else (bif (!(laws_eqNet r4.1 r2.1)) then
        (false)
        else (bif (!(laws_eqFlight r4.2.1 r2.2.1)) then
         (false)
         else (bif ((r4.2.2 : Int) != r2.2.2) then
          (false)
          else (let r7 : Int × (List D.Flight) := laws_markNet r4.1 1
           bif (decide (((laws_heldNet (⟨r4.1.next, r7.2⟩ : D.Net) 1) : Int) < 0)) then
           (false)
           else (bif (((laws_heldNet (⟨r4.1.next, r7.2⟩ : D.Net) 1) : Int) != r7.1) then
            (false)
            else (let r8 : D.Net := laws_toNet a
             let r9 : D.Net × D.Flight × Int := impl_NetTake r8 b
             bif (!(laws_eqNet r9.1 r2.1)) then
             (false)
             else (bif (!(laws_eqFlight r9.2.1 r2.2.1)) then
              (false)
              else (bif ((r9.2.2 : Int) != r2.2.2) then
               (false)
               else (bif (decide (((laws_heldNet (⟨r4.1.next, r7.2⟩ : D.Net) 1) : Int) < 0)) then
                (false)
                else (bif (((laws_heldNet (⟨r4.1.next, r7.2⟩ : D.Net) 1) : Int) != r7.1) then
                 (false)
                 else (true)))))))))))))))) := by kernel_rfl
theorem laws_FnExactNetTake_start (a : D.Net) (b : Int) (k : Nat) : bodyA V38 (run V38 k 9) 9 k [AV.agg (D.Net.cs a), AV.one (AC.int .i64 b)] [] isTrue =
  (laws_FnExactNetTake_T a b).run (fun r => r) := by kernel_rfl
theorem laws_FnExactNetTake_safe (a : D.Net) (b : Int) (ok_a : D.Net.ok a) (ok_b : i64 b) : (laws_FnExactNetTake_T a b).safe := by
  have hml := maxLen_eq
  have hmr := maxRows_eq
  have q_a_list := (ok_a.2).1
  have hz := szNet_le a 1048576 q_a_list (by omega) (by omega)
  have hml := maxLen_eq
  have hmr := maxRows_eq
  simp only [laws_FnExactNetTake_T, T.safe, and_true, true_and, implies_true, bne_eq_false_iff_eq, beq_iff_eq, decide_eq_false_iff_not, decide_eq_true_eq, Bool.and_eq_true, Bool.or_eq_false_iff, Bool.not_eq_eq_eq_not, Bool.not_true, Bool.not_false, beq_eq_false_iff_ne, bne_iff_ne, List.length_replicate, Int.toNat_natCast, List.length_set, List.length_map, List.length_append, List.length_cons, List.length_nil, List.length_take, List.length_drop, Nat.ble_eq, spec_l1In, spec_l1In_T, T.val, Bool.cond_eq_ite, spec_l5Copy_pre, l5Copy_eq, spec_NetTake_pre, spec_NetDrop_pre, laws_toFlightS_pre, laws_toNet_pre, toNet_eq, impl_in, impl_in_T, slices_Clone_Flight_pre, Clone_Flight_eq, impl_Net_own_pre, impl_Net_refused_pre, impl_NetDrop_pre, impl_NetTake_pre]
  repeat' (first | exact trivial | apply And.intro | intro _)
  all_goals first | omega | (simp_all; done) | (simp_all; omega)
theorem laws_FnExactNetTake_true (a : D.Net) (b : Int) (ok_a : D.Net.ok a) (ok_b : i64 b) (h : laws_FnExactNetTake a b = true) : bodyA V38 (run V38 (0) 9) 9 (0) [AV.agg (D.Net.cs a), AV.one (AC.int .i64 b)] [] isTrue = true := by
  rw [laws_FnExactNetTake_start]
  exact T.run_true (laws_FnExactNetTake_safe a b ok_a ok_b) h
def spec_NetSend_K (K : Kont) (r : D.Net × Int) : Bool := K [AV.agg [AC.int .i64 r.1.next, AC.own 0], AV.one (AC.int .i64 r.2)] [Blk.rows 52 .flight r.1.list]
def spec_NetSend_pre (a : D.Net) (b : Int) (c : Int) (d : List UInt8) (e : Int) : Bool := decide (a.list.length ≤ 1048576)
def spec_NetSend_T (a : D.Net) (b : Int) (c : Int) (d : List UInt8) (e : Int) : T (D.Net × Int) :=
  .br (!(spec_NetOk a))
  (.ret (D.Net.zero, 1))
  (.br (!(spec_l5Flight (⟨a.next, b, c, d, e⟩ : D.Flight)))
   (.ret (D.Net.zero, 1))
   (let r1 : D.Net := spec_l5Copy a
    .grd (spec_l5Copy_pre a) (.br (((a.list.length : Int) : Int) == 40)
    (.ret (r1, 3))
    (.br ((a.next : Int) == 1000000)
     (.ret (r1, 3))
     (.grd (decide ((r1.list.length + 1) * 48 ≤ maxRows)) (.ret ((⟨(w64 (r1.next + 1)), (r1.list ++ [(⟨a.next, b, c, d, e⟩ : D.Flight)])⟩ : D.Net), 0)))))))
def spec_NetSend (a : D.Net) (b : Int) (c : Int) (d : List UInt8) (e : Int) : D.Net × Int := (spec_NetSend_T a b c d e).val
theorem spec_NetSend_eqn (a : D.Net) (b : Int) (c : Int) (d : List UInt8) (e : Int) : spec_NetSend a b c d e =
  bif (!(spec_NetOk a)) then
  ((D.Net.zero, 1))
  else (bif (!(spec_l5Flight (⟨a.next, b, c, d, e⟩ : D.Flight))) then
   ((D.Net.zero, 1))
   else (let r1 : D.Net := spec_l5Copy a
    bif (((a.list.length : Int) : Int) == 40) then
    ((r1, 3))
    else (bif ((a.next : Int) == 1000000) then
     ((r1, 3))
     else (((⟨(w64 (r1.next + 1)), (r1.list ++ [(⟨a.next, b, c, d, e⟩ : D.Flight)])⟩ : D.Net), 0))))) := by kernel_rfl
theorem spec_NetSend_start (a : D.Net) (b : Int) (c : Int) (d : List UInt8) (e : Int) (k : Nat) (K : Kont) : bodyA V38 (run V38 k 9) 70 k [AV.agg (D.Net.cs a), AV.one (AC.int .i64 b), AV.one (AC.int .i64 c), AV.one (AC.str d), AV.one (AC.int .i64 e)] [] (clean tab0 false 0 K) =
  (spec_NetSend_T a b c d e).run (spec_NetSend_K K) := by kernel_rfl
theorem spec_NetSend_safe (a : D.Net) (b : Int) (c : Int) (d : List UInt8) (e : Int) (ok_a : D.Net.ok a) (ok_b : i64 b) (ok_c : i64 c) (ok_d : okS d) (ok_e : i64 e) (hp : spec_NetSend_pre a b c d e = true) : (spec_NetSend_T a b c d e).safe := by
  have hml := maxLen_eq
  have hmr := maxRows_eq
  have q_a_list := (ok_a.2).1
  have q_d := ok_d
  have hpp := hp
  simp only [spec_NetSend_pre, Bool.and_eq_true, decide_eq_true_eq] at hpp
  have hml := maxLen_eq
  have hmr := maxRows_eq
  simp only [spec_NetSend_T, T.safe, and_true, true_and, implies_true, bne_eq_false_iff_eq, beq_iff_eq, decide_eq_false_iff_not, decide_eq_true_eq, Bool.and_eq_true, Bool.or_eq_false_iff, Bool.not_eq_eq_eq_not, Bool.not_true, Bool.not_false, beq_eq_false_iff_ne, bne_iff_ne, List.length_replicate, Int.toNat_natCast, List.length_set, List.length_map, List.length_append, List.length_cons, List.length_nil, List.length_take, List.length_drop, Nat.ble_eq, spec_l1In, spec_l1In_T, T.val, Bool.cond_eq_ite, spec_l5Copy_pre, l5Copy_eq, spec_NetTake_pre, spec_NetDrop_pre, laws_toFlightS_pre, laws_toNet_pre, toNet_eq, impl_in, impl_in_T, slices_Clone_Flight_pre, Clone_Flight_eq, impl_Net_own_pre, impl_Net_refused_pre, impl_NetDrop_pre, impl_NetTake_pre, spec_NetSend_pre]
  repeat' (first | exact trivial | apply And.intro | intro _)
  all_goals first | omega | (simp_all; done) | (simp_all; omega)
theorem spec_NetSend_true (a : D.Net) (b : Int) (c : Int) (d : List UInt8) (e : Int) (ok_a : D.Net.ok a) (ok_b : i64 b) (ok_c : i64 c) (ok_d : okS d) (ok_e : i64 e) (hp : spec_NetSend_pre a b c d e = true) (K : Kont) (h : (spec_NetSend_K K) (spec_NetSend a b c d e) = true) : bodyA V38 (run V38 (0) 9) 70 (0) [AV.agg (D.Net.cs a), AV.one (AC.int .i64 b), AV.one (AC.int .i64 c), AV.one (AC.str d), AV.one (AC.int .i64 e)] [] (clean tab0 false 0 K) = true := by
  rw [spec_NetSend_start]
  refine T.run_true (spec_NetSend_safe a b c d e ok_a ok_b ok_c ok_d ok_e hp) ?_
  exact h
def spec_NetSend_go : List AV → List Blk → Kont → Bool
  | [.agg a_, .one (AC.int .i64 b), .one (AC.int .i64 c), .one (AC.str d), .one (AC.int .i64 e)], [], K => (match D.Net.dec a_ with | some a => grd (spec_NetSend_pre a b c d e) (spec_NetSend_K K (spec_NetSend a b c d e)) | none => false)
  | _, _, _ => false
noncomputable def V70 : Env := V38.add 70 ⟨fun _ => true, [], spec_NetSend_go⟩
theorem V70_ok : EnvOk V70 := by
  refine V38_ok.put hm 70 _ _ spec_NetSend_go (fun args B K h oka okb => ?_)
  unfold spec_NetSend_go at h
  split at h
  · rename_i a_ b c d e
    split at h
    rotate_left
    · cases h
    rename_i a dec_a
    have dec_a := D.Net.dec_ok dec_a
    subst dec_a
    have ok_a : D.Net.ok a := D.Net.okOf (oka _ (List.mem_of_getElem? (i := 0) rfl))
    have ok_b : i64 b := by have := oka _ (List.mem_of_getElem? (i := 1) rfl); exact wf_i64.1 this
    have ok_c : i64 c := by have := oka _ (List.mem_of_getElem? (i := 2) rfl); exact wf_i64.1 this
    have ok_d : okS d := by have := oka _ (List.mem_of_getElem? (i := 3) rfl); exact this
    have ok_e : i64 e := by have := oka _ (List.mem_of_getElem? (i := 4) rfl); exact wf_i64.1 this
    obtain ⟨hp, h⟩ := grd_ok h
    exact ⟨_, 9, false, spec_NetSend_true a b c d e ok_a ok_b ok_c ok_d ok_e hp K h⟩
  · cases h
def spec_NetDouble_K (K : Kont) (r : D.Net × Int) : Bool := K [AV.agg [AC.int .i64 r.1.next, AC.own 0], AV.one (AC.int .i64 r.2)] [Blk.rows 52 .flight r.1.list]
def spec_NetDouble_pre (a : D.Net) (b : Int) : Bool := decide (a.list.length ≤ 1048576)
def spec_NetDouble_T (a : D.Net) (b : Int) : T (D.Net × Int) :=
  let r1 : D.Net × D.Flight × Int := spec_NetTake a b
  .grd (spec_NetTake_pre a b) (.br ((r1.2.2 : Int) != 0)
  (let r2 : D.Net × D.Flight × Int := spec_NetTake a b
   .grd (spec_NetTake_pre a b) (.ret (r2.1, r1.2.2)))
  (let r3 : D.Net × Int := spec_NetSend a r1.2.1.frm r1.2.1.to r1.2.1.bytes r1.2.1.at_
   .grd (spec_NetSend_pre a r1.2.1.frm r1.2.1.to r1.2.1.bytes r1.2.1.at_) (.ret (r3.1, r3.2))))
def spec_NetDouble (a : D.Net) (b : Int) : D.Net × Int := (spec_NetDouble_T a b).val
theorem spec_NetDouble_eqn (a : D.Net) (b : Int) : spec_NetDouble a b =
  let r1 : D.Net × D.Flight × Int := spec_NetTake a b
  bif ((r1.2.2 : Int) != 0) then
  (let r2 : D.Net × D.Flight × Int := spec_NetTake a b
   (r2.1, r1.2.2))
  else (let r3 : D.Net × Int := spec_NetSend a r1.2.1.frm r1.2.1.to r1.2.1.bytes r1.2.1.at_
   (r3.1, r3.2)) := by kernel_rfl
theorem spec_NetDouble_start (a : D.Net) (b : Int) (k : Nat) (K : Kont) : bodyA V70 (run V70 k 9) 42 k [AV.agg (D.Net.cs a), AV.one (AC.int .i64 b)] [] (clean tab0 false 0 K) =
  (spec_NetDouble_T a b).run (spec_NetDouble_K K) := by kernel_rfl
theorem spec_NetDouble_safe (a : D.Net) (b : Int) (ok_a : D.Net.ok a) (ok_b : i64 b) (hp : spec_NetDouble_pre a b = true) : (spec_NetDouble_T a b).safe := by
  have hml := maxLen_eq
  have hmr := maxRows_eq
  have q_a_list := (ok_a.2).1
  have hpp := hp
  simp only [spec_NetDouble_pre, Bool.and_eq_true, decide_eq_true_eq] at hpp
  have hml := maxLen_eq
  have hmr := maxRows_eq
  simp only [spec_NetDouble_T, T.safe, and_true, true_and, implies_true, bne_eq_false_iff_eq, beq_iff_eq, decide_eq_false_iff_not, decide_eq_true_eq, Bool.and_eq_true, Bool.or_eq_false_iff, Bool.not_eq_eq_eq_not, Bool.not_true, Bool.not_false, beq_eq_false_iff_ne, bne_iff_ne, List.length_replicate, Int.toNat_natCast, List.length_set, List.length_map, List.length_append, List.length_cons, List.length_nil, List.length_take, List.length_drop, Nat.ble_eq, spec_l1In, spec_l1In_T, T.val, Bool.cond_eq_ite, spec_l5Copy_pre, l5Copy_eq, spec_NetTake_pre, spec_NetDrop_pre, laws_toFlightS_pre, laws_toNet_pre, toNet_eq, impl_in, impl_in_T, slices_Clone_Flight_pre, Clone_Flight_eq, impl_Net_own_pre, impl_Net_refused_pre, impl_NetDrop_pre, impl_NetTake_pre, spec_NetSend_pre, spec_NetDouble_pre]
  repeat' (first | exact trivial | apply And.intro | intro _)
  all_goals first | omega | (simp_all; done) | (simp_all; omega)
theorem spec_NetDouble_true (a : D.Net) (b : Int) (ok_a : D.Net.ok a) (ok_b : i64 b) (hp : spec_NetDouble_pre a b = true) (K : Kont) (h : (spec_NetDouble_K K) (spec_NetDouble a b) = true) : bodyA V70 (run V70 (0) 9) 42 (0) [AV.agg (D.Net.cs a), AV.one (AC.int .i64 b)] [] (clean tab0 false 0 K) = true := by
  rw [spec_NetDouble_start]
  refine T.run_true (spec_NetDouble_safe a b ok_a ok_b hp) ?_
  exact h
def spec_NetDouble_go : List AV → List Blk → Kont → Bool
  | [.agg a_, .one (AC.int .i64 b)], [], K => (match D.Net.dec a_ with | some a => grd (spec_NetDouble_pre a b) (spec_NetDouble_K K (spec_NetDouble a b)) | none => false)
  | _, _, _ => false
noncomputable def V42 : Env := V70.add 42 ⟨fun _ => true, [], spec_NetDouble_go⟩
theorem V42_ok : EnvOk V42 := by
  refine V70_ok.put hm 42 _ _ spec_NetDouble_go (fun args B K h oka okb => ?_)
  unfold spec_NetDouble_go at h
  split at h
  · rename_i a_ b
    split at h
    rotate_left
    · cases h
    rename_i a dec_a
    have dec_a := D.Net.dec_ok dec_a
    subst dec_a
    have ok_a : D.Net.ok a := D.Net.okOf (oka _ (List.mem_of_getElem? (i := 0) rfl))
    have ok_b : i64 b := by have := oka _ (List.mem_of_getElem? (i := 1) rfl); exact wf_i64.1 this
    obtain ⟨hp, h⟩ := grd_ok h
    exact ⟨_, 9, false, spec_NetDouble_true a b ok_a ok_b hp K h⟩
  · cases h
def impl_Net_put_K (K : Kont) (r : D.Net × Int) : Bool := K [AV.agg [AC.int .i64 r.1.next, AC.own 0], AV.one (AC.int .i64 r.2)] [Blk.rows 52 .flight r.1.list]
def impl_Net_put_pre (a : D.Net) (b : D.Flight) : Bool := decide (a.list.length ≤ 1048576)
def impl_Net_put_T (a : D.Net) (b : D.Flight) : T (D.Net × Int) :=
  .br (((a.list.length : Int) : Int) == 40)
  (let r1 : D.Net := impl_Net_own a
   .grd (impl_Net_own_pre a) (.ret (r1, 3)))
  (.br ((a.next : Int) == 1000000)
   (let r2 : D.Net := impl_Net_own a
    .grd (impl_Net_own_pre a) (.ret (r2, 3)))
   (.both (.both (.both (let r3 : (List D.Flight) := slices_Clone_Flight a.list
       .grd (slices_Clone_Flight_pre a.list) (.grd (decide ((r3.length + 1) * 48 ≤ maxRows)) (.ret ((⟨(w64 (a.next + 1)), (r3 ++ [(⟨a.next, b.frm, b.to, b.bytes, b.at_⟩ : D.Flight)])⟩ : D.Net), 0))))
      (.both (let r4 : (List D.Flight) := slices_Clone_Flight a.list
        .grd (slices_Clone_Flight_pre a.list) (.grd (decide ((r4.length + 1) * 48 ≤ maxRows)) (.ret ((⟨(w64 (a.next + 1)), (r4 ++ [(⟨a.next, b.frm, b.to, b.bytes, b.at_⟩ : D.Flight)])⟩ : D.Net), 0))))
       (let r5 : (List D.Flight) := slices_Clone_Flight a.list
        .grd (slices_Clone_Flight_pre a.list) (.grd (decide ((r5.length + 1) * 48 ≤ maxRows)) (.ret ((⟨(w64 (a.next + 1)), (r5 ++ [(⟨a.next, b.frm, b.to, b.bytes, b.at_⟩ : D.Flight)])⟩ : D.Net), 0))))))
     (.both (.both (let r6 : (List D.Flight) := slices_Clone_Flight a.list
        .grd (slices_Clone_Flight_pre a.list) (.grd (decide ((r6.length + 1) * 48 ≤ maxRows)) (.ret ((⟨(w64 (a.next + 1)), (r6 ++ [(⟨a.next, b.frm, b.to, b.bytes, b.at_⟩ : D.Flight)])⟩ : D.Net), 0))))
       (let r7 : (List D.Flight) := slices_Clone_Flight a.list
        .grd (slices_Clone_Flight_pre a.list) (.grd (decide ((r7.length + 1) * 48 ≤ maxRows)) (.ret ((⟨(w64 (a.next + 1)), (r7 ++ [(⟨a.next, b.frm, b.to, b.bytes, b.at_⟩ : D.Flight)])⟩ : D.Net), 0)))))
      (let r8 : (List D.Flight) := slices_Clone_Flight a.list
       .grd (slices_Clone_Flight_pre a.list) (.grd (decide ((r8.length + 1) * 48 ≤ maxRows)) (.ret ((⟨(w64 (a.next + 1)), (r8 ++ [(⟨a.next, b.frm, b.to, b.bytes, b.at_⟩ : D.Flight)])⟩ : D.Net), 0))))))
    (.both (.both (.both (let r9 : (List D.Flight) := slices_Clone_Flight a.list
        .grd (slices_Clone_Flight_pre a.list) (.grd (decide ((r9.length + 1) * 48 ≤ maxRows)) (.ret ((⟨(w64 (a.next + 1)), (r9 ++ [(⟨a.next, b.frm, b.to, b.bytes, b.at_⟩ : D.Flight)])⟩ : D.Net), 0))))
       (.both (let r10 : (List D.Flight) := slices_Clone_Flight a.list
         .grd (slices_Clone_Flight_pre a.list) (.grd (decide ((r10.length + 1) * 48 ≤ maxRows)) (.ret ((⟨(w64 (a.next + 1)), (r10 ++ [(⟨a.next, b.frm, b.to, b.bytes, b.at_⟩ : D.Flight)])⟩ : D.Net), 0))))
        (let r11 : (List D.Flight) := slices_Clone_Flight a.list
         .grd (slices_Clone_Flight_pre a.list) (.grd (decide ((r11.length + 1) * 48 ≤ maxRows)) (.ret ((⟨(w64 (a.next + 1)), (r11 ++ [(⟨a.next, b.frm, b.to, b.bytes, b.at_⟩ : D.Flight)])⟩ : D.Net), 0))))))
      (.both (let r12 : (List D.Flight) := slices_Clone_Flight a.list
        .grd (slices_Clone_Flight_pre a.list) (.both (.grd (decide ((r12.length + 1) * 48 ≤ maxRows)) (.ret ((⟨(w64 (a.next + 1)), (r12 ++ [(⟨a.next, b.frm, b.to, b.bytes, b.at_⟩ : D.Flight)])⟩ : D.Net), 0)))
        (.both (.grd (decide ((r12.length + 1) * 48 ≤ maxRows)) (.ret ((⟨(w64 (a.next + 1)), (r12 ++ [(⟨a.next, b.frm, b.to, b.bytes, b.at_⟩ : D.Flight)])⟩ : D.Net), 0)))
         (.both (.grd (decide ((r12.length + 1) * 48 ≤ maxRows)) (.ret ((⟨(w64 (a.next + 1)), (r12 ++ [(⟨a.next, b.frm, b.to, b.bytes, b.at_⟩ : D.Flight)])⟩ : D.Net), 0)))
          (.grd (decide ((r12.length + 1) * 48 ≤ maxRows)) (.ret ((⟨(w64 (a.next + 1)), (r12 ++ [(⟨a.next, b.frm, b.to, b.bytes, b.at_⟩ : D.Flight)])⟩ : D.Net), 0)))))))
       (.both (.both (let r13 : (List D.Flight) := slices_Clone_Flight a.list
          .grd (slices_Clone_Flight_pre a.list) (.grd (decide ((r13.length + 1) * 48 ≤ maxRows)) (.ret ((⟨(w64 (a.next + 1)), (r13 ++ [(⟨a.next, b.frm, b.to, b.bytes, b.at_⟩ : D.Flight)])⟩ : D.Net), 0))))
         (let r14 : (List D.Flight) := slices_Clone_Flight a.list
          .grd (slices_Clone_Flight_pre a.list) (.grd (decide ((r14.length + 1) * 48 ≤ maxRows)) (.ret ((⟨(w64 (a.next + 1)), (r14 ++ [(⟨a.next, b.frm, b.to, b.bytes, b.at_⟩ : D.Flight)])⟩ : D.Net), 0)))))
        (.both (let r15 : (List D.Flight) := slices_Clone_Flight a.list
          .grd (slices_Clone_Flight_pre a.list) (.both (.grd (decide ((r15.length + 1) * 48 ≤ maxRows)) (.ret ((⟨(w64 (a.next + 1)), (r15 ++ [(⟨a.next, b.frm, b.to, b.bytes, b.at_⟩ : D.Flight)])⟩ : D.Net), 0)))
          (.both (.grd (decide ((r15.length + 1) * 48 ≤ maxRows)) (.ret ((⟨(w64 (a.next + 1)), (r15 ++ [(⟨a.next, b.frm, b.to, b.bytes, b.at_⟩ : D.Flight)])⟩ : D.Net), 0)))
           (.grd (decide ((r15.length + 1) * 48 ≤ maxRows)) (.ret ((⟨(w64 (a.next + 1)), (r15 ++ [(⟨a.next, b.frm, b.to, b.bytes, b.at_⟩ : D.Flight)])⟩ : D.Net), 0))))))
         (.both (let r16 : (List D.Flight) := slices_Clone_Flight a.list
           .grd (slices_Clone_Flight_pre a.list) (.grd (decide ((r16.length + 1) * 48 ≤ maxRows)) (.ret ((⟨(w64 (a.next + 1)), (r16 ++ [(⟨a.next, b.frm, b.to, b.bytes, b.at_⟩ : D.Flight)])⟩ : D.Net), 0))))
          (let r17 : (List D.Flight) := slices_Clone_Flight a.list
           .grd (slices_Clone_Flight_pre a.list) (.both (.grd (decide ((r17.length + 1) * 48 ≤ maxRows)) (.ret ((⟨(w64 (a.next + 1)), (r17 ++ [(⟨a.next, b.frm, b.to, b.bytes, b.at_⟩ : D.Flight)])⟩ : D.Net), 0)))
           (.grd (decide ((r17.length + 1) * 48 ≤ maxRows)) (.ret ((⟨(w64 (a.next + 1)), (r17 ++ [(⟨a.next, b.frm, b.to, b.bytes, b.at_⟩ : D.Flight)])⟩ : D.Net), 0))))))))))
     (.both (.both (.both (let r18 : (List D.Flight) := slices_Clone_Flight a.list
         .grd (slices_Clone_Flight_pre a.list) (.grd (decide ((r18.length + 1) * 48 ≤ maxRows)) (.ret ((⟨(w64 (a.next + 1)), (r18 ++ [(⟨a.next, b.frm, b.to, b.bytes, b.at_⟩ : D.Flight)])⟩ : D.Net), 0))))
        (let r19 : (List D.Flight) := slices_Clone_Flight a.list
         .grd (slices_Clone_Flight_pre a.list) (.grd (decide ((r19.length + 1) * 48 ≤ maxRows)) (.ret ((⟨(w64 (a.next + 1)), (r19 ++ [(⟨a.next, b.frm, b.to, b.bytes, b.at_⟩ : D.Flight)])⟩ : D.Net), 0)))))
       (let r20 : (List D.Flight) := slices_Clone_Flight a.list
        .grd (slices_Clone_Flight_pre a.list) (.grd (decide ((r20.length + 1) * 48 ≤ maxRows)) (.ret ((⟨(w64 (a.next + 1)), (r20 ++ [(⟨a.next, b.frm, b.to, b.bytes, b.at_⟩ : D.Flight)])⟩ : D.Net), 0)))))
      (.both (.both (.both (let r21 : (List D.Flight) := slices_Clone_Flight a.list
          .grd (slices_Clone_Flight_pre a.list) (.grd (decide ((r21.length + 1) * 48 ≤ maxRows)) (.ret ((⟨(w64 (a.next + 1)), (r21 ++ [(⟨a.next, b.frm, b.to, b.bytes, b.at_⟩ : D.Flight)])⟩ : D.Net), 0))))
         (let r22 : (List D.Flight) := slices_Clone_Flight a.list
          .grd (slices_Clone_Flight_pre a.list) (.grd (decide ((r22.length + 1) * 48 ≤ maxRows)) (.ret ((⟨(w64 (a.next + 1)), (r22 ++ [(⟨a.next, b.frm, b.to, b.bytes, b.at_⟩ : D.Flight)])⟩ : D.Net), 0)))))
        (.both (let r23 : (List D.Flight) := slices_Clone_Flight a.list
          .grd (slices_Clone_Flight_pre a.list) (.both (.grd (decide ((r23.length + 1) * 48 ≤ maxRows)) (.ret ((⟨(w64 (a.next + 1)), (r23 ++ [(⟨a.next, b.frm, b.to, b.bytes, b.at_⟩ : D.Flight)])⟩ : D.Net), 0)))
          (.both (.grd (decide ((r23.length + 1) * 48 ≤ maxRows)) (.ret ((⟨(w64 (a.next + 1)), (r23 ++ [(⟨a.next, b.frm, b.to, b.bytes, b.at_⟩ : D.Flight)])⟩ : D.Net), 0)))
           (.grd (decide ((r23.length + 1) * 48 ≤ maxRows)) (.ret ((⟨(w64 (a.next + 1)), (r23 ++ [(⟨a.next, b.frm, b.to, b.bytes, b.at_⟩ : D.Flight)])⟩ : D.Net), 0))))))
         (.both (let r24 : (List D.Flight) := slices_Clone_Flight a.list
           .grd (slices_Clone_Flight_pre a.list) (.grd (decide ((r24.length + 1) * 48 ≤ maxRows)) (.ret ((⟨(w64 (a.next + 1)), (r24 ++ [(⟨a.next, b.frm, b.to, b.bytes, b.at_⟩ : D.Flight)])⟩ : D.Net), 0))))
          (let r25 : (List D.Flight) := slices_Clone_Flight a.list
           .grd (slices_Clone_Flight_pre a.list) (.both (.grd (decide ((r25.length + 1) * 48 ≤ maxRows)) (.ret ((⟨(w64 (a.next + 1)), (r25 ++ [(⟨a.next, b.frm, b.to, b.bytes, b.at_⟩ : D.Flight)])⟩ : D.Net), 0)))
           (.grd (decide ((r25.length + 1) * 48 ≤ maxRows)) (.ret ((⟨(w64 (a.next + 1)), (r25 ++ [(⟨a.next, b.frm, b.to, b.bytes, b.at_⟩ : D.Flight)])⟩ : D.Net), 0))))))))
       (.both (let r26 : (List D.Flight) := slices_Clone_Flight a.list
         .grd (slices_Clone_Flight_pre a.list) (.grd (decide ((r26.length + 1) * 48 ≤ maxRows)) (.ret ((⟨(w64 (a.next + 1)), (r26 ++ [(⟨a.next, b.frm, b.to, b.bytes, b.at_⟩ : D.Flight)])⟩ : D.Net), 0))))
        (.both (let r27 : (List D.Flight) := slices_Clone_Flight a.list
          .grd (slices_Clone_Flight_pre a.list) (.grd (decide ((r27.length + 1) * 48 ≤ maxRows)) (.ret ((⟨(w64 (a.next + 1)), (r27 ++ [(⟨a.next, b.frm, b.to, b.bytes, b.at_⟩ : D.Flight)])⟩ : D.Net), 0))))
         (let r28 : (List D.Flight) := slices_Clone_Flight a.list
          .grd (slices_Clone_Flight_pre a.list) (.both (.grd (decide ((r28.length + 1) * 48 ≤ maxRows)) (.ret ((⟨(w64 (a.next + 1)), (r28 ++ [(⟨a.next, b.frm, b.to, b.bytes, b.at_⟩ : D.Flight)])⟩ : D.Net), 0)))
          (.grd (decide ((r28.length + 1) * 48 ≤ maxRows)) (.ret ((⟨(w64 (a.next + 1)), (r28 ++ [(⟨a.next, b.frm, b.to, b.bytes, b.at_⟩ : D.Flight)])⟩ : D.Net), 0))))))))))))
def impl_Net_put (a : D.Net) (b : D.Flight) : D.Net × Int := (impl_Net_put_T a b).val
theorem impl_Net_put_eqn (a : D.Net) (b : D.Flight) : impl_Net_put a b =
  bif (((a.list.length : Int) : Int) == 40) then
  (let r1 : D.Net := impl_Net_own a
   (r1, 3))
  else (bif ((a.next : Int) == 1000000) then
   (let r2 : D.Net := impl_Net_own a
    (r2, 3))
   else (let r3 : (List D.Flight) := slices_Clone_Flight a.list
    ((⟨(w64 (a.next + 1)), (r3 ++ [(⟨a.next, b.frm, b.to, b.bytes, b.at_⟩ : D.Flight)])⟩ : D.Net), 0))) := by kernel_rfl
theorem impl_Net_put_start (a : D.Net) (b : D.Flight) (k : Nat) (K : Kont) : bodyA V42 (run V42 k 9) 71 k [AV.agg (D.Net.cs a), AV.agg (D.Flight.cs b)] [] (clean tab0 false 0 K) =
  (impl_Net_put_T a b).run (impl_Net_put_K K) := by kernel_rfl
theorem impl_Net_put_safe (a : D.Net) (b : D.Flight) (ok_a : D.Net.ok a) (ok_b : D.Flight.ok b) (hp : impl_Net_put_pre a b = true) : (impl_Net_put_T a b).safe := by
  have hml := maxLen_eq
  have hmr := maxRows_eq
  have q_a_list := (ok_a.2).1
  have q_b_bytes := ok_b.2.2.2.1
  have hpp := hp
  simp only [impl_Net_put_pre, Bool.and_eq_true, decide_eq_true_eq] at hpp
  have hml := maxLen_eq
  have hmr := maxRows_eq
  simp only [impl_Net_put_T, T.safe, and_true, true_and, implies_true, bne_eq_false_iff_eq, beq_iff_eq, decide_eq_false_iff_not, decide_eq_true_eq, Bool.and_eq_true, Bool.or_eq_false_iff, Bool.not_eq_eq_eq_not, Bool.not_true, Bool.not_false, beq_eq_false_iff_ne, bne_iff_ne, List.length_replicate, Int.toNat_natCast, List.length_set, List.length_map, List.length_append, List.length_cons, List.length_nil, List.length_take, List.length_drop, Nat.ble_eq, spec_l1In, spec_l1In_T, T.val, Bool.cond_eq_ite, spec_l5Copy_pre, l5Copy_eq, spec_NetTake_pre, spec_NetDrop_pre, laws_toFlightS_pre, laws_toNet_pre, toNet_eq, impl_in, impl_in_T, slices_Clone_Flight_pre, Clone_Flight_eq, impl_Net_own_pre, impl_Net_refused_pre, impl_NetDrop_pre, impl_NetTake_pre, spec_NetSend_pre, spec_NetDouble_pre, impl_Net_put_pre]
  repeat' (first | exact trivial | apply And.intro | intro _)
  all_goals first | omega | (simp_all; done) | (simp_all; omega)
theorem impl_Net_put_true (a : D.Net) (b : D.Flight) (ok_a : D.Net.ok a) (ok_b : D.Flight.ok b) (hp : impl_Net_put_pre a b = true) (K : Kont) (h : (impl_Net_put_K K) (impl_Net_put a b) = true) : bodyA V42 (run V42 (0) 9) 71 (0) [AV.agg (D.Net.cs a), AV.agg (D.Flight.cs b)] [] (clean tab0 false 0 K) = true := by
  rw [impl_Net_put_start]
  refine T.run_true (impl_Net_put_safe a b ok_a ok_b hp) ?_
  exact h
def impl_Net_put_go : List AV → List Blk → Kont → Bool
  | [.agg a_, .agg b_], [], K => (match D.Net.dec a_ with | some a => (match D.Flight.dec b_ with | some b => grd (impl_Net_put_pre a b) (impl_Net_put_K K (impl_Net_put a b)) | none => false) | none => false)
  | _, _, _ => false
noncomputable def V71 : Env := V42.add 71 ⟨fun _ => true, [], impl_Net_put_go⟩
theorem V71_ok : EnvOk V71 := by
  refine V42_ok.put hm 71 _ _ impl_Net_put_go (fun args B K h oka okb => ?_)
  unfold impl_Net_put_go at h
  split at h
  · rename_i a_ b_
    split at h
    rotate_left
    · cases h
    rename_i a dec_a
    have dec_a := D.Net.dec_ok dec_a
    subst dec_a
    split at h
    rotate_left
    · cases h
    rename_i b dec_b
    have dec_b := D.Flight.dec_ok dec_b
    subst dec_b
    have ok_a : D.Net.ok a := D.Net.okOf (oka _ (List.mem_of_getElem? (i := 0) rfl))
    have ok_b : D.Flight.ok b := D.Flight.okOf (oka _ (List.mem_of_getElem? (i := 1) rfl))
    obtain ⟨hp, h⟩ := grd_ok h
    exact ⟨_, 9, false, impl_Net_put_true a b ok_a ok_b hp K h⟩
  · cases h
def impl_NetDouble_K (K : Kont) (r : D.Net × Int) : Bool := K [AV.agg [AC.int .i64 r.1.next, AC.own 0], AV.one (AC.int .i64 r.2)] [Blk.rows 52 .flight r.1.list]
def impl_NetDouble_pre (a : D.Net) (b : Int) : Bool := decide (a.list.length ≤ 1048576)
def impl_NetDouble_T (a : D.Net) (b : Int) : T (D.Net × Int) :=
  .br (((impl_Net_at a ([b] : List Int)) : Int) != 0)
  (let r1 : D.Net × Int := impl_Net_refused a (impl_Net_at a ([b] : List Int))
   .grd (impl_Net_refused_pre a (impl_Net_at a ([b] : List Int))) (.ret (r1.1, r1.2)))
  (.both (.grd (decide (0 ≤ b) && decide (b < (a.list.length : Int))) (let r2 : D.Net × Int := impl_Net_put a (elem .flight a.list (Int.toNat b))
    .grd (impl_Net_put_pre a (elem .flight a.list (Int.toNat b))) (.ret (r2.1, r2.2))))
   (.grd (decide (0 ≤ b) && decide (b < (a.list.length : Int))) (.both (let r3 : D.Net × Int := impl_Net_put a (elem .flight a.list (Int.toNat b))
     .grd (impl_Net_put_pre a (elem .flight a.list (Int.toNat b))) (.ret (r3.1, r3.2)))
    (let r4 : D.Net × Int := impl_Net_put a (elem .flight a.list (Int.toNat b))
     .grd (impl_Net_put_pre a (elem .flight a.list (Int.toNat b))) (.ret (r4.1, r4.2))))))
def impl_NetDouble (a : D.Net) (b : Int) : D.Net × Int := (impl_NetDouble_T a b).val
theorem impl_NetDouble_eqn (a : D.Net) (b : Int) : impl_NetDouble a b =
  bif (((impl_Net_at a ([b] : List Int)) : Int) != 0) then
  (let r1 : D.Net × Int := impl_Net_refused a (impl_Net_at a ([b] : List Int))
   (r1.1, r1.2))
  else (let r2 : D.Net × Int := impl_Net_put a (elem .flight a.list (Int.toNat b))
   (r2.1, r2.2)) := by kernel_rfl
theorem impl_NetDouble_start (a : D.Net) (b : Int) (k : Nat) (K : Kont) : bodyA V71 (run V71 k 9) 43 k [AV.agg (D.Net.cs a), AV.one (AC.int .i64 b)] [] (clean tab0 false 0 K) =
  (impl_NetDouble_T a b).run (impl_NetDouble_K K) := by kernel_rfl
theorem impl_NetDouble_safe (a : D.Net) (b : Int) (ok_a : D.Net.ok a) (ok_b : i64 b) (hp : impl_NetDouble_pre a b = true) : (impl_NetDouble_T a b).safe := by
  have hml := maxLen_eq
  have hmr := maxRows_eq
  have q_a_list := (ok_a.2).1
  have hat := Net_at_zero a b q_a_list
  have hpp := hp
  simp only [impl_NetDouble_pre, Bool.and_eq_true, decide_eq_true_eq] at hpp
  have hml := maxLen_eq
  have hmr := maxRows_eq
  simp only [impl_NetDouble_T, T.safe, and_true, true_and, implies_true, bne_eq_false_iff_eq, beq_iff_eq, decide_eq_false_iff_not, decide_eq_true_eq, Bool.and_eq_true, Bool.or_eq_false_iff, Bool.not_eq_eq_eq_not, Bool.not_true, Bool.not_false, beq_eq_false_iff_ne, bne_iff_ne, List.length_replicate, Int.toNat_natCast, List.length_set, List.length_map, List.length_append, List.length_cons, List.length_nil, List.length_take, List.length_drop, Nat.ble_eq, spec_l1In, spec_l1In_T, T.val, Bool.cond_eq_ite, spec_l5Copy_pre, l5Copy_eq, spec_NetTake_pre, spec_NetDrop_pre, laws_toFlightS_pre, laws_toNet_pre, toNet_eq, impl_in, impl_in_T, slices_Clone_Flight_pre, Clone_Flight_eq, impl_Net_own_pre, impl_Net_refused_pre, impl_NetDrop_pre, impl_NetTake_pre, spec_NetSend_pre, spec_NetDouble_pre, impl_Net_put_pre, impl_NetDouble_pre]
  repeat' (first | exact trivial | apply And.intro | intro _)
  all_goals first | omega | (simp_all; done) | (simp_all; omega)
theorem impl_NetDouble_true (a : D.Net) (b : Int) (ok_a : D.Net.ok a) (ok_b : i64 b) (hp : impl_NetDouble_pre a b = true) (K : Kont) (h : (impl_NetDouble_K K) (impl_NetDouble a b) = true) : bodyA V71 (run V71 (0) 9) 43 (0) [AV.agg (D.Net.cs a), AV.one (AC.int .i64 b)] [] (clean tab0 false 0 K) = true := by
  rw [impl_NetDouble_start]
  refine T.run_true (impl_NetDouble_safe a b ok_a ok_b hp) ?_
  exact h
def impl_NetDouble_go : List AV → List Blk → Kont → Bool
  | [.agg a_, .one (AC.int .i64 b)], [], K => (match D.Net.dec a_ with | some a => grd (impl_NetDouble_pre a b) (impl_NetDouble_K K (impl_NetDouble a b)) | none => false)
  | _, _, _ => false
noncomputable def V43 : Env := V71.add 43 ⟨fun _ => true, [], impl_NetDouble_go⟩
theorem V43_ok : EnvOk V43 := by
  refine V71_ok.put hm 43 _ _ impl_NetDouble_go (fun args B K h oka okb => ?_)
  unfold impl_NetDouble_go at h
  split at h
  · rename_i a_ b
    split at h
    rotate_left
    · cases h
    rename_i a dec_a
    have dec_a := D.Net.dec_ok dec_a
    subst dec_a
    have ok_a : D.Net.ok a := D.Net.okOf (oka _ (List.mem_of_getElem? (i := 0) rfl))
    have ok_b : i64 b := by have := oka _ (List.mem_of_getElem? (i := 1) rfl); exact wf_i64.1 this
    obtain ⟨hp, h⟩ := grd_ok h
    exact ⟨_, 9, false, impl_NetDouble_true a b ok_a ok_b hp K h⟩
  · cases h
def laws_FnExactNetDouble_K (K : Kont) (r : Bool) : Bool := K [AV.one (AC.bool r)] []
def laws_FnExactNetDouble_T (a : D.Net) (b : Int) : T (Bool) :=
  .br (decide (((laws_szNet a 1048576) : Int) < 0))
  (.ret true)
  (let r1 : D.Net := laws_toNet a
   .grd (laws_toNet_pre a) (let r2 : D.Net × Int := spec_NetDouble r1 b
   .grd (spec_NetDouble_pre r1 b) (let r3 : D.Net := laws_toNet a
   .grd (laws_toNet_pre a) (let r4 : D.Net × Int := impl_NetDouble r3 b
   .grd (impl_NetDouble_pre r3 b) (.br (!(laws_eqNet r4.1 r2.1))
   (.ret false)
   (.br ((r4.2 : Int) != r2.2)
    (.ret false)
    (.both (let r5 : D.Net := laws_toNet a
      .grd (laws_toNet_pre a) (.br (!(laws_eqNet r3 r5))
      (.ret false)
      (let r6 : Int × (List D.Flight) := laws_markNet r3 1
       .br (decide ((r6.1 : Int) < 0))
       (.ret false)
       (.br (!(laws_eqNet r4.1 r2.1))
        (.ret false)
        (.br ((r4.2 : Int) != r2.2)
         (.ret false)
         (let r7 : Int × (List D.Flight) := laws_markNet r4.1 1
          .br (decide (((laws_heldNet (⟨r4.1.next, r7.2⟩ : D.Net) 1) : Int) < 0))
          (.ret false)
          (.br (((laws_heldNet (⟨r4.1.next, r7.2⟩ : D.Net) 1) : Int) != r7.1)
           (.ret false)
           (let r8 : D.Net := laws_toNet a
            .grd (laws_toNet_pre a) (let r9 : D.Net × Int := impl_NetDouble r8 b
            .grd (impl_NetDouble_pre r8 b) (.br (!(laws_eqNet r9.1 r2.1))
            (.ret false)
            (.br ((r9.2 : Int) != r2.2)
             (.ret false)
             (.br (decide (((laws_heldNet (⟨r4.1.next, r7.2⟩ : D.Net) 1) : Int) < 0))
              (.ret false)
              (.br (((laws_heldNet (⟨r4.1.next, r7.2⟩ : D.Net) 1) : Int) != r7.1)
               (.ret false)
               (.ret true))))))))))))))
     (.both (let r10 : D.Net := laws_toNet a
       .grd (laws_toNet_pre a) (.br (!(laws_eqNet r3 r10))
       (.ret false)
       (let r11 : Int × (List D.Flight) := laws_markNet r3 1
        .br (decide ((r11.1 : Int) < 0))
        (.ret false)
        (.br (!(laws_eqNet r4.1 r2.1))
         (.ret false)
         (.br ((r4.2 : Int) != r2.2)
          (.ret false)
          (let r12 : Int × (List D.Flight) := laws_markNet r4.1 1
           .br (decide (((laws_heldNet (⟨r4.1.next, r12.2⟩ : D.Net) 1) : Int) < 0))
           (.ret false)
           (.br (((laws_heldNet (⟨r4.1.next, r12.2⟩ : D.Net) 1) : Int) != r12.1)
            (.ret false)
            (let r13 : D.Net := laws_toNet a
             .grd (laws_toNet_pre a) (let r14 : D.Net × Int := impl_NetDouble r13 b
             .grd (impl_NetDouble_pre r13 b) (.br (!(laws_eqNet r14.1 r2.1))
             (.ret false)
             (.br ((r14.2 : Int) != r2.2)
              (.ret false)
              (.br (decide (((laws_heldNet (⟨r4.1.next, r12.2⟩ : D.Net) 1) : Int) < 0))
               (.ret false)
               (.br (((laws_heldNet (⟨r4.1.next, r12.2⟩ : D.Net) 1) : Int) != r12.1)
                (.ret false)
                (.ret true))))))))))))))
      (let r15 : D.Net := laws_toNet a
       .grd (laws_toNet_pre a) (.br (!(laws_eqNet r3 r15))
       (.ret false)
       (let r16 : Int × (List D.Flight) := laws_markNet r3 1
        .br (decide ((r16.1 : Int) < 0))
        (.ret false)
        (.br (!(laws_eqNet r4.1 r2.1))
         (.ret false)
         (.br ((r4.2 : Int) != r2.2)
          (.ret false)
          (let r17 : Int × (List D.Flight) := laws_markNet r4.1 1
           .br (decide (((laws_heldNet (⟨r4.1.next, r17.2⟩ : D.Net) 1) : Int) < 0))
           (.ret false)
           (.br (((laws_heldNet (⟨r4.1.next, r17.2⟩ : D.Net) 1) : Int) != r17.1)
            (.ret false)
            (let r18 : D.Net := laws_toNet a
             .grd (laws_toNet_pre a) (let r19 : D.Net × Int := impl_NetDouble r18 b
             .grd (impl_NetDouble_pre r18 b) (.br (!(laws_eqNet r19.1 r2.1))
             (.ret false)
             (.br ((r19.2 : Int) != r2.2)
              (.ret false)
              (.br (decide (((laws_heldNet (⟨r4.1.next, r17.2⟩ : D.Net) 1) : Int) < 0))
               (.ret false)
               (.br (((laws_heldNet (⟨r4.1.next, r17.2⟩ : D.Net) 1) : Int) != r17.1)
                (.ret false)
                (.ret true))))))))))))))))))))))
def laws_FnExactNetDouble (a : D.Net) (b : Int) : Bool := (laws_FnExactNetDouble_T a b).val
theorem laws_FnExactNetDouble_eqn (a : D.Net) (b : Int) : laws_FnExactNetDouble a b =
  bif (decide (((laws_szNet a 1048576) : Int) < 0)) then
  (true)
  else (let r1 : D.Net := laws_toNet a
   let r2 : D.Net × Int := spec_NetDouble r1 b
   let r3 : D.Net := laws_toNet a
   let r4 : D.Net × Int := impl_NetDouble r3 b
   bif (!(laws_eqNet r4.1 r2.1)) then
   (false)
   else (bif ((r4.2 : Int) != r2.2) then
    (false)
    else (let r5 : D.Net := laws_toNet a
     bif (!(laws_eqNet r3 r5)) then
     (false)
     else (let r6 : Int × (List D.Flight) := laws_markNet r3 1
      bif (decide ((r6.1 : Int) < 0)) then
      (false)
      else (bif (!(laws_eqNet r4.1 r2.1)) then
       (false)
       else (bif ((r4.2 : Int) != r2.2) then
        (false)
        else (let r7 : Int × (List D.Flight) := laws_markNet r4.1 1
         bif (decide (((laws_heldNet (⟨r4.1.next, r7.2⟩ : D.Net) 1) : Int) < 0)) then
         (false)
         else (bif (((laws_heldNet (⟨r4.1.next, r7.2⟩ : D.Net) 1) : Int) != r7.1) then
          (false)
          else (let r8 : D.Net := laws_toNet a
           let r9 : D.Net × Int := impl_NetDouble r8 b
           bif (!(laws_eqNet r9.1 r2.1)) then
           (false)
           else (bif ((r9.2 : Int) != r2.2) then
            (false)
            else (bif (decide (((laws_heldNet (⟨r4.1.next, r7.2⟩ : D.Net) 1) : Int) < 0)) then
             (false)
             else (bif (((laws_heldNet (⟨r4.1.next, r7.2⟩ : D.Net) 1) : Int) != r7.1) then
              (false)
              else (true))))))))))))) := by kernel_rfl
theorem laws_FnExactNetDouble_start (a : D.Net) (b : Int) (k : Nat) : bodyA V43 (run V43 k 9) 11 k [AV.agg (D.Net.cs a), AV.one (AC.int .i64 b)] [] isTrue =
  (laws_FnExactNetDouble_T a b).run (fun r => r) := by kernel_rfl
theorem laws_FnExactNetDouble_safe (a : D.Net) (b : Int) (ok_a : D.Net.ok a) (ok_b : i64 b) : (laws_FnExactNetDouble_T a b).safe := by
  have hml := maxLen_eq
  have hmr := maxRows_eq
  have q_a_list := (ok_a.2).1
  have hz := szNet_le a 1048576 q_a_list (by omega) (by omega)
  have hml := maxLen_eq
  have hmr := maxRows_eq
  simp only [laws_FnExactNetDouble_T, T.safe, and_true, true_and, implies_true, bne_eq_false_iff_eq, beq_iff_eq, decide_eq_false_iff_not, decide_eq_true_eq, Bool.and_eq_true, Bool.or_eq_false_iff, Bool.not_eq_eq_eq_not, Bool.not_true, Bool.not_false, beq_eq_false_iff_ne, bne_iff_ne, List.length_replicate, Int.toNat_natCast, List.length_set, List.length_map, List.length_append, List.length_cons, List.length_nil, List.length_take, List.length_drop, Nat.ble_eq, spec_l1In, spec_l1In_T, T.val, Bool.cond_eq_ite, spec_l5Copy_pre, l5Copy_eq, spec_NetTake_pre, spec_NetDrop_pre, laws_toFlightS_pre, laws_toNet_pre, toNet_eq, impl_in, impl_in_T, slices_Clone_Flight_pre, Clone_Flight_eq, impl_Net_own_pre, impl_Net_refused_pre, impl_NetDrop_pre, impl_NetTake_pre, spec_NetSend_pre, spec_NetDouble_pre, impl_Net_put_pre, impl_NetDouble_pre]
  repeat' (first | exact trivial | apply And.intro | intro _)
  all_goals first | omega | (simp_all; done) | (simp_all; omega)
theorem laws_FnExactNetDouble_true (a : D.Net) (b : Int) (ok_a : D.Net.ok a) (ok_b : i64 b) (h : laws_FnExactNetDouble a b = true) : bodyA V43 (run V43 (0) 9) 11 (0) [AV.agg (D.Net.cs a), AV.one (AC.int .i64 b)] [] isTrue = true := by
  rw [laws_FnExactNetDouble_start]
  exact T.run_true (laws_FnExactNetDouble_safe a b ok_a ok_b) h
end Go.X
