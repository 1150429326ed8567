/- Plain laws of loops over lists: nothing of the program. -/
import Derived.Test.YtmcgkokjcimckaaYTree
set_option linter.all false
namespace Go.X
open Go
set_option linter.unusedVariables false
set_option linter.unusedSimpArgs false

theorem elem_set {c : Cd} {l : List (den c)} {n : Nat} (x : den c) (h : n < l.length) : elem c (l.set n x) n = x := by
  simp [elem, List.getD_eq_getElem?_getD, h]

/-- A loop that changes nothing. -/
theorem forL_same_at {α σ ρ : Type} {body : Int → α → σ → S σ ρ} {done : σ → ρ} {s : σ} {l : List α} (h : ∀ (i : Nat) x, l[i]? = some x → body i x s = .on s) :
    ∀ (r : List α) (i : Nat), l.drop i = r → forL body done r i s = done s
  | [], _, _ => rfl
  | x :: r, i, hr => by
    have hx : l[i]? = some x := by
      have := congrArg (fun z => z[0]?) hr
      simpa using this
    simp only [forL, h i x hx]
    refine forL_same_at h r (i + 1) ?_
    have := congrArg List.tail hr
    simpa using this
theorem forL_same {α σ ρ : Type} {body : Int → α → σ → S σ ρ} {done : σ → ρ} {s : σ} {l : List α} (h : ∀ (i : Nat) x, l[i]? = some x → body i x s = .on s) :
    forL body done l 0 s = done s := forL_same_at h l 0 rfl

/-- Each place set to what is made of the row there. -/
theorem forL_map_at {α β ρ : Type} {body : Int → α → List β → S (List β) ρ} {done : List β → ρ} (f : α → β)
    (h : ∀ (i : Nat) x s, i < s.length → body i x s = .on (s.set i (f x))) :
    ∀ (r : List α) (i : Nat) (s : List β), i + r.length = s.length → forL body done r i s = done (s.take i ++ r.map f)
  | [], i, s, hl => by
    simp only [List.length_nil, Nat.add_zero] at hl
    subst hl
    simp [forL]
  | x :: r, i, s, hl => by
    simp only [List.length_cons] at hl
    simp only [forL, h i x s (by omega)]
    have := forL_map_at (done := done) f h r (i + 1) (s.set i (f x)) (by simp; omega)
    rw [show ((i : Int) + 1) = ((i + 1 : Nat) : Int) by omega, this]
    congr 1
    rw [List.take_add_one, List.take_set_of_le (Nat.le_refl _)]
    simp [List.getElem?_set, show i < s.length by omega]
theorem forL_map {α β ρ : Type} {body : Int → α → List β → S (List β) ρ} {done : List β → ρ} (f : α → β)
    (h : ∀ (i : Nat) x s, i < s.length → body i x s = .on (s.set i (f x))) {l : List α} {s : List β} (hl : l.length = s.length) :
    forL body done l 0 s = done (l.map f) := by
  have := forL_map_at (done := done) f h l 0 s (by omega)
  simpa using this

theorem forL_congr {α σ ρ : Type} {body body' : Int → α → σ → S σ ρ} {done done' : σ → ρ} (h : ∀ i x s, body i x s = body' i x s) (hd : ∀ s, done s = done' s) (l : List α) (i : Int) (s : σ) :
    forL body done l i s = forL body' done' l i s := by
  rw [show body = body' from funext fun i => funext fun x => funext fun s => h i x s, show done = done' from funext hd]

/-- What is so of the state all along is so at the end. -/
theorem forL_ind {α σ ρ : Type} {body : Int → α → σ → S σ ρ} {done : σ → ρ} (inv : Int → σ → Prop) (Q : ρ → Prop)
    (hb : ∀ i x s, inv i s → (∀ s', body i x s = .on s' → inv (i + 1) s') ∧ ∀ r, body i x s = .out r → Q r) :
    ∀ (l : List α) (i : Int) (s : σ), inv i s → (∀ s, inv (i + l.length) s → Q (done s)) → Q (forL body done l i s)
  | [], i, s, hi, hd => hd s (by simpa using hi)
  | x :: l, i, s, hi, hd => by
    simp only [forL]
    cases hv : body i x s with
    | on s' => exact forL_ind inv Q hb l (i + 1) s' ((hb i x s hi).1 s' hv) (fun s hs => hd s (by rw [show i + ((x :: l).length : Int) = i + 1 + (l.length : Int) by simp; omega]; exact hs))
    | out r => exact (hb i x s hi).2 r hv

/-! marks -/
def S.get {σ ρ : Type} (d : σ) : S σ ρ → σ
  | .on s => s
  | .out _ => d
def nxtOf {α ρ : Type} (body : Int → Int × List α → S (Int × List α) ρ) (z : α) (k : Int) : Int := (S.get (0, []) (body 0 (k, [z]))).1
def rowOf {α ρ : Type} (body : Int → Int × List α → S (Int × List α) ρ) (z : α) (k : Int) : α := ((S.get (0, []) (body 0 (k, [z]))).2).getD 0 z
def itK (nxt : Int → Int) : Nat → Int → Int
  | 0, k => k
  | n + 1, k => itK nxt n (nxt k)
def rowsK {α : Type} (nxt : Int → Int) (row : Int → α) : Nat → Int → List α
  | 0, _ => []
  | n + 1, k => row k :: rowsK nxt row n (nxt k)
theorem rowsK_length {α : Type} (nxt : Int → Int) (row : Int → α) : ∀ n k, (rowsK nxt row n k).length = n
  | 0, _ => rfl
  | n + 1, k => by simp [rowsK, rowsK_length nxt row n]
theorem forN_mark {α ρ : Type} {body : Int → Int × List α → S (Int × List α) ρ} {done : Int × List α → ρ} {nxt : Int → Int} {row : Int → α}
    (hb : ∀ (i : Nat) k (l : List α), i < l.length → body i (k, l) = .on (nxt k, l.set i (row k))) :
    ∀ (n i : Nat) (k : Int) (l : List α), i + n = l.length → forN body done n i (k, l) = done (itK nxt n k, l.take i ++ rowsK nxt row n k)
  | 0, i, k, l, hl => by
    have : i = l.length := by omega
    subst this
    simp [forN, itK, rowsK]
  | n + 1, i, k, l, hl => by
    simp only [forN, hb i k l (by omega)]
    rw [show ((i : Int) + 1) = ((i + 1 : Nat) : Int) by omega, forN_mark hb n (i + 1) (nxt k) (l.set i (row k)) (by simp; omega)]
    congr 1
    simp only [itK, rowsK, Prod.mk.injEq, true_and]
    rw [List.take_add_one, List.take_set_of_le (Nat.le_refl _)]
    simp [List.getElem?_set, show i < l.length by omega]
theorem forL_held {α ρ : Type} {body : Int → α → Int → S Int ρ} {done : Int → ρ} {nxt : Int → Int} {row : Int → α}
    (hb : ∀ i k, body i (row k) k = .on (nxt k)) : ∀ (n : Nat) (i k : Int), forL body done (rowsK nxt row n k) i k = done (itK nxt n k)
  | 0, i, k => rfl
  | n + 1, i, k => by simp only [rowsK, forL, hb, itK, forL_held hb n]
theorem itK_lin {nxt : Int → Int} (w : Int) (hw : 0 ≤ w) (h : ∀ k, 0 ≤ k → k ≤ 4611686018427387904 → nxt k = k + w) : ∀ (n : Nat) (k : Int), 0 ≤ k → k + w * n ≤ 4611686018427387904 → itK nxt n k = k + w * n
  | 0, k, _, _ => by simp [itK]
  | n + 1, k, h0, hk => by
    have e : w * ((n + 1 : Nat) : Int) = w * n + w := by rw [Int.natCast_add, Int.mul_add]; simp
    rw [e] at hk ⊢
    have hn : 0 ≤ w * (n : Int) := Int.mul_nonneg hw (by omega)
    simp only [itK]
    rw [h k h0 (by omega), itK_lin w hw h n (k + w) (by omega) (by omega)]
    omega
end Go.X
