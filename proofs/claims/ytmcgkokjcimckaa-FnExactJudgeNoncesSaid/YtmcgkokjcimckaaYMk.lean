/- A row made of plain cells is what its cells say. -/
import Derived.Test.YtmcgkokjcimckaaYOps
set_option linter.all false
namespace Go.X
open Go
set_option linter.unusedSimpArgs false
theorem plainL_len : ∀ {ts : List CT} {xs : List AC}, plainL ts xs = true → xs.length = ts.length
  | [], [], _ => rfl
  | _ :: ts, _ :: xs, h => by
    simp only [plainL, Bool.and_eq_true] at h
    simp [plainL_len h.2]
  | [], _ :: _, h => by cases h
  | _ :: _, [], h => by cases h
theorem pl_int {k : IntKind} {x : AC} (h : plainC (.int k) x = true) : AC.int k x.toInt = x := by
  cases x <;> simp_all [plainC, AC.toInt]
theorem pl_bool {x : AC} (h : plainC .bool x = true) : AC.bool x.toBool = x := by
  cases x <;> simp_all [plainC, AC.toBool]
theorem pl_str {x : AC} (h : plainC .str x = true) : AC.str x.toStr = x := by
  cases x <;> simp_all [plainC, AC.toStr]
theorem pl_u8 {c : Cx} {x : AC} {v : Value} (h : plainC (.int .u8) x = true) (hv : CRel c x v) : AC.int .u8 (x.toU8.toNat : Int) = x := by
  cases x <;> simp only [plainC, decide_eq_true_eq, Bool.false_eq_true] at h
  subst h
  cases hv with
  | int h =>
    rw [wf_iff] at h
    simp [IntKind.min, IntKind.max, IntKind.signed, IntKind.bits] at h
    simp only [AC.toU8, UInt8.toNat_ofNat']
    congr 1
    omega
theorem pl_flights {x : AC} (h : plainC (.sl .flight) x = true) : AC.dat .flight x.toFlights = x := by
  cases x with
  | dat d l =>
    simp only [plainC, decide_eq_true_eq] at h
    subst h
    rfl
  | _ => simp [plainC] at h
theorem pl_asks {x : AC} (h : plainC (.sl .ask) x = true) : AC.dat .ask x.toAsks = x := by
  cases x with
  | dat d l =>
    simp only [plainC, decide_eq_true_eq] at h
    subst h
    rfl
  | _ => simp [plainC] at h
theorem pl_slots {x : AC} (h : plainC (.sl .slot) x = true) : AC.dat .slot x.toSlots = x := by
  cases x with
  | dat d l =>
    simp only [plainC, decide_eq_true_eq] at h
    subst h
    rfl
  | _ => simp [plainC] at h
theorem pl_peers {x : AC} (h : plainC (.sl .peer) x = true) : AC.dat .peer x.toPeers = x := by
  cases x with
  | dat d l =>
    simp only [plainC, decide_eq_true_eq] at h
    subst h
    rfl
  | _ => simp [plainC] at h
theorem pl_heards {x : AC} (h : plainC (.sl .heard) x = true) : AC.dat .heard x.toHeards = x := by
  cases x with
  | dat d l =>
    simp only [plainC, decide_eq_true_eq] at h
    subst h
    rfl
  | _ => simp [plainC] at h
theorem pl_bools {x : AC} (h : plainC (.sl .bool) x = true) : AC.dat .bool x.toBools = x := by
  cases x with
  | dat d l =>
    simp only [plainC, decide_eq_true_eq] at h
    subst h
    rfl
  | _ => simp [plainC] at h
theorem pl_ints {x : AC} (h : plainC (.sl .int) x = true) : AC.dat .int x.toInts = x := by
  cases x with
  | dat d l =>
    simp only [plainC, decide_eq_true_eq] at h
    subst h
    rfl
  | _ => simp [plainC] at h
theorem pl_nodes {x : AC} (h : plainC (.sl .node) x = true) : AC.dat .node x.toNodes = x := by
  cases x with
  | dat d l =>
    simp only [plainC, decide_eq_true_eq] at h
    subst h
    rfl
  | _ => simp [plainC] at h
theorem pl_frames {x : AC} (h : plainC (.sl .frame) x = true) : AC.dat .frame x.toFrames = x := by
  cases x with
  | dat d l =>
    simp only [plainC, decide_eq_true_eq] at h
    subst h
    rfl
  | _ => simp [plainC] at h
theorem enc_mk {c : Cx} (d : Cd) (cs : List AC) (h : plainL (cts d) cs = true) (hr : ∀ (i : Nat) (x : AC), cs[i]? = some x → ∃ v, CRel c x v) : enc d (mk d cs) = cs := by
  cases d with
  | int =>
    have hl := plainL_len h
    match cs, hl, h with
    | [x0], _, h =>
      simp only [plainL, cts, Bool.and_eq_true, and_true] at h
      have h0 := h
      simp only [enc, mk, nth, List.getD_cons_zero, List.getD_cons_succ, pl_int h0]
  | byte =>
    have hl := plainL_len h
    match cs, hl, h with
    | [x0], _, h =>
      simp only [plainL, cts, Bool.and_true] at h
      obtain ⟨v, hv⟩ := hr 0 x0 rfl
      simp only [enc, mk, nth, List.getD_cons_zero, pl_u8 h hv]
  | bool =>
    have hl := plainL_len h
    match cs, hl, h with
    | [x0], _, h =>
      simp only [plainL, cts, Bool.and_eq_true, and_true] at h
      have h0 := h
      simp only [enc, mk, nth, List.getD_cons_zero, List.getD_cons_succ, pl_bool h0]
  | str =>
    have hl := plainL_len h
    match cs, hl, h with
    | [x0], _, h =>
      simp only [plainL, cts, Bool.and_eq_true, and_true] at h
      have h0 := h
      simp only [enc, mk, nth, List.getD_cons_zero, List.getD_cons_succ, pl_str h0]
  | ival =>
    have hl := plainL_len h
    match cs, hl, h with
    | [x0, x1], _, h =>
      simp only [plainL, cts, Bool.and_eq_true, and_true] at h
      obtain ⟨h0, h1⟩ := h
      simp only [enc, mk, nth, D.Ival.cs, List.getD_cons_zero, List.getD_cons_succ, pl_int h0, pl_int h1]
  | stride =>
    have hl := plainL_len h
    match cs, hl, h with
    | [x0, x1], _, h =>
      simp only [plainL, cts, Bool.and_eq_true, and_true] at h
      obtain ⟨h0, h1⟩ := h
      simp only [enc, mk, nth, D.Stride.cs, List.getD_cons_zero, List.getD_cons_succ, pl_int h0, pl_int h1]
  | mark =>
    have hl := plainL_len h
    match cs, hl, h with
    | [x0, x1], _, h =>
      simp only [plainL, cts, Bool.and_eq_true, and_true] at h
      obtain ⟨h0, h1⟩ := h
      simp only [enc, mk, nth, D.Mark.cs, List.getD_cons_zero, List.getD_cons_succ, pl_int h0, pl_int h1]
  | msg =>
    have hl := plainL_len h
    match cs, hl, h with
    | [x0, x1, x2, x3, x4, x5, x6, x7], _, h =>
      simp only [plainL, cts, Bool.and_eq_true, and_true] at h
      obtain ⟨h0, h1, h2, h3, h4, h5, h6, h7⟩ := h
      simp only [enc, mk, nth, D.Msg.cs, List.getD_cons_zero, List.getD_cons_succ, pl_int h0, pl_int h1, pl_int h2, pl_int h3, pl_int h4, pl_int h5, pl_int h6, pl_str h7]
  | flight =>
    have hl := plainL_len h
    match cs, hl, h with
    | [x0, x1, x2, x3, x4], _, h =>
      simp only [plainL, cts, Bool.and_eq_true, and_true] at h
      obtain ⟨h0, h1, h2, h3, h4⟩ := h
      simp only [enc, mk, nth, D.Flight.cs, List.getD_cons_zero, List.getD_cons_succ, pl_int h0, pl_int h1, pl_int h2, pl_str h3, pl_int h4]
  | ask =>
    have hl := plainL_len h
    match cs, hl, h with
    | [x0, x1, x2, x3], _, h =>
      simp only [plainL, cts, Bool.and_eq_true, and_true] at h
      obtain ⟨h0, h1, h2, h3⟩ := h
      simp only [enc, mk, nth, D.Ask.cs, List.getD_cons_zero, List.getD_cons_succ, pl_int h0, pl_int h1, pl_int h2, pl_int h3]
  | trip =>
    have hl := plainL_len h
    match cs, hl, h with
    | [x0, x1, x2, x3, x4], _, h =>
      simp only [plainL, cts, Bool.and_eq_true, and_true] at h
      obtain ⟨h0, h1, h2, h3, h4⟩ := h
      simp only [enc, mk, nth, D.Trip.cs, List.getD_cons_zero, List.getD_cons_succ, pl_int h0, pl_int h1, pl_int h2, pl_int h3, pl_int h4]
  | peer =>
    have hl := plainL_len h
    match cs, hl, h with
    | [x0, x1, x2, x3, x4], _, h =>
      simp only [plainL, cts, Bool.and_eq_true, and_true] at h
      obtain ⟨h0, h1, h2, h3, h4⟩ := h
      simp only [enc, mk, nth, D.Peer.cs, List.getD_cons_zero, List.getD_cons_succ, pl_int h0, pl_int h1, pl_int h2, pl_int h3, pl_bool h4]
  | look =>
    have hl := plainL_len h
    match cs, hl, h with
    | [x0, x1, x2], _, h =>
      simp only [plainL, cts, Bool.and_eq_true, and_true] at h
      obtain ⟨h0, h1, h2⟩ := h
      simp only [enc, mk, nth, D.Look.cs, List.getD_cons_zero, List.getD_cons_succ, pl_bool h0, pl_int h1, pl_int h2]
  | reading =>
    have hl := plainL_len h
    match cs, hl, h with
    | [x0, x1, x2], _, h =>
      simp only [plainL, cts, Bool.and_eq_true, and_true] at h
      obtain ⟨h0, h1, h2⟩ := h
      simp only [enc, mk, nth, D.Reading.cs, List.getD_cons_zero, List.getD_cons_succ, pl_int h0, pl_bool h1, pl_int h2]
  | slot =>
    have hl := plainL_len h
    match cs, hl, h with
    | [x0, x1], _, h =>
      simp only [plainL, cts, Bool.and_eq_true, and_true] at h
      obtain ⟨h0, h1⟩ := h
      simp only [enc, mk, nth, D.Slot.cs, List.getD_cons_zero, List.getD_cons_succ, pl_int h0, pl_int h1]
  | frame =>
    have hl := plainL_len h
    match cs, hl, h with
    | [x0, x1, x2, x3, x4, x5], _, h =>
      simp only [plainL, cts, Bool.and_eq_true, and_true] at h
      obtain ⟨h0, h1, h2, h3, h4, h5⟩ := h
      simp only [enc, mk, nth, D.Frame.cs, List.getD_cons_zero, List.getD_cons_succ, pl_int h0, pl_int h1, pl_int h2, pl_int h3, pl_int h4, pl_str h5]
  | clash =>
    have hl := plainL_len h
    match cs, hl, h with
    | [x0, x1], _, h =>
      simp only [plainL, cts, Bool.and_eq_true, and_true] at h
      obtain ⟨h0, h1⟩ := h
      simp only [enc, mk, nth, D.Clash.cs, List.getD_cons_zero, List.getD_cons_succ, pl_int h0, pl_int h1]
  | heard =>
    have hl := plainL_len h
    match cs, hl, h with
    | [x0, x1], _, h =>
      simp only [plainL, cts, Bool.and_eq_true, and_true] at h
      obtain ⟨h0, h1⟩ := h
      simp only [enc, mk, nth, D.Heard.cs, List.getD_cons_zero, List.getD_cons_succ, pl_int h0, pl_int h1]
  | event =>
    have hl := plainL_len h
    match cs, hl, h with
    | [x0, x1], _, h =>
      simp only [plainL, cts, Bool.and_eq_true, and_true] at h
      obtain ⟨h0, h1⟩ := h
      simp only [enc, mk, nth, D.Event.cs, List.getD_cons_zero, List.getD_cons_succ, pl_int h0, pl_int h1]
  | node =>
    have hl := plainL_len h
    match cs, hl, h with
    | [x0, x1, x2, x3, x4, x5, x6, x7, x8, x9, x10, x11, x12, x13, x14, x15], _, h =>
      simp only [plainL, cts, Bool.and_eq_true, and_true] at h
      obtain ⟨h0, h1, h2, h3, h4, h5, h6, h7, h8, h9, h10, h11, h12, h13, h14, h15⟩ := h
      simp only [enc, mk, nth, D.Node.cs, List.getD_cons_zero, List.getD_cons_succ, pl_int h0, pl_int h1, pl_int h2, pl_int h3, pl_bool h4, pl_int h5, pl_int h6, pl_int h7, pl_int h8, pl_int h9, pl_asks h10, pl_peers h11, pl_bool h12, pl_int h13, pl_heards h14, pl_int h15]
  | op =>
    have hl := plainL_len h
    match cs, hl, h with
    | [x0, x1, x2, x3, x4, x5, x6], _, h =>
      simp only [plainL, cts, Bool.and_eq_true, and_true] at h
      obtain ⟨h0, h1, h2, h3, h4, h5, h6⟩ := h
      simp only [enc, mk, nth, D.Op.cs, List.getD_cons_zero, List.getD_cons_succ, pl_int h0, pl_int h1, pl_int h2, pl_int h3, pl_int h4, pl_str h5, pl_ints h6]
  | told =>
    have hl := plainL_len h
    match cs, hl, h with
    | [x0, x1, x2, x3, x4, x5, x6, x7, x8, x9], _, h =>
      simp only [plainL, cts, Bool.and_eq_true, and_true] at h
      obtain ⟨h0, h1, h2, h3, h4, h5, h6, h7, h8, h9⟩ := h
      simp only [enc, mk, nth, D.Told.cs, List.getD_cons_zero, List.getD_cons_succ, pl_int h0, pl_int h1, pl_int h2, pl_int h3, pl_bool h4, pl_bool h5, pl_int h6, pl_int h7, pl_int h8, pl_int h9]
end Go.X
