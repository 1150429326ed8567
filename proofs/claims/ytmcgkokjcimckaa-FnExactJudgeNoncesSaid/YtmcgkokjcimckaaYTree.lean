/- A tree of tests comes to its value, where its guards hold; loops over lists and numbers come to their folds. -/
import Derived.Test.YtmcgkokjcimckaaYData
set_option linter.all false
namespace Go.X
open Go
set_option linter.unusedVariables false

def D.Ival.mkS (l : List AC) : D.Ival := ⟨(nth l 0).toInt, (nth l 1).toInt⟩
def D.Ival.dec (l : List AC) : Option D.Ival := match plainL D.Ival.ct l with | true => some (D.Ival.mkS l) | false => none
theorem D.Ival.dec_ok {l : List AC} {x : D.Ival} (h : D.Ival.dec l = some x) : l = D.Ival.cs x := by
  unfold D.Ival.dec at h
  split at h
  · rename_i hp
    cases h
    have h := hp
    have hl := plainL_len h
    match l, hl, h with
    | [x0, x1], _, h =>
      simp only [plainL, Bool.and_eq_true, and_true] at h
      obtain ⟨h0, h1⟩ := h
      simp only [D.Ival.mkS, nth, List.getD_cons_zero, List.getD_cons_succ, D.Ival.cs, pl_int h0, pl_int h1]
  · cases h
def D.Drift.mkS (l : List AC) : D.Drift := ⟨(nth l 0).toInt, (nth l 1).toInt⟩
def D.Drift.dec (l : List AC) : Option D.Drift := match plainL D.Drift.ct l with | true => some (D.Drift.mkS l) | false => none
theorem D.Drift.dec_ok {l : List AC} {x : D.Drift} (h : D.Drift.dec l = some x) : l = D.Drift.cs x := by
  unfold D.Drift.dec at h
  split at h
  · rename_i hp
    cases h
    have h := hp
    have hl := plainL_len h
    match l, hl, h with
    | [x0, x1], _, h =>
      simp only [plainL, Bool.and_eq_true, and_true] at h
      obtain ⟨h0, h1⟩ := h
      simp only [D.Drift.mkS, nth, List.getD_cons_zero, List.getD_cons_succ, D.Drift.cs, pl_int h0, pl_int h1]
  · cases h
def D.Osc.mkS (l : List AC) : D.Osc := ⟨⟨(nth l 0).toInt, (nth l 1).toInt⟩, (nth l 2).toInt, (nth l 3).toInt⟩
def D.Osc.dec (l : List AC) : Option D.Osc := match plainL D.Osc.ct l with | true => some (D.Osc.mkS l) | false => none
theorem D.Osc.dec_ok {l : List AC} {x : D.Osc} (h : D.Osc.dec l = some x) : l = D.Osc.cs x := by
  unfold D.Osc.dec at h
  split at h
  · rename_i hp
    cases h
    have h := hp
    have hl := plainL_len h
    match l, hl, h with
    | [x0, x1, x2, x3], _, h =>
      simp only [plainL, Bool.and_eq_true, and_true] at h
      obtain ⟨h0, h1, h2, h3⟩ := h
      simp only [D.Osc.mkS, nth, List.getD_cons_zero, List.getD_cons_succ, D.Osc.cs, pl_int h0, pl_int h1, pl_int h2, pl_int h3]
  · cases h
def D.Stride.mkS (l : List AC) : D.Stride := ⟨(nth l 0).toInt, (nth l 1).toInt⟩
def D.Stride.dec (l : List AC) : Option D.Stride := match plainL D.Stride.ct l with | true => some (D.Stride.mkS l) | false => none
theorem D.Stride.dec_ok {l : List AC} {x : D.Stride} (h : D.Stride.dec l = some x) : l = D.Stride.cs x := by
  unfold D.Stride.dec at h
  split at h
  · rename_i hp
    cases h
    have h := hp
    have hl := plainL_len h
    match l, hl, h with
    | [x0, x1], _, h =>
      simp only [plainL, Bool.and_eq_true, and_true] at h
      obtain ⟨h0, h1⟩ := h
      simp only [D.Stride.mkS, nth, List.getD_cons_zero, List.getD_cons_succ, D.Stride.cs, pl_int h0, pl_int h1]
  · cases h
def D.Mark.mkS (l : List AC) : D.Mark := ⟨(nth l 0).toInt, (nth l 1).toInt⟩
def D.Mark.dec (l : List AC) : Option D.Mark := match plainL D.Mark.ct l with | true => some (D.Mark.mkS l) | false => none
theorem D.Mark.dec_ok {l : List AC} {x : D.Mark} (h : D.Mark.dec l = some x) : l = D.Mark.cs x := by
  unfold D.Mark.dec at h
  split at h
  · rename_i hp
    cases h
    have h := hp
    have hl := plainL_len h
    match l, hl, h with
    | [x0, x1], _, h =>
      simp only [plainL, Bool.and_eq_true, and_true] at h
      obtain ⟨h0, h1⟩ := h
      simp only [D.Mark.mkS, nth, List.getD_cons_zero, List.getD_cons_succ, D.Mark.cs, pl_int h0, pl_int h1]
  · cases h
def D.Msg.mkS (l : List AC) : D.Msg := ⟨(nth l 0).toInt, (nth l 1).toInt, (nth l 2).toInt, (nth l 3).toInt, ⟨(nth l 4).toInt, (nth l 5).toInt⟩, (nth l 6).toInt, (nth l 7).toStr⟩
def D.Msg.dec (l : List AC) : Option D.Msg := match plainL D.Msg.ct l with | true => some (D.Msg.mkS l) | false => none
theorem D.Msg.dec_ok {l : List AC} {x : D.Msg} (h : D.Msg.dec l = some x) : l = D.Msg.cs x := by
  unfold D.Msg.dec at h
  split at h
  · rename_i hp
    cases h
    have h := hp
    have hl := plainL_len h
    match l, hl, h with
    | [x0, x1, x2, x3, x4, x5, x6, x7], _, h =>
      simp only [plainL, Bool.and_eq_true, and_true] at h
      obtain ⟨h0, h1, h2, h3, h4, h5, h6, h7⟩ := h
      simp only [D.Msg.mkS, nth, List.getD_cons_zero, List.getD_cons_succ, D.Msg.cs, pl_int h0, pl_int h1, pl_int h2, pl_int h3, pl_int h4, pl_int h5, pl_int h6, pl_str h7]
  · cases h
def D.Flight.mkS (l : List AC) : D.Flight := ⟨(nth l 0).toInt, (nth l 1).toInt, (nth l 2).toInt, (nth l 3).toStr, (nth l 4).toInt⟩
def D.Flight.dec (l : List AC) : Option D.Flight := match plainL D.Flight.ct l with | true => some (D.Flight.mkS l) | false => none
theorem D.Flight.dec_ok {l : List AC} {x : D.Flight} (h : D.Flight.dec l = some x) : l = D.Flight.cs x := by
  unfold D.Flight.dec at h
  split at h
  · rename_i hp
    cases h
    have h := hp
    have hl := plainL_len h
    match l, hl, h with
    | [x0, x1, x2, x3, x4], _, h =>
      simp only [plainL, Bool.and_eq_true, and_true] at h
      obtain ⟨h0, h1, h2, h3, h4⟩ := h
      simp only [D.Flight.mkS, nth, List.getD_cons_zero, List.getD_cons_succ, D.Flight.cs, pl_int h0, pl_int h1, pl_int h2, pl_str h3, pl_int h4]
  · cases h
def D.Net.mkS (l : List AC) : D.Net := ⟨(nth l 0).toInt, (nth l 1).toFlights⟩
def D.Net.dec (l : List AC) : Option D.Net := match plainL D.Net.ct l with | true => some (D.Net.mkS l) | false => none
theorem D.Net.dec_ok {l : List AC} {x : D.Net} (h : D.Net.dec l = some x) : l = D.Net.cs x := by
  unfold D.Net.dec at h
  split at h
  · rename_i hp
    cases h
    have h := hp
    have hl := plainL_len h
    match l, hl, h with
    | [x0, x1], _, h =>
      simp only [plainL, Bool.and_eq_true, and_true] at h
      obtain ⟨h0, h1⟩ := h
      simp only [D.Net.mkS, nth, List.getD_cons_zero, List.getD_cons_succ, D.Net.cs, pl_int h0, pl_flights h1]
  · cases h
def D.Local.mkS (l : List AC) : D.Local := ⟨(nth l 0).toBool, ⟨(nth l 1).toInt, (nth l 2).toInt⟩, (nth l 3).toInt⟩
def D.Local.dec (l : List AC) : Option D.Local := match plainL D.Local.ct l with | true => some (D.Local.mkS l) | false => none
theorem D.Local.dec_ok {l : List AC} {x : D.Local} (h : D.Local.dec l = some x) : l = D.Local.cs x := by
  unfold D.Local.dec at h
  split at h
  · rename_i hp
    cases h
    have h := hp
    have hl := plainL_len h
    match l, hl, h with
    | [x0, x1, x2, x3], _, h =>
      simp only [plainL, Bool.and_eq_true, and_true] at h
      obtain ⟨h0, h1, h2, h3⟩ := h
      simp only [D.Local.mkS, nth, List.getD_cons_zero, List.getD_cons_succ, D.Local.cs, pl_bool h0, pl_int h1, pl_int h2, pl_int h3]
  · cases h
def D.Ask.mkS (l : List AC) : D.Ask := ⟨(nth l 0).toInt, (nth l 1).toInt, (nth l 2).toInt, (nth l 3).toInt⟩
def D.Ask.dec (l : List AC) : Option D.Ask := match plainL D.Ask.ct l with | true => some (D.Ask.mkS l) | false => none
theorem D.Ask.dec_ok {l : List AC} {x : D.Ask} (h : D.Ask.dec l = some x) : l = D.Ask.cs x := by
  unfold D.Ask.dec at h
  split at h
  · rename_i hp
    cases h
    have h := hp
    have hl := plainL_len h
    match l, hl, h with
    | [x0, x1, x2, x3], _, h =>
      simp only [plainL, Bool.and_eq_true, and_true] at h
      obtain ⟨h0, h1, h2, h3⟩ := h
      simp only [D.Ask.mkS, nth, List.getD_cons_zero, List.getD_cons_succ, D.Ask.cs, pl_int h0, pl_int h1, pl_int h2, pl_int h3]
  · cases h
def D.Table.mkS (l : List AC) : D.Table := ⟨(nth l 0).toInt, (nth l 1).toInt, (nth l 2).toAsks⟩
def D.Table.dec (l : List AC) : Option D.Table := match plainL D.Table.ct l with | true => some (D.Table.mkS l) | false => none
theorem D.Table.dec_ok {l : List AC} {x : D.Table} (h : D.Table.dec l = some x) : l = D.Table.cs x := by
  unfold D.Table.dec at h
  split at h
  · rename_i hp
    cases h
    have h := hp
    have hl := plainL_len h
    match l, hl, h with
    | [x0, x1, x2], _, h =>
      simp only [plainL, Bool.and_eq_true, and_true] at h
      obtain ⟨h0, h1, h2⟩ := h
      simp only [D.Table.mkS, nth, List.getD_cons_zero, List.getD_cons_succ, D.Table.cs, pl_int h0, pl_int h1, pl_asks h2]
  · cases h
def D.Trip.mkS (l : List AC) : D.Trip := ⟨(nth l 0).toInt, ⟨(nth l 1).toInt, (nth l 2).toInt⟩, (nth l 3).toInt, (nth l 4).toInt⟩
def D.Trip.dec (l : List AC) : Option D.Trip := match plainL D.Trip.ct l with | true => some (D.Trip.mkS l) | false => none
theorem D.Trip.dec_ok {l : List AC} {x : D.Trip} (h : D.Trip.dec l = some x) : l = D.Trip.cs x := by
  unfold D.Trip.dec at h
  split at h
  · rename_i hp
    cases h
    have h := hp
    have hl := plainL_len h
    match l, hl, h with
    | [x0, x1, x2, x3, x4], _, h =>
      simp only [plainL, Bool.and_eq_true, and_true] at h
      obtain ⟨h0, h1, h2, h3, h4⟩ := h
      simp only [D.Trip.mkS, nth, List.getD_cons_zero, List.getD_cons_succ, D.Trip.cs, pl_int h0, pl_int h1, pl_int h2, pl_int h3, pl_int h4]
  · cases h
def D.Peer.mkS (l : List AC) : D.Peer := ⟨(nth l 0).toInt, ⟨(nth l 1).toInt, (nth l 2).toInt⟩, (nth l 3).toInt, (nth l 4).toBool⟩
def D.Peer.dec (l : List AC) : Option D.Peer := match plainL D.Peer.ct l with | true => some (D.Peer.mkS l) | false => none
theorem D.Peer.dec_ok {l : List AC} {x : D.Peer} (h : D.Peer.dec l = some x) : l = D.Peer.cs x := by
  unfold D.Peer.dec at h
  split at h
  · rename_i hp
    cases h
    have h := hp
    have hl := plainL_len h
    match l, hl, h with
    | [x0, x1, x2, x3, x4], _, h =>
      simp only [plainL, Bool.and_eq_true, and_true] at h
      obtain ⟨h0, h1, h2, h3, h4⟩ := h
      simp only [D.Peer.mkS, nth, List.getD_cons_zero, List.getD_cons_succ, D.Peer.cs, pl_int h0, pl_int h1, pl_int h2, pl_int h3, pl_bool h4]
  · cases h
def D.Frac.mkS (l : List AC) : D.Frac := ⟨(nth l 0).toInt, (nth l 1).toInt⟩
def D.Frac.dec (l : List AC) : Option D.Frac := match plainL D.Frac.ct l with | true => some (D.Frac.mkS l) | false => none
theorem D.Frac.dec_ok {l : List AC} {x : D.Frac} (h : D.Frac.dec l = some x) : l = D.Frac.cs x := by
  unfold D.Frac.dec at h
  split at h
  · rename_i hp
    cases h
    have h := hp
    have hl := plainL_len h
    match l, hl, h with
    | [x0, x1], _, h =>
      simp only [plainL, Bool.and_eq_true, and_true] at h
      obtain ⟨h0, h1⟩ := h
      simp only [D.Frac.mkS, nth, List.getD_cons_zero, List.getD_cons_succ, D.Frac.cs, pl_int h0, pl_int h1]
  · cases h
def D.App.mkS (l : List AC) : D.App := ⟨(nth l 0).toBool, (nth l 1).toInt⟩
def D.App.dec (l : List AC) : Option D.App := match plainL D.App.ct l with | true => some (D.App.mkS l) | false => none
theorem D.App.dec_ok {l : List AC} {x : D.App} (h : D.App.dec l = some x) : l = D.App.cs x := by
  unfold D.App.dec at h
  split at h
  · rename_i hp
    cases h
    have h := hp
    have hl := plainL_len h
    match l, hl, h with
    | [x0, x1], _, h =>
      simp only [plainL, Bool.and_eq_true, and_true] at h
      obtain ⟨h0, h1⟩ := h
      simp only [D.App.mkS, nth, List.getD_cons_zero, List.getD_cons_succ, D.App.cs, pl_bool h0, pl_int h1]
  · cases h
def D.Look.mkS (l : List AC) : D.Look := ⟨(nth l 0).toBool, ⟨(nth l 1).toInt, (nth l 2).toInt⟩⟩
def D.Look.dec (l : List AC) : Option D.Look := match plainL D.Look.ct l with | true => some (D.Look.mkS l) | false => none
theorem D.Look.dec_ok {l : List AC} {x : D.Look} (h : D.Look.dec l = some x) : l = D.Look.cs x := by
  unfold D.Look.dec at h
  split at h
  · rename_i hp
    cases h
    have h := hp
    have hl := plainL_len h
    match l, hl, h with
    | [x0, x1, x2], _, h =>
      simp only [plainL, Bool.and_eq_true, and_true] at h
      obtain ⟨h0, h1, h2⟩ := h
      simp only [D.Look.mkS, nth, List.getD_cons_zero, List.getD_cons_succ, D.Look.cs, pl_bool h0, pl_int h1, pl_int h2]
  · cases h
def D.Reading.mkS (l : List AC) : D.Reading := ⟨(nth l 0).toInt, (nth l 1).toBool, (nth l 2).toInt⟩
def D.Reading.dec (l : List AC) : Option D.Reading := match plainL D.Reading.ct l with | true => some (D.Reading.mkS l) | false => none
theorem D.Reading.dec_ok {l : List AC} {x : D.Reading} (h : D.Reading.dec l = some x) : l = D.Reading.cs x := by
  unfold D.Reading.dec at h
  split at h
  · rename_i hp
    cases h
    have h := hp
    have hl := plainL_len h
    match l, hl, h with
    | [x0, x1, x2], _, h =>
      simp only [plainL, Bool.and_eq_true, and_true] at h
      obtain ⟨h0, h1, h2⟩ := h
      simp only [D.Reading.mkS, nth, List.getD_cons_zero, List.getD_cons_succ, D.Reading.cs, pl_int h0, pl_bool h1, pl_int h2]
  · cases h
def D.Slot.mkS (l : List AC) : D.Slot := ⟨(nth l 0).toInt, (nth l 1).toInt⟩
def D.Slot.dec (l : List AC) : Option D.Slot := match plainL D.Slot.ct l with | true => some (D.Slot.mkS l) | false => none
theorem D.Slot.dec_ok {l : List AC} {x : D.Slot} (h : D.Slot.dec l = some x) : l = D.Slot.cs x := by
  unfold D.Slot.dec at h
  split at h
  · rename_i hp
    cases h
    have h := hp
    have hl := plainL_len h
    match l, hl, h with
    | [x0, x1], _, h =>
      simp only [plainL, Bool.and_eq_true, and_true] at h
      obtain ⟨h0, h1⟩ := h
      simp only [D.Slot.mkS, nth, List.getD_cons_zero, List.getD_cons_succ, D.Slot.cs, pl_int h0, pl_int h1]
  · cases h
def D.Plan.mkS (l : List AC) : D.Plan := ⟨(nth l 0).toInt, (nth l 1).toInt, (nth l 2).toSlots⟩
def D.Plan.dec (l : List AC) : Option D.Plan := match plainL D.Plan.ct l with | true => some (D.Plan.mkS l) | false => none
theorem D.Plan.dec_ok {l : List AC} {x : D.Plan} (h : D.Plan.dec l = some x) : l = D.Plan.cs x := by
  unfold D.Plan.dec at h
  split at h
  · rename_i hp
    cases h
    have h := hp
    have hl := plainL_len h
    match l, hl, h with
    | [x0, x1, x2], _, h =>
      simp only [plainL, Bool.and_eq_true, and_true] at h
      obtain ⟨h0, h1, h2⟩ := h
      simp only [D.Plan.mkS, nth, List.getD_cons_zero, List.getD_cons_succ, D.Plan.cs, pl_int h0, pl_int h1, pl_slots h2]
  · cases h
def D.Frame.mkS (l : List AC) : D.Frame := ⟨(nth l 0).toInt, (nth l 1).toInt, (nth l 2).toInt, (nth l 3).toInt, (nth l 4).toInt, (nth l 5).toStr⟩
def D.Frame.dec (l : List AC) : Option D.Frame := match plainL D.Frame.ct l with | true => some (D.Frame.mkS l) | false => none
theorem D.Frame.dec_ok {l : List AC} {x : D.Frame} (h : D.Frame.dec l = some x) : l = D.Frame.cs x := by
  unfold D.Frame.dec at h
  split at h
  · rename_i hp
    cases h
    have h := hp
    have hl := plainL_len h
    match l, hl, h with
    | [x0, x1, x2, x3, x4, x5], _, h =>
      simp only [plainL, Bool.and_eq_true, and_true] at h
      obtain ⟨h0, h1, h2, h3, h4, h5⟩ := h
      simp only [D.Frame.mkS, nth, List.getD_cons_zero, List.getD_cons_succ, D.Frame.cs, pl_int h0, pl_int h1, pl_int h2, pl_int h3, pl_int h4, pl_str h5]
  · cases h
def D.Clash.mkS (l : List AC) : D.Clash := ⟨(nth l 0).toInt, (nth l 1).toInt⟩
def D.Clash.dec (l : List AC) : Option D.Clash := match plainL D.Clash.ct l with | true => some (D.Clash.mkS l) | false => none
theorem D.Clash.dec_ok {l : List AC} {x : D.Clash} (h : D.Clash.dec l = some x) : l = D.Clash.cs x := by
  unfold D.Clash.dec at h
  split at h
  · rename_i hp
    cases h
    have h := hp
    have hl := plainL_len h
    match l, hl, h with
    | [x0, x1], _, h =>
      simp only [plainL, Bool.and_eq_true, and_true] at h
      obtain ⟨h0, h1⟩ := h
      simp only [D.Clash.mkS, nth, List.getD_cons_zero, List.getD_cons_succ, D.Clash.cs, pl_int h0, pl_int h1]
  · cases h
def D.Heard.mkS (l : List AC) : D.Heard := ⟨(nth l 0).toInt, (nth l 1).toInt⟩
def D.Heard.dec (l : List AC) : Option D.Heard := match plainL D.Heard.ct l with | true => some (D.Heard.mkS l) | false => none
theorem D.Heard.dec_ok {l : List AC} {x : D.Heard} (h : D.Heard.dec l = some x) : l = D.Heard.cs x := by
  unfold D.Heard.dec at h
  split at h
  · rename_i hp
    cases h
    have h := hp
    have hl := plainL_len h
    match l, hl, h with
    | [x0, x1], _, h =>
      simp only [plainL, Bool.and_eq_true, and_true] at h
      obtain ⟨h0, h1⟩ := h
      simp only [D.Heard.mkS, nth, List.getD_cons_zero, List.getD_cons_succ, D.Heard.cs, pl_int h0, pl_int h1]
  · cases h
def D.Life.mkS (l : List AC) : D.Life := ⟨(nth l 0).toInt, (nth l 1).toInt, (nth l 2).toInt⟩
def D.Life.dec (l : List AC) : Option D.Life := match plainL D.Life.ct l with | true => some (D.Life.mkS l) | false => none
theorem D.Life.dec_ok {l : List AC} {x : D.Life} (h : D.Life.dec l = some x) : l = D.Life.cs x := by
  unfold D.Life.dec at h
  split at h
  · rename_i hp
    cases h
    have h := hp
    have hl := plainL_len h
    match l, hl, h with
    | [x0, x1, x2], _, h =>
      simp only [plainL, Bool.and_eq_true, and_true] at h
      obtain ⟨h0, h1, h2⟩ := h
      simp only [D.Life.mkS, nth, List.getD_cons_zero, List.getD_cons_succ, D.Life.cs, pl_int h0, pl_int h1, pl_int h2]
  · cases h
def D.Event.mkS (l : List AC) : D.Event := ⟨(nth l 0).toInt, (nth l 1).toInt⟩
def D.Event.dec (l : List AC) : Option D.Event := match plainL D.Event.ct l with | true => some (D.Event.mkS l) | false => none
theorem D.Event.dec_ok {l : List AC} {x : D.Event} (h : D.Event.dec l = some x) : l = D.Event.cs x := by
  unfold D.Event.dec at h
  split at h
  · rename_i hp
    cases h
    have h := hp
    have hl := plainL_len h
    match l, hl, h with
    | [x0, x1], _, h =>
      simp only [plainL, Bool.and_eq_true, and_true] at h
      obtain ⟨h0, h1⟩ := h
      simp only [D.Event.mkS, nth, List.getD_cons_zero, List.getD_cons_succ, D.Event.cs, pl_int h0, pl_int h1]
  · cases h
def D.Cfg.mkS (l : List AC) : D.Cfg := ⟨⟨(nth l 0).toInt, (nth l 1).toInt⟩, (nth l 2).toInt, (nth l 3).toInt, (nth l 4).toInt, (nth l 5).toInt, (nth l 6).toInt, (nth l 7).toInt, ⟨(nth l 8).toInt, (nth l 9).toInt, (nth l 10).toSlots⟩⟩
def D.Cfg.dec (l : List AC) : Option D.Cfg := match plainL D.Cfg.ct l with | true => some (D.Cfg.mkS l) | false => none
theorem D.Cfg.dec_ok {l : List AC} {x : D.Cfg} (h : D.Cfg.dec l = some x) : l = D.Cfg.cs x := by
  unfold D.Cfg.dec at h
  split at h
  · rename_i hp
    cases h
    have h := hp
    have hl := plainL_len h
    match l, hl, h with
    | [x0, x1, x2, x3, x4, x5, x6, x7, x8, x9, x10], _, h =>
      simp only [plainL, Bool.and_eq_true, and_true] at h
      obtain ⟨h0, h1, h2, h3, h4, h5, h6, h7, h8, h9, h10⟩ := h
      simp only [D.Cfg.mkS, nth, List.getD_cons_zero, List.getD_cons_succ, D.Cfg.cs, pl_int h0, pl_int h1, pl_int h2, pl_int h3, pl_int h4, pl_int h5, pl_int h6, pl_int h7, pl_int h8, pl_int h9, pl_slots h10]
  · cases h
def D.Node.mkS (l : List AC) : D.Node := ⟨(nth l 0).toInt, ⟨(nth l 1).toInt, (nth l 2).toInt, (nth l 3).toInt⟩, ⟨(nth l 4).toBool, ⟨(nth l 5).toInt, (nth l 6).toInt⟩, (nth l 7).toInt⟩, ⟨(nth l 8).toInt, (nth l 9).toInt, (nth l 10).toAsks⟩, (nth l 11).toPeers, ⟨(nth l 12).toBool, (nth l 13).toInt⟩, (nth l 14).toHeards, (nth l 15).toInt⟩
def D.Node.dec (l : List AC) : Option D.Node := match plainL D.Node.ct l with | true => some (D.Node.mkS l) | false => none
theorem D.Node.dec_ok {l : List AC} {x : D.Node} (h : D.Node.dec l = some x) : l = D.Node.cs x := by
  unfold D.Node.dec at h
  split at h
  · rename_i hp
    cases h
    have h := hp
    have hl := plainL_len h
    match l, hl, h with
    | [x0, x1, x2, x3, x4, x5, x6, x7, x8, x9, x10, x11, x12, x13, x14, x15], _, h =>
      simp only [plainL, Bool.and_eq_true, and_true] at h
      obtain ⟨h0, h1, h2, h3, h4, h5, h6, h7, h8, h9, h10, h11, h12, h13, h14, h15⟩ := h
      simp only [D.Node.mkS, nth, List.getD_cons_zero, List.getD_cons_succ, D.Node.cs, pl_int h0, pl_int h1, pl_int h2, pl_int h3, pl_bool h4, pl_int h5, pl_int h6, pl_int h7, pl_int h8, pl_int h9, pl_asks h10, pl_peers h11, pl_bool h12, pl_int h13, pl_heards h14, pl_int h15]
  · cases h
def D.World.mkS (l : List AC) : D.World := ⟨⟨⟨(nth l 0).toInt, (nth l 1).toInt⟩, (nth l 2).toInt, (nth l 3).toInt, (nth l 4).toInt, (nth l 5).toInt, (nth l 6).toInt, (nth l 7).toInt, ⟨(nth l 8).toInt, (nth l 9).toInt, (nth l 10).toSlots⟩⟩, (nth l 11).toBools, (nth l 12).toInt, (nth l 13).toInts, (nth l 14).toNodes, ⟨(nth l 15).toInt, (nth l 16).toFlights⟩, (nth l 17).toFrames⟩
def D.World.dec (l : List AC) : Option D.World := match plainL D.World.ct l with | true => some (D.World.mkS l) | false => none
theorem D.World.dec_ok {l : List AC} {x : D.World} (h : D.World.dec l = some x) : l = D.World.cs x := by
  unfold D.World.dec at h
  split at h
  · rename_i hp
    cases h
    have h := hp
    have hl := plainL_len h
    match l, hl, h with
    | [x0, x1, x2, x3, x4, x5, x6, x7, x8, x9, x10, x11, x12, x13, x14, x15, x16, x17], _, h =>
      simp only [plainL, Bool.and_eq_true, and_true] at h
      obtain ⟨h0, h1, h2, h3, h4, h5, h6, h7, h8, h9, h10, h11, h12, h13, h14, h15, h16, h17⟩ := h
      simp only [D.World.mkS, nth, List.getD_cons_zero, List.getD_cons_succ, D.World.cs, pl_int h0, pl_int h1, pl_int h2, pl_int h3, pl_int h4, pl_int h5, pl_int h6, pl_int h7, pl_int h8, pl_int h9, pl_slots h10, pl_bools h11, pl_int h12, pl_ints h13, pl_nodes h14, pl_int h15, pl_flights h16, pl_frames h17]
  · cases h
def D.Op.mkS (l : List AC) : D.Op := ⟨(nth l 0).toInt, (nth l 1).toInt, (nth l 2).toInt, (nth l 3).toInt, (nth l 4).toInt, (nth l 5).toStr, (nth l 6).toInts⟩
def D.Op.dec (l : List AC) : Option D.Op := match plainL D.Op.ct l with | true => some (D.Op.mkS l) | false => none
theorem D.Op.dec_ok {l : List AC} {x : D.Op} (h : D.Op.dec l = some x) : l = D.Op.cs x := by
  unfold D.Op.dec at h
  split at h
  · rename_i hp
    cases h
    have h := hp
    have hl := plainL_len h
    match l, hl, h with
    | [x0, x1, x2, x3, x4, x5, x6], _, h =>
      simp only [plainL, Bool.and_eq_true, and_true] at h
      obtain ⟨h0, h1, h2, h3, h4, h5, h6⟩ := h
      simp only [D.Op.mkS, nth, List.getD_cons_zero, List.getD_cons_succ, D.Op.cs, pl_int h0, pl_int h1, pl_int h2, pl_int h3, pl_int h4, pl_str h5, pl_ints h6]
  · cases h
def D.Told.mkS (l : List AC) : D.Told := ⟨(nth l 0).toInt, (nth l 1).toInt, (nth l 2).toInt, (nth l 3).toInt, (nth l 4).toBool, (nth l 5).toBool, ⟨(nth l 6).toInt, (nth l 7).toInt⟩, ⟨(nth l 8).toInt, (nth l 9).toInt⟩⟩
def D.Told.dec (l : List AC) : Option D.Told := match plainL D.Told.ct l with | true => some (D.Told.mkS l) | false => none
theorem D.Told.dec_ok {l : List AC} {x : D.Told} (h : D.Told.dec l = some x) : l = D.Told.cs x := by
  unfold D.Told.dec at h
  split at h
  · rename_i hp
    cases h
    have h := hp
    have hl := plainL_len h
    match l, hl, h with
    | [x0, x1, x2, x3, x4, x5, x6, x7, x8, x9], _, h =>
      simp only [plainL, Bool.and_eq_true, and_true] at h
      obtain ⟨h0, h1, h2, h3, h4, h5, h6, h7, h8, h9⟩ := h
      simp only [D.Told.mkS, nth, List.getD_cons_zero, List.getD_cons_succ, D.Told.cs, pl_int h0, pl_int h1, pl_int h2, pl_int h3, pl_bool h4, pl_bool h5, pl_int h6, pl_int h7, pl_int h8, pl_int h9]
  · cases h

inductive T (α : Type) where
  | ret (a : α)
  | br (c : Bool) (x y : T α)
  | grd (c : Bool) (x : T α)
  | both (x y : T α)

def T.run {α : Type} : T α → (α → Bool) → Bool
  | .ret a, K => K a
  | .br c x y, K => X.br c (x.run K) (y.run K)
  | .grd c x, K => X.grd c (x.run K)
  | .both x y, K => x.run K && y.run K
def T.val {α : Type} : T α → α
  | .ret a => a
  | .br c x y => bif c then x.val else y.val
  | .grd _ x => x.val
  | .both x _ => x.val
def T.safe {α : Type} : T α → Prop
  | .ret _ => True
  | .br c x y => (c = true → x.safe) ∧ (c = false → y.safe)
  | .grd c x => c = true ∧ x.safe
  | .both x y => x.safe ∧ y.safe ∧ x.val = y.val

theorem T.run_val {α : Type} : ∀ {t : T α}, t.safe → ∀ (K : α → Bool), t.run K = K t.val
  | .ret a, _, K => rfl
  | .br c x y, h, K => by
    cases c with
    | true => exact T.run_val (h.1 rfl) K
    | false => exact T.run_val (h.2 rfl) K
  | .grd c x, h, K => by
    obtain ⟨rfl, h⟩ := h
    exact T.run_val h K
  | .both x y, h, K => by
    simp only [T.run, T.val, T.run_val h.1 K, T.run_val h.2.1 K, ← h.2.2, Bool.and_self]
theorem T.run_congr {α : Type} {K K' : α → Bool} (h : ∀ a, K a = K' a) : ∀ t : T α, t.run K = t.run K' := fun t => by
  rw [funext h]

/-- A round's answer: on, or out. -/
inductive S (σ ρ : Type) where
  | on (s : σ)
  | out (r : ρ)
def S.k {σ ρ : Type} (f : σ → Bool) (g : ρ → Bool) : S σ ρ → Bool
  | .on s => f s
  | .out r => g r

/-- Over a list, from its place i on. -/
def forL {α σ ρ : Type} (body : Int → α → σ → S σ ρ) (done : σ → ρ) : List α → Int → σ → ρ
  | [], _, s => done s
  | x :: r, i, s => match body i x s with
    | .on s' => forL body done r (i + 1) s'
    | .out p => p
/-- n rounds, from i on. -/
def forN {σ ρ : Type} (body : Int → σ → S σ ρ) (done : σ → ρ) : Nat → Int → σ → ρ
  | 0, _, s => done s
  | n + 1, i, s => match body i s with
    | .on s' => forN body done n (i + 1) s'
    | .out p => p
/-- While it says so, n rounds at most. -/
def loopN {σ ρ : Type} (step : σ → S σ ρ) (d : ρ) : Nat → σ → ρ
  | 0, _ => d
  | n + 1, s => match step s with
    | .on s' => loopN step d n s'
    | .out p => p

theorem wrap64 {n : Int} (h1 : -9223372036854775808 ≤ n) (h2 : n ≤ 9223372036854775807) : IntKind.wrap .i64 n = n := by
  simp [IntKind.wrap, IntKind.bits, IntKind.signed]; omega
theorem maxLen_eq : maxLen = 9223372036854775807 := rfl


/-- No test that has to hold. -/
def T.free {α : Type} : T α → Bool
  | .ret _ => true
  | .br _ x y => x.free && y.free
  | .grd _ _ => false
  | .both _ _ => false
theorem T.safe_free {α : Type} : ∀ {t : T α}, t.free = true → t.safe
  | .ret _, _ => trivial
  | .br c x y, h => by
    simp only [T.free, Bool.and_eq_true] at h
    exact ⟨fun _ => T.safe_free h.1, fun _ => T.safe_free h.2⟩
theorem T.run_true {α : Type} {t : T α} {K : α → Bool} (h : t.safe) (hK : K t.val = true) : t.run K = true := (T.run_val h K).trans hK

@[reducible] def w64 (n : Int) : Int := IntKind.wrap .i64 n
def toU8 (n : Int) : UInt8 := UInt8.ofNat n.toNat
theorem toU8_toNat (b : UInt8) : toU8 (b.toNat : Int) = b := by simp [toU8]

theorem forN_ok {σ ρ γ δ : Type} {L : Nat → Int → σ → Bool} {N : Int} {body : Int → σ → T γ} {done : σ → T δ} {fb : Int → σ → γ → S σ ρ} {fd : δ → ρ} {Kb : Nat → Int → γ → Bool} {Kd : δ → Bool} {K : ρ → Bool}
    (inv : Int → σ → Prop)
    (step : ∀ m i s, inv i s → L (m + 1) i s = br (decide (i < N)) ((body i s).run (Kb m i)) ((done s).run Kd)) (hN : N ≤ 9223372036854775807)
    (hb : ∀ i s, 0 ≤ i → i < N → inv i s → (body i s).safe ∧ ∀ s', fb i s (body i s).val = .on s' → inv (i + 1) s')
    (hd : ∀ s i, 0 ≤ i → N ≤ i → inv i s → (done s).safe)
    (hKb : ∀ m i s, 0 ≤ i → i < N → inv i s → (fb i s (body i s).val).k (fun s' => L m (IntKind.wrap .i64 (i + 1)) s') K = true → Kb m i (body i s).val = true)
    (hKd : ∀ s i, 0 ≤ i → N ≤ i → inv i s → K (fd (done s).val) = true → Kd (done s).val = true) :
    ∀ (n m : Nat) (i : Int) (s : σ), 0 ≤ i → (N - i).toNat = n → n < m → inv i s → K (forN (fun i s => fb i s (body i s).val) (fun s => fd (done s).val) n i s) = true → L m i s = true
  | 0, m + 1, i, s, h0, hn, hm, hi, hK => by
    rw [step m i s hi, show decide (i < N) = false by simp; omega]
    exact T.run_true (hd s i h0 (by omega) hi) (hKd s i h0 (by omega) hi hK)
  | n + 1, m + 1, i, s, h0, hn, hm, hi, hK => by
    obtain ⟨h1, h2⟩ := hb i s h0 (by omega) hi
    rw [step m i s hi, show decide (i < N) = true by simp; omega]
    refine T.run_true h1 (hKb m i s h0 (by omega) hi ?_)
    simp only [forN] at hK
    cases hv : fb i s (body i s).val with
    | out p => rw [hv] at hK; exact hK
    | on s' =>
      rw [hv] at hK
      show L m (IntKind.wrap .i64 (i + 1)) s' = true
      rw [wrap64 (by omega) (by omega)]
      exact forN_ok inv step hN hb hd hKb hKd n m (i + 1) s' (by omega) (by omega) (by omega) (h2 s' hv) hK

theorem forL_ok {α σ ρ γ δ : Type} {L : Nat → Int → σ → Bool} {l : List α} {dv : α} {body : Int → α → σ → T γ} {done : σ → T δ} {fb : Int → α → σ → γ → S σ ρ} {fd : δ → ρ} {Kb : Nat → Int → γ → Bool} {Kd : δ → Bool} {K : ρ → Bool}
    (step : ∀ m i s, L (m + 1) i s = br (decide (i < (l.length : Int))) ((body i (l.getD i.toNat dv) s).run (Kb m i)) ((done s).run Kd))
    (inv : Int → σ → Prop) (hN : l.length ≤ maxLen)
    (hb : ∀ i s, 0 ≤ i → i < (l.length : Int) → inv i s → (body i (l.getD i.toNat dv) s).safe ∧ ∀ s', fb i (l.getD i.toNat dv) s (body i (l.getD i.toNat dv) s).val = .on s' → inv (i + 1) s')
    (hd : ∀ s, inv l.length s → (done s).safe)
    (hKb : ∀ m i s, 0 ≤ i → i < (l.length : Int) → inv i s → (fb i (l.getD i.toNat dv) s (body i (l.getD i.toNat dv) s).val).k (fun s' => L m (IntKind.wrap .i64 (i + 1)) s') K = true → Kb m i (body i (l.getD i.toNat dv) s).val = true)
    (hKd : ∀ s, inv l.length s → K (fd (done s).val) = true → Kd (done s).val = true) :
    ∀ (r : List α) (m : Nat) (i : Int) (s : σ), 0 ≤ i → l.drop i.toNat = r → i ≤ (l.length : Int) → r.length < m → inv i s → K (forL (fun i x s => fb i x s (body i x s).val) (fun s => fd (done s).val) r i s) = true → L m i s = true
  | [], m + 1, i, s, h0, hr, hl, hm, hi, hK => by
    have : l.length ≤ i.toNat := List.drop_eq_nil_iff.1 hr
    have e : i = (l.length : Int) := by omega
    subst e
    rw [step, show decide ((l.length : Int) < (l.length : Int)) = false by simp]
    exact T.run_true (hd s hi) (hKd s hi hK)
  | x :: r, m + 1, i, s, h0, hr, hl, hm, hi, hK => by
    have hlt : i.toNat < l.length := by
      rcases Nat.lt_or_ge i.toNat l.length with h | h
      · exact h
      · rw [List.drop_eq_nil_of_le h] at hr; cases hr
    rw [List.drop_eq_getElem_cons hlt] at hr
    obtain ⟨hx, hr⟩ := List.cons.inj hr
    have e : l.getD i.toNat dv = x := by rw [List.getD_eq_getElem?_getD, List.getElem?_eq_getElem hlt]; exact hx
    obtain ⟨h1, h2⟩ := hb i s h0 (by omega) hi
    rw [step, show decide (i < (l.length : Int)) = true by simp; omega]
    refine T.run_true h1 (hKb m i s h0 (by omega) hi ?_)
    simp only [forL] at hK
    rw [e] at h2 ⊢
    cases hv : fb i x s (body i x s).val with
    | out p => rw [hv] at hK; exact hK
    | on s' =>
      rw [hv] at hK
      show L m (IntKind.wrap .i64 (i + 1)) s' = true
      have hml := maxLen_eq
      rw [wrap64 (by omega) (by omega)]
      refine forL_ok step inv hN hb hd hKb hKd r m (i + 1) s' (by omega) ?_ (by omega) (by simp at hm; omega) (h2 s' hv) hK
      rw [show (i + 1).toNat = i.toNat + 1 by omega]
      exact hr

theorem loopN_ok {σ ρ γ : Type} {L : Nat → σ → Bool} {body : σ → T γ} {fb : σ → γ → S σ ρ} {Kb : Nat → γ → Bool} {d : ρ} {K : ρ → Bool}
    (step : ∀ m s, L (m + 1) s = (body s).run (Kb m)) (inv : σ → Prop) (μ : σ → Nat)
    (hb : ∀ s, inv s → (body s).safe ∧ ∀ s', fb s (body s).val = .on s' → inv s' ∧ μ s' < μ s)
    (hKb : ∀ m s, inv s → (fb s (body s).val).k (L m) K = true → Kb m (body s).val = true) :
    ∀ (n m : Nat) (s : σ), μ s < n → n ≤ m → inv s → K (loopN (fun s => fb s (body s).val) d n s) = true → L m s = true
  | 0, m, s, hn, _, _, _ => by omega
  | n + 1, m + 1, s, hn, hm, hi, hK => by
    obtain ⟨h1, h2⟩ := hb s hi
    rw [step]
    refine T.run_true h1 (hKb m s hi ?_)
    simp only [loopN] at hK
    cases hv : fb s (body s).val with
    | out p => rw [hv] at hK; exact hK
    | on s' =>
      rw [hv] at hK
      obtain ⟨h3, h4⟩ := h2 s' hv
      exact loopN_ok step inv μ hb hKb n m s' (by omega) (by omega) h3 hK

/-- What follows a loop that is entered. -/
def S.res {σ ρ : Type} (f : σ → ρ) : S σ ρ → ρ
  | .on s => f s
  | .out r => r
def S.res2 {σ ρ τ : Type} (f : σ → ρ) (g : τ → ρ) : S σ τ → ρ
  | .on s => f s
  | .out x => g x
def S.mapOut {σ ρ τ : Type} (g : τ → ρ) : S σ τ → S σ ρ
  | .on s => .on s
  | .out x => .out (g x)
theorem T.v1 {α : Type} (a : α) : (T.ret a).val = a := rfl
theorem T.v2 {α : Type} (c : Bool) (x y : T α) : (T.br c x y).val = bif c then x.val else y.val := rfl
theorem T.v3 {α : Type} (c : Bool) (x : T α) : (T.grd c x).val = x.val := rfl
theorem T.v4 {α : Type} (x y : T α) : (T.both x y).val = x.val := rfl
def S.join {σ ρ τ : Type} (f : τ → S σ ρ) : S σ (S τ ρ) → S σ ρ
  | .on s => .on s
  | .out (.on t) => f t
  | .out (.out r) => .out r
theorem w64_id {n : Int} (h1 : -9223372036854775808 ≤ n) (h2 : n ≤ 9223372036854775807) : w64 n = n := wrap64 h1 h2
theorem maxRows_eq : maxRows = 70368744177664 := rfl
end Go.X
