/- Types of plain data of the program, and what is so of such data; nothing is proved here but small facts. -/
import GoSem.ClaimData
set_option linter.all false
namespace Go.X
open Go

namespace D
structure Ival where
  lo : Int
  hi : Int
  deriving DecidableEq
structure Drift where
  num : Int
  den : Int
  deriving DecidableEq
structure Osc where
  drift : D.Drift
  time : Int
  count : Int
  deriving DecidableEq
structure Stride where
  by_ : Int
  want : Int
  deriving DecidableEq
structure Mark where
  time : Int
  count : Int
  deriving DecidableEq
structure Msg where
  kind : Int
  frm : Int
  to : Int
  nonce : Int
  said : D.Ival
  slot : Int
  body : List UInt8
  deriving DecidableEq
structure Flight where
  id : Int
  frm : Int
  to : Int
  bytes : List UInt8
  at_ : Int
  deriving DecidableEq
structure Net where
  next : Int
  list : List D.Flight
  deriving DecidableEq
structure Local where
  known : Bool
  bound : D.Ival
  at_ : Int
  deriving DecidableEq
structure Ask where
  nonce : Int
  to : Int
  at_ : Int
  tries : Int
  deriving DecidableEq
structure Table where
  epoch : Int
  used : Int
  asks : List D.Ask
  deriving DecidableEq
structure Trip where
  frm : Int
  said : D.Ival
  sent : Int
  got : Int
  deriving DecidableEq
structure Peer where
  id : Int
  bound : D.Ival
  at_ : Int
  suspect : Bool
  deriving DecidableEq
structure Frac where
  num : Int
  den : Int
  deriving DecidableEq
structure App where
  has : Bool
  last : Int
  deriving DecidableEq
structure Look where
  known : Bool
  now : D.Ival
  deriving DecidableEq
structure Reading where
  value : Int
  holds : Bool
  code : Int
  deriving DecidableEq
structure Slot where
  owner : Int
  long : Int
  deriving DecidableEq
structure Plan where
  start : Int
  gap : Int
  slots : List D.Slot
  deriving DecidableEq
structure Frame where
  frm : Int
  slot : Int
  round : Int
  start : Int
  end_ : Int
  body : List UInt8
  deriving DecidableEq
structure Clash where
  a : Int
  b : Int
  deriving DecidableEq
structure Heard where
  slot : Int
  at_ : Int
  deriving DecidableEq
structure Life where
  mode : Int
  epoch : Int
  since : Int
  deriving DecidableEq
structure Event where
  kind : Int
  at_ : Int
  deriving DecidableEq
structure Cfg where
  drift : D.Drift
  lie : Int
  least : Int
  patience : Int
  age : Int
  keep : Int
  long : Int
  plan : D.Plan
  deriving DecidableEq
structure Node where
  id : Int
  life : D.Life
  loc : D.Local
  table : D.Table
  peers : List D.Peer
  app : D.App
  heard : List D.Heard
  sent : Int
  deriving DecidableEq
structure World where
  cfg : D.Cfg
  liars : List Bool
  time : Int
  counts : List Int
  nodes : List D.Node
  net : D.Net
  frames : List D.Frame
  deriving DecidableEq
structure Op where
  kind : Int
  node : Int
  to : Int
  a : Int
  b : Int
  text : List UInt8
  list : List Int
  deriving DecidableEq
structure Told where
  kind : Int
  node : Int
  code : Int
  value : Int
  holds : Bool
  known : Bool
  was : D.Ival
  now : D.Ival
  deriving DecidableEq
end D

/-- What a row of a slice is. -/
inductive Cd where
  | int | byte | bool | str | ival | stride | mark | msg | flight | ask | trip | peer | look | reading | slot | frame | clash | heard | event | node | op | told
  deriving DecidableEq, Inhabited

@[reducible] def den : Cd → Type
  | .int => Int
  | .byte => UInt8
  | .bool => Bool
  | .str => List UInt8
  | .ival => D.Ival
  | .stride => D.Stride
  | .mark => D.Mark
  | .msg => D.Msg
  | .flight => D.Flight
  | .ask => D.Ask
  | .trip => D.Trip
  | .peer => D.Peer
  | .look => D.Look
  | .reading => D.Reading
  | .slot => D.Slot
  | .frame => D.Frame
  | .clash => D.Clash
  | .heard => D.Heard
  | .event => D.Event
  | .node => D.Node
  | .op => D.Op
  | .told => D.Told

def D.Ival.zero : D.Ival := ⟨0, 0⟩
instance : Inhabited D.Ival := ⟨D.Ival.zero⟩
def D.Drift.zero : D.Drift := ⟨0, 0⟩
instance : Inhabited D.Drift := ⟨D.Drift.zero⟩
def D.Osc.zero : D.Osc := ⟨⟨0, 0⟩, 0, 0⟩
instance : Inhabited D.Osc := ⟨D.Osc.zero⟩
def D.Stride.zero : D.Stride := ⟨0, 0⟩
instance : Inhabited D.Stride := ⟨D.Stride.zero⟩
def D.Mark.zero : D.Mark := ⟨0, 0⟩
instance : Inhabited D.Mark := ⟨D.Mark.zero⟩
def D.Msg.zero : D.Msg := ⟨0, 0, 0, 0, ⟨0, 0⟩, 0, []⟩
instance : Inhabited D.Msg := ⟨D.Msg.zero⟩
def D.Flight.zero : D.Flight := ⟨0, 0, 0, [], 0⟩
instance : Inhabited D.Flight := ⟨D.Flight.zero⟩
def D.Net.zero : D.Net := ⟨0, []⟩
instance : Inhabited D.Net := ⟨D.Net.zero⟩
def D.Local.zero : D.Local := ⟨false, ⟨0, 0⟩, 0⟩
instance : Inhabited D.Local := ⟨D.Local.zero⟩
def D.Ask.zero : D.Ask := ⟨0, 0, 0, 0⟩
instance : Inhabited D.Ask := ⟨D.Ask.zero⟩
def D.Table.zero : D.Table := ⟨0, 0, []⟩
instance : Inhabited D.Table := ⟨D.Table.zero⟩
def D.Trip.zero : D.Trip := ⟨0, ⟨0, 0⟩, 0, 0⟩
instance : Inhabited D.Trip := ⟨D.Trip.zero⟩
def D.Peer.zero : D.Peer := ⟨0, ⟨0, 0⟩, 0, false⟩
instance : Inhabited D.Peer := ⟨D.Peer.zero⟩
def D.Frac.zero : D.Frac := ⟨0, 0⟩
instance : Inhabited D.Frac := ⟨D.Frac.zero⟩
def D.App.zero : D.App := ⟨false, 0⟩
instance : Inhabited D.App := ⟨D.App.zero⟩
def D.Look.zero : D.Look := ⟨false, ⟨0, 0⟩⟩
instance : Inhabited D.Look := ⟨D.Look.zero⟩
def D.Reading.zero : D.Reading := ⟨0, false, 0⟩
instance : Inhabited D.Reading := ⟨D.Reading.zero⟩
def D.Slot.zero : D.Slot := ⟨0, 0⟩
instance : Inhabited D.Slot := ⟨D.Slot.zero⟩
def D.Plan.zero : D.Plan := ⟨0, 0, []⟩
instance : Inhabited D.Plan := ⟨D.Plan.zero⟩
def D.Frame.zero : D.Frame := ⟨0, 0, 0, 0, 0, []⟩
instance : Inhabited D.Frame := ⟨D.Frame.zero⟩
def D.Clash.zero : D.Clash := ⟨0, 0⟩
instance : Inhabited D.Clash := ⟨D.Clash.zero⟩
def D.Heard.zero : D.Heard := ⟨0, 0⟩
instance : Inhabited D.Heard := ⟨D.Heard.zero⟩
def D.Life.zero : D.Life := ⟨0, 0, 0⟩
instance : Inhabited D.Life := ⟨D.Life.zero⟩
def D.Event.zero : D.Event := ⟨0, 0⟩
instance : Inhabited D.Event := ⟨D.Event.zero⟩
def D.Cfg.zero : D.Cfg := ⟨⟨0, 0⟩, 0, 0, 0, 0, 0, 0, ⟨0, 0, []⟩⟩
instance : Inhabited D.Cfg := ⟨D.Cfg.zero⟩
def D.Node.zero : D.Node := ⟨0, ⟨0, 0, 0⟩, ⟨false, ⟨0, 0⟩, 0⟩, ⟨0, 0, []⟩, [], ⟨false, 0⟩, [], 0⟩
instance : Inhabited D.Node := ⟨D.Node.zero⟩
def D.World.zero : D.World := ⟨⟨⟨0, 0⟩, 0, 0, 0, 0, 0, 0, ⟨0, 0, []⟩⟩, [], 0, [], [], ⟨0, []⟩, []⟩
instance : Inhabited D.World := ⟨D.World.zero⟩
def D.Op.zero : D.Op := ⟨0, 0, 0, 0, 0, [], []⟩
instance : Inhabited D.Op := ⟨D.Op.zero⟩
def D.Told.zero : D.Told := ⟨0, 0, 0, 0, false, false, ⟨0, 0⟩, ⟨0, 0⟩⟩
instance : Inhabited D.Told := ⟨D.Told.zero⟩

def dflt : (c : Cd) → den c
  | .int => 0
  | .byte => 0
  | .bool => false
  | .str => []
  | .ival => D.Ival.zero
  | .stride => D.Stride.zero
  | .mark => D.Mark.zero
  | .msg => D.Msg.zero
  | .flight => D.Flight.zero
  | .ask => D.Ask.zero
  | .trip => D.Trip.zero
  | .peer => D.Peer.zero
  | .look => D.Look.zero
  | .reading => D.Reading.zero
  | .slot => D.Slot.zero
  | .frame => D.Frame.zero
  | .clash => D.Clash.zero
  | .heard => D.Heard.zero
  | .event => D.Event.zero
  | .node => D.Node.zero
  | .op => D.Op.zero
  | .told => D.Told.zero

/-- An abstract cell: dat: a slice of plain data; nilS: a nil slice; own: all rows of a block of one's own; sub: n of them. -/
inductive AC where
  | int (k : IntKind) (n : Int)
  | bool (b : Bool)
  | str (s : List UInt8)
  | dat (c : Cd) (l : List (den c))
  | nilS (c : Cd)
  | own (j : Nat)
  | sub (j off n : Nat)
  | ptr (j i o : Nat)
  | pdat (c : Cd) (x : den c) (o : Nat)
  | fn (f : FuncId) (cap : List AC)
  | map (j : Nat)
  | any
  deriving Inhabited

def AC.toInt : AC → Int | .int _ n => n | _ => 0
def AC.toU8 : AC → UInt8 | .int _ n => UInt8.ofNat n.toNat | _ => 0
def AC.toBool : AC → Bool | .bool b => b | _ => false
def AC.toStr : AC → List UInt8 | .str s => s | _ => []
def nth (l : List AC) (n : Nat) : AC := l.getD n .any

def AC.toFlights : AC → List (den .flight) | .dat .flight l => l | _ => []
def AC.toAsks : AC → List (den .ask) | .dat .ask l => l | _ => []
def AC.toSlots : AC → List (den .slot) | .dat .slot l => l | _ => []
def AC.toPeers : AC → List (den .peer) | .dat .peer l => l | _ => []
def AC.toHeards : AC → List (den .heard) | .dat .heard l => l | _ => []
def AC.toBools : AC → List (den .bool) | .dat .bool l => l | _ => []
def AC.toInts : AC → List (den .int) | .dat .int l => l | _ => []
def AC.toNodes : AC → List (den .node) | .dat .node l => l | _ => []
def AC.toFrames : AC → List (den .frame) | .dat .frame l => l | _ => []

@[reducible] def D.Ival.cs (x : D.Ival) : List AC := [.int .i64 x.lo, .int .i64 x.hi]
@[reducible] def D.Drift.cs (x : D.Drift) : List AC := [.int .i64 x.num, .int .i64 x.den]
@[reducible] def D.Osc.cs (x : D.Osc) : List AC := [.int .i64 x.drift.num, .int .i64 x.drift.den, .int .i64 x.time, .int .i64 x.count]
@[reducible] def D.Stride.cs (x : D.Stride) : List AC := [.int .i64 x.by_, .int .i64 x.want]
@[reducible] def D.Mark.cs (x : D.Mark) : List AC := [.int .i64 x.time, .int .i64 x.count]
@[reducible] def D.Msg.cs (x : D.Msg) : List AC := [.int .i64 x.kind, .int .i64 x.frm, .int .i64 x.to, .int .i64 x.nonce, .int .i64 x.said.lo, .int .i64 x.said.hi, .int .i64 x.slot, .str x.body]
@[reducible] def D.Flight.cs (x : D.Flight) : List AC := [.int .i64 x.id, .int .i64 x.frm, .int .i64 x.to, .str x.bytes, .int .i64 x.at_]
@[reducible] def D.Net.cs (x : D.Net) : List AC := [.int .i64 x.next, .dat .flight x.list]
@[reducible] def D.Local.cs (x : D.Local) : List AC := [.bool x.known, .int .i64 x.bound.lo, .int .i64 x.bound.hi, .int .i64 x.at_]
@[reducible] def D.Ask.cs (x : D.Ask) : List AC := [.int .i64 x.nonce, .int .i64 x.to, .int .i64 x.at_, .int .i64 x.tries]
@[reducible] def D.Table.cs (x : D.Table) : List AC := [.int .i64 x.epoch, .int .i64 x.used, .dat .ask x.asks]
@[reducible] def D.Trip.cs (x : D.Trip) : List AC := [.int .i64 x.frm, .int .i64 x.said.lo, .int .i64 x.said.hi, .int .i64 x.sent, .int .i64 x.got]
@[reducible] def D.Peer.cs (x : D.Peer) : List AC := [.int .i64 x.id, .int .i64 x.bound.lo, .int .i64 x.bound.hi, .int .i64 x.at_, .bool x.suspect]
@[reducible] def D.Frac.cs (x : D.Frac) : List AC := [.int .i64 x.num, .int .i64 x.den]
@[reducible] def D.App.cs (x : D.App) : List AC := [.bool x.has, .int .i64 x.last]
@[reducible] def D.Look.cs (x : D.Look) : List AC := [.bool x.known, .int .i64 x.now.lo, .int .i64 x.now.hi]
@[reducible] def D.Reading.cs (x : D.Reading) : List AC := [.int .i64 x.value, .bool x.holds, .int .i64 x.code]
@[reducible] def D.Slot.cs (x : D.Slot) : List AC := [.int .i64 x.owner, .int .i64 x.long]
@[reducible] def D.Plan.cs (x : D.Plan) : List AC := [.int .i64 x.start, .int .i64 x.gap, .dat .slot x.slots]
@[reducible] def D.Frame.cs (x : D.Frame) : List AC := [.int .i64 x.frm, .int .i64 x.slot, .int .i64 x.round, .int .i64 x.start, .int .i64 x.end_, .str x.body]
@[reducible] def D.Clash.cs (x : D.Clash) : List AC := [.int .i64 x.a, .int .i64 x.b]
@[reducible] def D.Heard.cs (x : D.Heard) : List AC := [.int .i64 x.slot, .int .i64 x.at_]
@[reducible] def D.Life.cs (x : D.Life) : List AC := [.int .i64 x.mode, .int .i64 x.epoch, .int .i64 x.since]
@[reducible] def D.Event.cs (x : D.Event) : List AC := [.int .i64 x.kind, .int .i64 x.at_]
@[reducible] def D.Cfg.cs (x : D.Cfg) : List AC := [.int .i64 x.drift.num, .int .i64 x.drift.den, .int .i64 x.lie, .int .i64 x.least, .int .i64 x.patience, .int .i64 x.age, .int .i64 x.keep, .int .i64 x.long, .int .i64 x.plan.start, .int .i64 x.plan.gap, .dat .slot x.plan.slots]
@[reducible] def D.Node.cs (x : D.Node) : List AC := [.int .i64 x.id, .int .i64 x.life.mode, .int .i64 x.life.epoch, .int .i64 x.life.since, .bool x.loc.known, .int .i64 x.loc.bound.lo, .int .i64 x.loc.bound.hi, .int .i64 x.loc.at_, .int .i64 x.table.epoch, .int .i64 x.table.used, .dat .ask x.table.asks, .dat .peer x.peers, .bool x.app.has, .int .i64 x.app.last, .dat .heard x.heard, .int .i64 x.sent]
@[reducible] def D.World.cs (x : D.World) : List AC := [.int .i64 x.cfg.drift.num, .int .i64 x.cfg.drift.den, .int .i64 x.cfg.lie, .int .i64 x.cfg.least, .int .i64 x.cfg.patience, .int .i64 x.cfg.age, .int .i64 x.cfg.keep, .int .i64 x.cfg.long, .int .i64 x.cfg.plan.start, .int .i64 x.cfg.plan.gap, .dat .slot x.cfg.plan.slots, .dat .bool x.liars, .int .i64 x.time, .dat .int x.counts, .dat .node x.nodes, .int .i64 x.net.next, .dat .flight x.net.list, .dat .frame x.frames]
@[reducible] def D.Op.cs (x : D.Op) : List AC := [.int .i64 x.kind, .int .i64 x.node, .int .i64 x.to, .int .i64 x.a, .int .i64 x.b, .str x.text, .dat .int x.list]
@[reducible] def D.Told.cs (x : D.Told) : List AC := [.int .i64 x.kind, .int .i64 x.node, .int .i64 x.code, .int .i64 x.value, .bool x.holds, .bool x.known, .int .i64 x.was.lo, .int .i64 x.was.hi, .int .i64 x.now.lo, .int .i64 x.now.hi]

/-- The cells of a row. -/
@[reducible] def enc : (c : Cd) → den c → List AC
  | .int, x => [.int .i64 x]
  | .byte, x => [.int .u8 (x.toNat : Int)]
  | .bool, x => [.bool x]
  | .str, x => [.str x]
  | .ival, x => D.Ival.cs x
  | .stride, x => D.Stride.cs x
  | .mark, x => D.Mark.cs x
  | .msg, x => D.Msg.cs x
  | .flight, x => D.Flight.cs x
  | .ask, x => D.Ask.cs x
  | .trip, x => D.Trip.cs x
  | .peer, x => D.Peer.cs x
  | .look, x => D.Look.cs x
  | .reading, x => D.Reading.cs x
  | .slot, x => D.Slot.cs x
  | .frame, x => D.Frame.cs x
  | .clash, x => D.Clash.cs x
  | .heard, x => D.Heard.cs x
  | .event, x => D.Event.cs x
  | .node, x => D.Node.cs x
  | .op, x => D.Op.cs x
  | .told, x => D.Told.cs x

/-- The type of one cell. -/
inductive CT where
  | int (k : IntKind) | bool | str | sl (c : Cd) | oth
  deriving Inhabited, DecidableEq

@[reducible] def cts : Cd → List CT
  | .int => [.int .i64]
  | .byte => [.int .u8]
  | .bool => [.bool]
  | .str => [.str]
  | .ival => [.int .i64, .int .i64]
  | .stride => [.int .i64, .int .i64]
  | .mark => [.int .i64, .int .i64]
  | .msg => [.int .i64, .int .i64, .int .i64, .int .i64, .int .i64, .int .i64, .int .i64, .str]
  | .flight => [.int .i64, .int .i64, .int .i64, .str, .int .i64]
  | .ask => [.int .i64, .int .i64, .int .i64, .int .i64]
  | .trip => [.int .i64, .int .i64, .int .i64, .int .i64, .int .i64]
  | .peer => [.int .i64, .int .i64, .int .i64, .int .i64, .bool]
  | .look => [.bool, .int .i64, .int .i64]
  | .reading => [.int .i64, .bool, .int .i64]
  | .slot => [.int .i64, .int .i64]
  | .frame => [.int .i64, .int .i64, .int .i64, .int .i64, .int .i64, .str]
  | .clash => [.int .i64, .int .i64]
  | .heard => [.int .i64, .int .i64]
  | .event => [.int .i64, .int .i64]
  | .node => [.int .i64, .int .i64, .int .i64, .int .i64, .bool, .int .i64, .int .i64, .int .i64, .int .i64, .int .i64, .sl .ask, .sl .peer, .bool, .int .i64, .sl .heard, .int .i64]
  | .op => [.int .i64, .int .i64, .int .i64, .int .i64, .int .i64, .str, .sl .int]
  | .told => [.int .i64, .int .i64, .int .i64, .int .i64, .bool, .bool, .int .i64, .int .i64, .int .i64, .int .i64]

/-- A row out of its cells. -/
def mk : (c : Cd) → List AC → den c
  | .int, l => (nth l 0).toInt
  | .byte, l => (nth l 0).toU8
  | .bool, l => (nth l 0).toBool
  | .str, l => (nth l 0).toStr
  | .ival, l => ⟨(nth l 0).toInt, (nth l 1).toInt⟩
  | .stride, l => ⟨(nth l 0).toInt, (nth l 1).toInt⟩
  | .mark, l => ⟨(nth l 0).toInt, (nth l 1).toInt⟩
  | .msg, l => ⟨(nth l 0).toInt, (nth l 1).toInt, (nth l 2).toInt, (nth l 3).toInt, ⟨(nth l 4).toInt, (nth l 5).toInt⟩, (nth l 6).toInt, (nth l 7).toStr⟩
  | .flight, l => ⟨(nth l 0).toInt, (nth l 1).toInt, (nth l 2).toInt, (nth l 3).toStr, (nth l 4).toInt⟩
  | .ask, l => ⟨(nth l 0).toInt, (nth l 1).toInt, (nth l 2).toInt, (nth l 3).toInt⟩
  | .trip, l => ⟨(nth l 0).toInt, ⟨(nth l 1).toInt, (nth l 2).toInt⟩, (nth l 3).toInt, (nth l 4).toInt⟩
  | .peer, l => ⟨(nth l 0).toInt, ⟨(nth l 1).toInt, (nth l 2).toInt⟩, (nth l 3).toInt, (nth l 4).toBool⟩
  | .look, l => ⟨(nth l 0).toBool, ⟨(nth l 1).toInt, (nth l 2).toInt⟩⟩
  | .reading, l => ⟨(nth l 0).toInt, (nth l 1).toBool, (nth l 2).toInt⟩
  | .slot, l => ⟨(nth l 0).toInt, (nth l 1).toInt⟩
  | .frame, l => ⟨(nth l 0).toInt, (nth l 1).toInt, (nth l 2).toInt, (nth l 3).toInt, (nth l 4).toInt, (nth l 5).toStr⟩
  | .clash, l => ⟨(nth l 0).toInt, (nth l 1).toInt⟩
  | .heard, l => ⟨(nth l 0).toInt, (nth l 1).toInt⟩
  | .event, l => ⟨(nth l 0).toInt, (nth l 1).toInt⟩
  | .node, l => ⟨(nth l 0).toInt, ⟨(nth l 1).toInt, (nth l 2).toInt, (nth l 3).toInt⟩, ⟨(nth l 4).toBool, ⟨(nth l 5).toInt, (nth l 6).toInt⟩, (nth l 7).toInt⟩, ⟨(nth l 8).toInt, (nth l 9).toInt, (nth l 10).toAsks⟩, (nth l 11).toPeers, ⟨(nth l 12).toBool, (nth l 13).toInt⟩, (nth l 14).toHeards, (nth l 15).toInt⟩
  | .op, l => ⟨(nth l 0).toInt, (nth l 1).toInt, (nth l 2).toInt, (nth l 3).toInt, (nth l 4).toInt, (nth l 5).toStr, (nth l 6).toInts⟩
  | .told, l => ⟨(nth l 0).toInt, (nth l 1).toInt, (nth l 2).toInt, (nth l 3).toInt, (nth l 4).toBool, (nth l 5).toBool, ⟨(nth l 6).toInt, (nth l 7).toInt⟩, ⟨(nth l 8).toInt, (nth l 9).toInt⟩⟩

/-! what is so of data that a machine holds -/
def i64 (n : Int) : Prop := -9223372036854775808 ≤ n ∧ n ≤ 9223372036854775807
def okS (s : List UInt8) : Prop := s.length ≤ maxLen
def okL {α : Type} (p : α → Prop) (l : List α) : Prop := l.length ≤ maxLen ∧ ∀ x ∈ l, p x
def okD.int (n : Int) : Prop := i64 n
def okD.byte (_ : UInt8) : Prop := True
def okD.bool (_ : Bool) : Prop := True
def okD.str (s : List UInt8) : Prop := okS s
def D.Ival.ok (x : D.Ival) : Prop := i64 x.lo ∧ i64 x.hi
@[reducible] def okD.ival (x : D.Ival) : Prop := D.Ival.ok x
def D.Drift.ok (x : D.Drift) : Prop := i64 x.num ∧ i64 x.den
def D.Osc.ok (x : D.Osc) : Prop := D.Drift.ok x.drift ∧ i64 x.time ∧ i64 x.count
def D.Stride.ok (x : D.Stride) : Prop := i64 x.by_ ∧ i64 x.want
@[reducible] def okD.stride (x : D.Stride) : Prop := D.Stride.ok x
def D.Mark.ok (x : D.Mark) : Prop := i64 x.time ∧ i64 x.count
@[reducible] def okD.mark (x : D.Mark) : Prop := D.Mark.ok x
def D.Msg.ok (x : D.Msg) : Prop := i64 x.kind ∧ i64 x.frm ∧ i64 x.to ∧ i64 x.nonce ∧ D.Ival.ok x.said ∧ i64 x.slot ∧ okS x.body
@[reducible] def okD.msg (x : D.Msg) : Prop := D.Msg.ok x
def D.Flight.ok (x : D.Flight) : Prop := i64 x.id ∧ i64 x.frm ∧ i64 x.to ∧ okS x.bytes ∧ i64 x.at_
@[reducible] def okD.flight (x : D.Flight) : Prop := D.Flight.ok x
def D.Net.ok (x : D.Net) : Prop := i64 x.next ∧ okL okD.flight x.list
def D.Local.ok (x : D.Local) : Prop := True ∧ D.Ival.ok x.bound ∧ i64 x.at_
def D.Ask.ok (x : D.Ask) : Prop := i64 x.nonce ∧ i64 x.to ∧ i64 x.at_ ∧ i64 x.tries
@[reducible] def okD.ask (x : D.Ask) : Prop := D.Ask.ok x
def D.Table.ok (x : D.Table) : Prop := i64 x.epoch ∧ i64 x.used ∧ okL okD.ask x.asks
def D.Trip.ok (x : D.Trip) : Prop := i64 x.frm ∧ D.Ival.ok x.said ∧ i64 x.sent ∧ i64 x.got
@[reducible] def okD.trip (x : D.Trip) : Prop := D.Trip.ok x
def D.Peer.ok (x : D.Peer) : Prop := i64 x.id ∧ D.Ival.ok x.bound ∧ i64 x.at_ ∧ True
@[reducible] def okD.peer (x : D.Peer) : Prop := D.Peer.ok x
def D.Frac.ok (x : D.Frac) : Prop := i64 x.num ∧ i64 x.den
def D.App.ok (x : D.App) : Prop := True ∧ i64 x.last
def D.Look.ok (x : D.Look) : Prop := True ∧ D.Ival.ok x.now
@[reducible] def okD.look (x : D.Look) : Prop := D.Look.ok x
def D.Reading.ok (x : D.Reading) : Prop := i64 x.value ∧ True ∧ i64 x.code
@[reducible] def okD.reading (x : D.Reading) : Prop := D.Reading.ok x
def D.Slot.ok (x : D.Slot) : Prop := i64 x.owner ∧ i64 x.long
@[reducible] def okD.slot (x : D.Slot) : Prop := D.Slot.ok x
def D.Plan.ok (x : D.Plan) : Prop := i64 x.start ∧ i64 x.gap ∧ okL okD.slot x.slots
def D.Frame.ok (x : D.Frame) : Prop := i64 x.frm ∧ i64 x.slot ∧ i64 x.round ∧ i64 x.start ∧ i64 x.end_ ∧ okS x.body
@[reducible] def okD.frame (x : D.Frame) : Prop := D.Frame.ok x
def D.Clash.ok (x : D.Clash) : Prop := i64 x.a ∧ i64 x.b
@[reducible] def okD.clash (x : D.Clash) : Prop := D.Clash.ok x
def D.Heard.ok (x : D.Heard) : Prop := i64 x.slot ∧ i64 x.at_
@[reducible] def okD.heard (x : D.Heard) : Prop := D.Heard.ok x
def D.Life.ok (x : D.Life) : Prop := i64 x.mode ∧ i64 x.epoch ∧ i64 x.since
def D.Event.ok (x : D.Event) : Prop := i64 x.kind ∧ i64 x.at_
@[reducible] def okD.event (x : D.Event) : Prop := D.Event.ok x
def D.Cfg.ok (x : D.Cfg) : Prop := D.Drift.ok x.drift ∧ i64 x.lie ∧ i64 x.least ∧ i64 x.patience ∧ i64 x.age ∧ i64 x.keep ∧ i64 x.long ∧ D.Plan.ok x.plan
def D.Node.ok (x : D.Node) : Prop := i64 x.id ∧ D.Life.ok x.life ∧ D.Local.ok x.loc ∧ D.Table.ok x.table ∧ okL okD.peer x.peers ∧ D.App.ok x.app ∧ okL okD.heard x.heard ∧ i64 x.sent
@[reducible] def okD.node (x : D.Node) : Prop := D.Node.ok x
def D.World.ok (x : D.World) : Prop := D.Cfg.ok x.cfg ∧ okL okD.bool x.liars ∧ i64 x.time ∧ okL okD.int x.counts ∧ okL okD.node x.nodes ∧ D.Net.ok x.net ∧ okL okD.frame x.frames
def D.Op.ok (x : D.Op) : Prop := i64 x.kind ∧ i64 x.node ∧ i64 x.to ∧ i64 x.a ∧ i64 x.b ∧ okS x.text ∧ okL okD.int x.list
@[reducible] def okD.op (x : D.Op) : Prop := D.Op.ok x
def D.Told.ok (x : D.Told) : Prop := i64 x.kind ∧ i64 x.node ∧ i64 x.code ∧ i64 x.value ∧ True ∧ True ∧ D.Ival.ok x.was ∧ D.Ival.ok x.now
@[reducible] def okD.told (x : D.Told) : Prop := D.Told.ok x

@[reducible] def okD : (c : Cd) → den c → Prop
  | .int, x => okD.int x
  | .byte, x => okD.byte x
  | .bool, x => okD.bool x
  | .str, x => okD.str x
  | .ival, x => okD.ival x
  | .stride, x => okD.stride x
  | .mark, x => okD.mark x
  | .msg, x => okD.msg x
  | .flight, x => okD.flight x
  | .ask, x => okD.ask x
  | .trip, x => okD.trip x
  | .peer, x => okD.peer x
  | .look, x => okD.look x
  | .reading, x => okD.reading x
  | .slot, x => okD.slot x
  | .frame, x => okD.frame x
  | .clash, x => okD.clash x
  | .heard, x => okD.heard x
  | .event, x => okD.event x
  | .node, x => okD.node x
  | .op, x => okD.op x
  | .told, x => okD.told x

end Go.X
