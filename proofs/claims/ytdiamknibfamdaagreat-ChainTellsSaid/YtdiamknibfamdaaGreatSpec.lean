/- What the functions of the layer 'plan' come to, in plain Lean. -/
import Derived.Test.YtdiamknibfamdaaGreatData
namespace Go.Proofs.YtdiamknibfamdaaGreat

def fromB (n a b : Int) : Bool := decide (a ≤ n) && decide (n ≤ b)
def leB (n b : Int) : Bool := decide (n ≤ b)
/-- The greatest count. -/
def mx : Int := 4611686018427387903
def addU (a b : Int) : Int := (a + b) % 18446744073709551616
def cmpB (x y : Int) : Int := if x < y then -1 else if y < x then 1 else 0

def placeB (x : Place) : Bool := fromB x.node 1 15 && fromB x.serial 1 4611686018427387903
def countsB (l : List Int) : Bool := l.all fun n => decide (n ≤ 4611686018427387903)
def pastB (x : Past) : Bool :=
  fromB x.who 1 15 && fromB x.inc 1 4611686018427387903 && fromB x.n 1 4611686018427387903 && fromB x.out.code 0 9 && fromB x.out.owner 0 15 && countsB [x.out.epoch, x.out.at_, x.out.ledger]
def ownedB (c : Channel) : Bool :=
  if c.epoch = 0 then decide (c.owner = 0) && decide (c.inc = 0) && decide (c.ledgers.length = 0) else fromB c.owner 1 15 && fromB c.inc 1 4611686018427387903

/-- No two alike. -/
def distinctB (l : List Int) : Bool := decide l.Nodup

def fragB (w : Int) (f : Frag) : Bool :=
  fromB f.first 1 9 && fromB f.bookies.length w 5 && f.bookies.all placeB && distinctB (f.bookies.map (·.node))
def firstIsOne (l : List Frag) : Bool := match l with | f :: _ => decide (f.first = 1) | [] => false
def mayFragsB (w : Int) (l : List Frag) : Bool :=
  fromB l.length 1 6 && firstIsOne l && l.all (fragB w) && riseB (l.map (·.first))
def mayLedgerB (l : Ledger) : Bool :=
  fromB l.id 1 4611686018427387903 && fromB l.a 1 l.w && decide (l.w ≤ 5) && mayFragsB l.w l.frags && fromB l.closed 0 1 && decide (l.last ≤ 8 * l.closed)
def markB (first : Int) (x : Mark) : Bool := fromB x.producer 1 15 && fromB x.seq 1 4611686018427387903 && decide (x.offset < first)
def seenB (c : Channel) : Bool :=
  decide (c.seen.length ≤ 6) && riseB (c.seen.map (·.producer)) && distinctB (c.seen.map (·.offset)) && c.seen.all (markB c.first)
def cursorB (x : Cursor) : Bool := fromB x.sub 1 3 && countsB [x.at_]

/-- The ledger of an Id. -/
def findL (ls : List Ledger) (id : Int) : Option Ledger := ls.find? fun l => decide (l.id = id)
def lastOf (ls : List Ledger) (id : Int) : Int := match findL ls id with | some l => l.last | none => 0
/-- The closed end of a channel. -/
def endOf (ls : List Ledger) (c : Channel) : Int := c.ledgers.foldl (fun e id => addU e (lastOf ls id)) c.first
/-- Its last ledger, if that is open. -/
def openOf (ls : List Ledger) (c : Channel) : Option Ledger :=
  match c.ledgers.getLast? with
  | none => none
  | some id => match findL ls id with | some l => if l.closed = 0 then some l else none | none => none

end Go.Proofs.YtdiamknibfamdaaGreat
