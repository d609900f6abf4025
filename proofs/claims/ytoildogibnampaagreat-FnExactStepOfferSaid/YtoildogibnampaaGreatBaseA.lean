/- A walk by plain functions, part 1: that what a region of operations does is what a plain function says, for any program whose types are at hand. -/
import Derived.WalkKit
import Derived.KernelRfl
import Derived.Laws.CopyRow
import Derived.Laws.Cells

/- The universe of data of the network's program: its structs, codes of types, and typed values. -/
namespace Net
open Go

structure Span where
  From : Int
  To : Int
  deriving DecidableEq, Inhabited
structure Arc where
  Start : Int
  Width : Int
  deriving DecidableEq, Inhabited
structure Sat where
  Plane : Int
  Phase : Int
  Speed : Int
  Error : Int
  deriving DecidableEq, Inhabited
structure Site where
  Plane : Int
  Angle : Int
  Speed : Int
  deriving DecidableEq, Inhabited
structure Zone where
  Plane : Int
  Arc : Arc
  deriving DecidableEq, Inhabited
structure Sky where
  Planes : Int
  Sats : List Sat
  Sites : List Site
  Reach : Int
  Cross : Int
  View : Int
  Sun : Int
  Shadow : Int
  Zones : List Zone
  Acquire : Int
  deriving DecidableEq, Inhabited
structure Contact where
  A : Int
  B : Int
  From : Int
  To : Int
  deriving DecidableEq, Inhabited
structure Link where
  A : Int
  B : Int
  deriving DecidableEq, Inhabited
structure Table where
  Dst : Int
  Dist : List Int
  Next : List Int
  deriving DecidableEq, Inhabited
structure Piece where
  Span : Span
  Links : List Link
  Tables : List Table
  deriving DecidableEq, Inhabited
structure Prog where
  Nodes : Int
  First : Int
  Skew : Int
  Pieces : List Piece
  deriving DecidableEq, Inhabited
structure Battery where
  Level : Int
  Cap : Int
  Reserve : Int
  Base : Int
  Send : Int
  Gain : Int
  deriving DecidableEq, Inhabited
structure Packet where
  Id : Int
  Flow : Int
  Seq : Int
  Src : Int
  Dst : Int
  Class : Int
  deriving DecidableEq, Inhabited
structure Queue where
  Items : List Packet
  deriving DecidableEq, Inhabited
structure Stream where
  Flow : Int
  Next : Int
  Kept : List Int
  deriving DecidableEq, Inhabited
structure Flow where
  Id : Int
  Src : Int
  Dst : Int
  Class : Int
  deriving DecidableEq, Inhabited
structure Law where
  Allowed : List Int
  deriving DecidableEq, Inhabited
structure Handover where
  At : Int
  Before : List Int
  After : List Int
  deriving DecidableEq, Inhabited
structure Fault where
  A : Int
  B : Int
  From : Int
  To : Int
  deriving DecidableEq, Inhabited
structure Sent where
  Tick : Int
  From : Int
  To : Int
  Id : Int
  deriving DecidableEq, Inhabited
structure Wd where
  Sky : Sky
  Program : Prog
  Law : Law
  Offsets : List Int
  Batteries : List Battery
  Queues : List Queue
  Flows : List Flow
  Counts : List Int
  Streams : List Stream
  Faults : List Fault
  Now : Int
  End : Int
  Done : List Packet
  Log : List Sent
  deriving DecidableEq, Inhabited
structure Event where
  Kind : Int
  N : Int
  Flow : Flow
  Fault : Fault
  deriving DecidableEq, Inhabited
structure Cur where
  b : List Int
  i : Int
  h : Int
  deriving DecidableEq, Inhabited

inductive SId where
  | span | arc | sat | site | zone | sky | contact | link | table | piece | prog | battery | packet | queue | stream | flow | law | handover | fault | sent | world | event | cur
  deriving DecidableEq, Inhabited

inductive Ty where
  | int (k : IntKind)
  | bool
  | str
  | sl (e : Ty)
  | st (s : SId)
  deriving DecidableEq, Inhabited

abbrev Str : SId → Type
  | .span => Span | .arc => Arc | .sat => Sat | .site => Site | .zone => Zone | .sky => Sky | .contact => Contact | .link => Link | .table => Table | .piece => Piece
  | .prog => Prog | .battery => Battery | .packet => Packet | .queue => Queue | .stream => Stream | .flow => Flow | .law => Law | .handover => Handover | .fault => Fault
  | .sent => Sent | .world => Wd | .event => Event | .cur => Cur

abbrev El : Ty → Type
  | .int _ => Int
  | .bool => Bool
  | .str => ByteArray
  | .sl e => List (El e)
  | .st s => Str s

abbrev I64 : Ty := .int .i64

def fieldsOf : SId → List Ty
  | .span => [I64, I64]
  | .arc => [I64, I64]
  | .sat => [I64, I64, I64, I64]
  | .site => [I64, I64, I64]
  | .zone => [I64, .st .arc]
  | .sky => [I64, .sl (.st .sat), .sl (.st .site), I64, I64, I64, I64, I64, .sl (.st .zone), I64]
  | .contact => [I64, I64, I64, I64]
  | .link => [I64, I64]
  | .table => [I64, .sl I64, .sl I64]
  | .piece => [.st .span, .sl (.st .link), .sl (.st .table)]
  | .prog => [I64, I64, I64, .sl (.st .piece)]
  | .battery => [I64, I64, I64, I64, I64, I64]
  | .packet => [I64, I64, I64, I64, I64, I64]
  | .queue => [.sl (.st .packet)]
  | .stream => [I64, I64, .sl I64]
  | .flow => [I64, I64, I64, I64]
  | .law => [.sl I64]
  | .handover => [I64, .sl I64, .sl I64]
  | .fault => [I64, I64, I64, I64]
  | .sent => [I64, I64, I64, I64]
  | .world => [.st .sky, .st .prog, .st .law, .sl I64, .sl (.st .battery), .sl (.st .queue), .sl (.st .flow), .sl I64, .sl (.st .stream), .sl (.st .fault), I64, I64, .sl (.st .packet), .sl (.st .sent)]
  | .event => [I64, I64, .st .flow, .st .fault]
  | .cur => [.sl (.int .u8), I64, I64]

/-- A tuple of typed values. -/
abbrev HL : List Ty → Type
  | [] => Unit
  | t :: ts => El t × HL ts

def toL : (s : SId) → Str s → HL (fieldsOf s)
  | .span, x => (x.From, x.To, ())
  | .arc, x => (x.Start, x.Width, ())
  | .sat, x => (x.Plane, x.Phase, x.Speed, x.Error, ())
  | .site, x => (x.Plane, x.Angle, x.Speed, ())
  | .zone, x => (x.Plane, x.Arc, ())
  | .sky, x => (x.Planes, x.Sats, x.Sites, x.Reach, x.Cross, x.View, x.Sun, x.Shadow, x.Zones, x.Acquire, ())
  | .contact, x => (x.A, x.B, x.From, x.To, ())
  | .link, x => (x.A, x.B, ())
  | .table, x => (x.Dst, x.Dist, x.Next, ())
  | .piece, x => (x.Span, x.Links, x.Tables, ())
  | .prog, x => (x.Nodes, x.First, x.Skew, x.Pieces, ())
  | .battery, x => (x.Level, x.Cap, x.Reserve, x.Base, x.Send, x.Gain, ())
  | .packet, x => (x.Id, x.Flow, x.Seq, x.Src, x.Dst, x.Class, ())
  | .queue, x => (x.Items, ())
  | .stream, x => (x.Flow, x.Next, x.Kept, ())
  | .flow, x => (x.Id, x.Src, x.Dst, x.Class, ())
  | .law, x => (x.Allowed, ())
  | .handover, x => (x.At, x.Before, x.After, ())
  | .fault, x => (x.A, x.B, x.From, x.To, ())
  | .sent, x => (x.Tick, x.From, x.To, x.Id, ())
  | .world, x => (x.Sky, x.Program, x.Law, x.Offsets, x.Batteries, x.Queues, x.Flows, x.Counts, x.Streams, x.Faults, x.Now, x.End, x.Done, x.Log, ())
  | .event, x => (x.Kind, x.N, x.Flow, x.Fault, ())
  | .cur, x => (x.b, x.i, x.h, ())

def ofL : (s : SId) → HL (fieldsOf s) → Str s
  | .span, (a, b, _) => ⟨a, b⟩
  | .arc, (a, b, _) => ⟨a, b⟩
  | .sat, (a, b, c, d, _) => ⟨a, b, c, d⟩
  | .site, (a, b, c, _) => ⟨a, b, c⟩
  | .zone, (a, b, _) => ⟨a, b⟩
  | .sky, (a, b, c, d, e, f, g, h, i, j, _) => ⟨a, b, c, d, e, f, g, h, i, j⟩
  | .contact, (a, b, c, d, _) => ⟨a, b, c, d⟩
  | .link, (a, b, _) => ⟨a, b⟩
  | .table, (a, b, c, _) => ⟨a, b, c⟩
  | .piece, (a, b, c, _) => ⟨a, b, c⟩
  | .prog, (a, b, c, d, _) => ⟨a, b, c, d⟩
  | .battery, (a, b, c, d, e, f, _) => ⟨a, b, c, d, e, f⟩
  | .packet, (a, b, c, d, e, f, _) => ⟨a, b, c, d, e, f⟩
  | .queue, (a, _) => ⟨a⟩
  | .stream, (a, b, c, _) => ⟨a, b, c⟩
  | .flow, (a, b, c, d, _) => ⟨a, b, c, d⟩
  | .law, (a, _) => ⟨a⟩
  | .handover, (a, b, c, _) => ⟨a, b, c⟩
  | .fault, (a, b, c, d, _) => ⟨a, b, c, d⟩
  | .sent, (a, b, c, d, _) => ⟨a, b, c, d⟩
  | .world, (a, b, c, d, e, f, g, h, i, j, k, l, m, n, _) => ⟨a, b, c, d, e, f, g, h, i, j, k, l, m, n⟩
  | .event, (a, b, c, d, _) => ⟨a, b, c, d⟩
  | .cur, (a, b, c, _) => ⟨a, b, c⟩

theorem ofL_toL (s : SId) (x : Str s) : ofL s (toL s x) = x := by cases s <;> rfl
theorem toL_ofL (s : SId) (x : HL (fieldsOf s)) : toL s (ofL s x) = x := by cases s <;> rfl

/-- The empty value of each type. -/
def zeroS : (s : SId) → Str s
  | .span => ⟨0, 0⟩
  | .arc => ⟨0, 0⟩
  | .sat => ⟨0, 0, 0, 0⟩
  | .site => ⟨0, 0, 0⟩
  | .zone => ⟨0, ⟨0, 0⟩⟩
  | .sky => ⟨0, [], [], 0, 0, 0, 0, 0, [], 0⟩
  | .contact => ⟨0, 0, 0, 0⟩
  | .link => ⟨0, 0⟩
  | .table => ⟨0, [], []⟩
  | .piece => ⟨⟨0, 0⟩, [], []⟩
  | .prog => ⟨0, 0, 0, []⟩
  | .battery => ⟨0, 0, 0, 0, 0, 0⟩
  | .packet => ⟨0, 0, 0, 0, 0, 0⟩
  | .queue => ⟨[]⟩
  | .stream => ⟨0, 0, []⟩
  | .flow => ⟨0, 0, 0, 0⟩
  | .law => ⟨[]⟩
  | .handover => ⟨0, [], []⟩
  | .fault => ⟨0, 0, 0, 0⟩
  | .sent => ⟨0, 0, 0, 0⟩
  | .world => ⟨⟨0, [], [], 0, 0, 0, 0, 0, [], 0⟩, ⟨0, 0, 0, []⟩, ⟨[]⟩, [], [], [], [], [], [], [], 0, 0, [], []⟩
  | .event => ⟨0, 0, ⟨0, 0, 0, 0⟩, ⟨0, 0, 0, 0⟩⟩
  | .cur => ⟨[], 0, 0⟩

def zeroE : (t : Ty) → El t
  | .int _ => (0 : Int)
  | .bool => false
  | .str => ByteArray.empty
  | .sl _ => []
  | .st s => zeroS s

/-- Types without slices (and without strings' bytes, which nobody writes): copied freely. -/
def plainS : SId → Bool
  | .span | .arc | .sat | .site | .zone | .contact | .link | .battery | .packet | .flow | .fault | .sent | .event => true
  | _ => false
def plainT : Ty → Bool
  | .int _ | .bool | .str => true
  | .sl _ => false
  | .st s => plainS s

/-- How many cells a value takes. -/
def cszS : SId → Nat
  | .span => 2 | .arc => 2 | .sat => 4 | .site => 3 | .zone => 3 | .sky => 10 | .contact => 4 | .link => 2 | .table => 3 | .piece => 4 | .prog => 4 | .battery => 6 | .packet => 6
  | .queue => 1 | .stream => 3 | .flow => 4 | .law => 1 | .handover => 3 | .fault => 4 | .sent => 4 | .world => 26 | .event => 10 | .cur => 3
def csz : Ty → Nat
  | .st s => cszS s
  | _ => 1
theorem cszS_eq (s : SId) : cszS s = ((fieldsOf s).map csz).sum := by cases s <;> rfl

/-- '==' of plain values. -/
def eqE : (t : Ty) → El t → El t → Option Bool
  | .int _, x, y => some ((x : Int) == y)
  | .bool, x, y => some ((x : Bool) == y)
  | .str, x, y => some ((x : ByteArray) == y)
  | .sl _, _, _ => none
  | .st .span, x, y => some (decide ((x : Span) = y))
  | .st .arc, x, y => some (decide ((x : Arc) = y))
  | .st .sat, x, y => some (decide ((x : Sat) = y))
  | .st .site, x, y => some (decide ((x : Site) = y))
  | .st .zone, x, y => some (decide ((x : Zone) = y))
  | .st .contact, x, y => some (decide ((x : Contact) = y))
  | .st .link, x, y => some (decide ((x : Link) = y))
  | .st .battery, x, y => some (decide ((x : Battery) = y))
  | .st .packet, x, y => some (decide ((x : Packet) = y))
  | .st .flow, x, y => some (decide ((x : Flow) = y))
  | .st .fault, x, y => some (decide ((x : Fault) = y))
  | .st .sent, x, y => some (decide ((x : Sent) = y))
  | .st _, _, _ => none

def castE (a b : Ty) (x : El a) : Option (El b) := if h : a = b then some (h ▸ x) else none

def nthL : (ts : List Ty) → HL ts → Nat → Option ((t : Ty) × El t)
  | [], _, _ => none
  | t :: _, x, 0 => some ⟨t, x.1⟩
  | _ :: ts, x, n + 1 => nthL ts x.2 n
def setL : (ts : List Ty) → HL ts → Nat → (t : Ty) → El t → Option (HL ts)
  | [], _, _, _, _ => none
  | t :: _, x, 0, u, y => (castE u t y).map fun z => (z, x.2)
  | _ :: ts, x, n + 1, u, y => (setL ts x.2 n u y).map fun z => (x.1, z)
end Net

/- The abstract interpreter: values with their ownership, operations as programs over slots, code in continuation passing. -/
namespace Net
open Go
set_option linter.unusedVariables false

/-- Whose memory a value's slices lie in. -/
inductive Tag where
  | imm (k : Bool)
  | own
  | dead
  | st (gs : List Tag)
  | os (g : Tag)

inductive Step where
  | f (i : Nat)
  | ix (n : Nat)

abbrev Up := List (((t : Ty) × El t) × Step)

/-- Where what is read lies: in memory that nobody changes while the call runs (all of it; that of the cursors); in what a slot owns. -/
inductive VS where
  | ip
  | k
  | slot (r m : Nat)

inductive AV where
  | dead
  | und
  | own (t : Ty) (x : El t) (g : Tag)
  | vw (t : Ty) (x : El t) (src : VS)
  | al (t : Ty) (x : El t) (s v : Nat) (up : Up) (ex : Bool)
  | box (t : Ty) (x : El t) (g : Tag)
  | ptr (t : Ty) (x : El t) (s v : Nat) (up : Up)
  | pvw (t : Ty) (x : El t) (src : VS)
  | bcp (t : Ty) (s : Nat)
  | pcp (t u : Ty) (s : Nat) (p : List Nat) (rb m : Nat)
  | tup (s k v : Nat)
  | clo (as : List Ty) (r : Ty) (F : HL as → Option (El r)) (srcs : List (Nat × Nat))

/-- What a parameter is: a value that is only read; a box that is written; a slice that is written; a function. -/
inductive PK where
  | val (t : Ty) (esc : Bool)
  | cp (t : Ty)
  | io (t : Ty) (g : Tag)
  | ios (t : Ty)
  | fn (as : List Ty) (r : Ty)

inductive RK where
  | v (t : Ty) (g : Tag)
  | pb (t : Ty) (g : Tag)

abbrev PKT : PK → Type
  | .val t _ => El t
  | .cp t => El t
  | .io t _ => El t
  | .ios t => El t
  | .fn as r => HL as → Option (El r)
abbrev Args : List PK → Type
  | [] => Unit
  | p :: ps => PKT p × Args ps
abbrev IoL : List PK → Type
  | [] => Unit
  | .io t _ :: ps => El t × IoL ps
  | .ios t :: ps => El t × IoL ps
  | _ :: ps => IoL ps
abbrev RL : List RK → Type
  | [] => Unit
  | .v t _ :: rs => El t × RL rs
  | .pb t _ :: rs => El t × RL rs

structure Sig where
  ps : List PK
  rs : List RK
  O : Type
  F : Args ps → Option O
  out : O → IoL ps × RL rs

structure Tb where
  ty : Nat → Option Ty
  sg : Nat → Option Sig
  nt : Nat
  io : List Nat := []

/-- A program over slots. 'get' hands the slot's value and its version. -/
inductive Mp : Type 1 where
  | done
  | fail
  | get (s : Nat) (k : AV → Nat → Mp)
  | set (s : Nat) (v : AV) (k : Mp)
  | cond (b : Bool) (t e : Mp)
  | br (s : Nat) (t e u : Mp)
  | bnd {α : Type} (o : Option α) (k : α → Mp)

def chk (b : Bool) (k : Mp) : Mp := match b with | true => k | false => .fail

/- tags -/
mutual
def aliveT : Ty → Tag → Bool
  | .st s, .st gs => aliveTs (fieldsOf s) gs
  | .sl e, .os g => aliveT e g
  | _, .dead => false
  | _, _ => true
def aliveTs : List Ty → List Tag → Bool
  | t :: ts, g :: gs => aliveT t g && aliveTs ts gs
  | [], [] => true
  | _, _ => false
end
mutual
def ownT : Ty → Tag → Bool
  | .st s, .st gs => (plainS s && aliveTs (fieldsOf s) gs) || ownTs (fieldsOf s) gs
  | _, .dead => false
  | _, .own => true
  | t, _ => plainT t
def ownTs : List Ty → List Tag → Bool
  | t :: ts, g :: gs => ownT t g && ownTs ts gs
  | [], [] => true
  | _, _ => false
end
def Tag.isImm : Tag → Bool | .imm false => true | _ => false
def splitT (n : Nat) : Tag → List Tag
  | .st gs => gs
  | g => List.replicate n g
def tagAt : Tag → List Step → Tag
  | g, [] => g
  | .st gs, .f i :: p => match gs[i]? with | some g => tagAt g p | none => .dead
  | .os g, .ix _ :: p => tagAt g p
  | .imm k, _ => .imm k
  | .own, _ => .own
  | _, _ => .dead
def killT : Ty → Tag → List Step → Option Tag
  | _, _, [] => some .dead
  | .st s, g, .f i :: p =>
    let gs := splitT (fieldsOf s).length g
    match (fieldsOf s)[i]?, gs[i]? with
    | some u, some gi => (killT u gi p).map fun z => .st (gs.set i z)
    | _, _ => none
  | _, _, _ => none
def setT : Ty → Tag → List Step → Tag → Option Tag
  | _, _, [], g' => some g'
  | .st s, g, .f i :: p, g' =>
    let gs := splitT (fieldsOf s).length g
    match (fieldsOf s)[i]?, gs[i]? with
    | some u, some gi => (setT u gi p g').map fun z => .st (gs.set i z)
    | _, _ => none
  | .sl e, .own, .ix _ :: p, g' => match setT e .own p g' with | some z => (match ownT e z with | true => some .own | false => none) | none => none
  | _, _, _, _ => none
def wrtT : Ty → Tag → List Step → Bool
  | _, _, [] => true
  | .st s, g, .f i :: p => match (fieldsOf s)[i]?, (splitT (fieldsOf s).length g)[i]? with | some u, some gi => wrtT u gi p | _, _ => false
  | .sl e, .own, .ix _ :: p => wrtT e .own p
  | _, _, _ => false

/- contents -/
def updStep (pt : (t : Ty) × El t) (s : Step) (u : Ty) (y : El u) : Option ((t : Ty) × El t) :=
  match pt, s with
  | ⟨.st n, x⟩, .f i => (setL (fieldsOf n) (toL n x) i u y).map fun z => ⟨.st n, ofL n z⟩
  | ⟨.sl e, xs⟩, .ix i => (castE u e y).map fun z => ⟨.sl e, List.set xs i z⟩
  | _, _ => none
def updUp : Up → (u : Ty) → El u → Option ((t : Ty) × El t)
  | [], u, y => some ⟨u, y⟩
  | (pt, s) :: up, u, y => match updStep pt s u y with | some ⟨t', z⟩ => updUp up t' z | none => none
def stepsOf (up : Up) : List Step := (up.map (·.2)).reverse

def rdI {α : Type} (xs : List α) (i : Int) : Option α := if 0 ≤ i then xs[i.toNat]? else none
def rdS (s : ByteArray) (i : Int) : Option Int := if 0 ≤ i then (s[i.toNat]?).map fun b => (b.toNat : Int) else none
def room : Nat := 68719476736
def appE {α : Type} (xs ys : List α) : Option (List α) := if xs.length + ys.length ≤ room then some (xs ++ ys) else none
def mkE {α : Type} (z : α) (n : Int) : Option (List α) := if 0 ≤ n ∧ n ≤ room then some (List.replicate n.toNat z) else none
def addS (a b : ByteArray) : Option ByteArray := if a.size + b.size ≤ room then some (a ++ b) else none
def subI {α : Type} (xs : List α) (lo hi : Int) : Option (List α) := if 0 ≤ lo ∧ lo ≤ hi ∧ hi ≤ xs.length then some ((xs.take hi.toNat).drop lo.toNat) else none
def subS (s : ByteArray) (lo hi : Int) : Option ByteArray := if 0 ≤ lo ∧ lo ≤ hi ∧ hi ≤ s.size then some (s.extract lo.toNat hi.toNat) else none
def divI (k : IntKind) (x y : Int) : Option Int := if y = 0 then none else some (k.wrap (x.tdiv y))
def remI (x y : Int) : Option Int := if y = 0 then none else some (x.tmod y)

def isIo (d : Nat) : List Nat → Bool
  | [] => false
  | m :: l => match Nat.beq d m with | true => true | false => isIo d l
/-- Below fields alone. -/
def walkF : (t : Ty) → El t → List Nat → Up → Option (((t : Ty) × El t) × Up)
  | t, x, [], up => some (⟨t, x⟩, up)
  | .st s, x, i :: p, up => match nthL (fieldsOf s) (toL s x) i with
    | some ⟨u, y⟩ => walkF u y p ((⟨.st s, x⟩, .f i) :: up)
    | none => none
  | _, _, _ :: _, _ => none
def addrTy : Ty → List Nat → Option (Ty × Nat)
  | t, [] => some (t, 0)
  | .st s, i :: p => match (fieldsOf s)[i]? with
    | some u => (addrTy u p).map fun z => (z.1, (((fieldsOf s).take i).map csz).sum + z.2)
    | none => none
  | _, _ :: _ => none

def tyIs (o : Option Ty) (t : Ty) : Bool := decide (o = some t)

section
variable (E : Tb)

def constAV (t : Option Ty) : Value → AV
  | .int k n => match (Lit.int k n).wf with | true => .own (.int k) n .own | false => .dead
  | .bool b => .own .bool b .own
  | .string s => match decide (s.size ≤ maxLen) with | true => .own .str s .own | false => .dead
  | .slice none 0 0 => match t with | some (.sl e) => .own (.sl e) [] .own | _ => .dead
  | _ => .dead

/-- An operand's value, its slot and version ('none' for a constant). -/
def rd (t : Option Ty) (o : Operand) (k : AV → Option Nat → Nat → Mp) : Mp :=
  match o with
  | .tmp s => chk (Nat.blt s E.nt) (.get s fun v n => k v (some s) n)
  | .const c => k (constAV t c) none 0
  | .func f => match E.sg f with
    | some ⟨ps, [.v r _], O, F, out⟩ => (match cloOf ps with
      | some ⟨as, c⟩ => chk (plainT r) (k (.clo as r (fun xs => (F (c xs)).map fun o => (out o).2.1) []) none 0)
      | none => .fail)
    | _ => .fail
  | .global _ => .fail
where
  /-- the parameters of a function that is handed over as a value: values alone -/
  cloOf : (ps : List PK) → Option ((as : List Ty) × (HL as → Args ps))
    | [] => some ⟨[], fun x => x⟩
    | .val t false :: ps => match cloOf ps with | some ⟨as, c⟩ => some ⟨t :: as, fun x => (x.1, c x.2)⟩ | none => none
    | _ :: _ => none

/-- A value that is read: its type, its content, and where it lies. -/
def viewK (t : Option Ty) (o : Operand) (k : (t : Ty) → El t → VS → Mp) : Mp :=
  rd E t o fun v s n => match v with
    | .own t x g => chk (aliveT t g) (match plainT t, s with | false, some s => k t x (.slot s n) | _, _ => k t x .ip)
    | .vw t x (.slot r m) => .get r fun _ m' => chk (Nat.beq m m') (k t x (.slot r m))
    | .vw t x s => k t x s
    | .al t x r m up _ => .get r fun root m' => chk (Nat.beq m m') (k t x (.slot r m))
    | _ => .fail

/-- A value that is taken over: from where it lay it is gone. -/
def takeB (v : AV) (s : Option Nat) (n : Nat) (k : (t : Ty) → El t → Tag → Mp) : Mp :=
  match v with
    | .own t x g => chk (aliveT t g) (match plainT t with
      | true => k t x .own
      | false => (match s with
        | some s => .set s .dead (k t x g)
        | none => k t x g))
    | .vw t x .ip => k t x (match plainT t with | true => .own | false => .imm false)
    | .vw t x .k => k t x (match plainT t with | true => .own | false => .imm true)
    | .al t x r m up _ => .get r fun root m' => chk (Nat.beq m m') (match root with
      | .own tr xr gr => (match tagAt gr (stepsOf up) with
        | .imm q => k t x (.imm q)
        | g => chk (aliveT t g) (match stepsOf up, killT tr gr (stepsOf up) with
          | [], _ => .set r .dead (k t x g)
          | _, some gr' => .set r (.own tr xr gr') (k t x g)
          | _, none => .fail))
      | .box tr xr gr => (match tagAt gr (stepsOf up) with
        | .imm q => k t x (.imm q)
        | g => chk (aliveT t g) (match killT tr gr (stepsOf up) with
          | some gr' => .set r (.box tr xr gr') (k t x g)
          | none => .fail))
      | _ => .fail)
    | _ => .fail
def takeK (t : Option Ty) (o : Operand) (k : (t : Ty) → El t → Tag → Mp) : Mp := rd E t o fun v s n => takeB v s n k

def mkAV (t : Ty) (x : El t) (g : Tag) : AV := match plainT t, g with
  | false, .imm true => .vw t x .k
  | false, .imm false => .vw t x .ip
  | false, g => .own t x g
  | true, _ => .own t x .own

def intK (o : Operand) (k : IntKind → Int → Mp) : Mp := viewK E none o fun t x _ => match t, x with | .int q, n => k q n | _, _ => .fail
def boolK (o : Operand) (k : Bool → Mp) : Mp := viewK E none o fun t x _ => match t, x with | .bool, b => k b | _, _ => .fail

def setD (d : Option Nat) (v : AV) (k : Mp) : Mp := match d with | some d => chk (Nat.blt d E.nt && !isIo d E.io) (.set d v k) | none => k

def moveK (t : Option Ty) (o : Operand) (d : Option Nat) (k : Mp) : Mp :=
  rd E t o fun v s n => match v with
    | .own t x g => (match plainT t, s with
      | false, some s => chk (aliveT t g) (setD E d (.al t x s n [] true) k)
      | _, _ => setD E d (.own t x g) k)
    | .box t x g => (match s with | some s => setD E d (.ptr t x s n []) k | none => .fail)
    | .bcp _ _ => .fail
    | v => setD E d v k

def assignK (t : Option Ty) (o : Operand) (d : Option Nat) (k : Mp) : Mp :=
  rd E t o fun v s n => match v with
    | .own _ _ _ => takeK E t o fun t x g => setD E d (mkAV t x g) k
    | .al _ _ _ _ _ _ => takeK E t o fun t x g => setD E d (mkAV t x g) k
    | .box t x g => (match s with | some s => .set s .dead (setD E d (.box t x g) k) | none => .fail)
    | .bcp _ _ => .fail
    | v => setD E d v k

def readPtr (o : Operand) (k : (t : Ty) → El t → AV → Mp) : Mp :=
  -- 'AV': what a load of a value that is not plain yields
  rd E none o fun v s n => match v with
    | .box t x g => chk (aliveT t g) (match s with | some s => k t x (.al t x s n [] true) | none => .fail)
    | .ptr t x r m up => .get r fun root m' => chk (Nat.beq m m') (match root with
      | .own _ _ gr => chk (aliveT t (tagAt gr (stepsOf up))) (k t x (.al t x r m up true))
      | .box _ _ gr => chk (aliveT t (tagAt gr (stepsOf up))) (k t x (.al t x r m up true))
      | _ => .fail)
    | .pvw t x (.slot r m) => .get r fun _ m' => chk (Nat.beq m m') (k t x (.vw t x (.slot r m)))
    | .pvw t x s => k t x (.vw t x s)
    | .bcp t s => .get s fun v n => (match v with
      | .own u x g => chk (decide (u = t) && aliveT u g) (k u x (.al u x s n [] true))
      | _ => .fail)
    | .pcp t u s p rb m => .get rb fun _ m' => chk (Nat.beq m m') (.get s fun v n => (match v with
      | .own t' x g => chk (decide (t' = t)) (match walkF t' x p [] with
        | some (⟨u', y⟩, up) => chk (decide (u' = u) && aliveT u' (tagAt g (stepsOf up))) (k u' y (.al u' y s n up true))
        | none => .fail)
      | _ => .fail))
    | _ => .fail

def loadK (tt : Option Ty) (o : Operand) (d : Option Nat) (k : Mp) : Mp :=
  readPtr E o fun t x v => chk (tyIs tt t) (setD E d (match plainT t with | true => .own t x .own | false => v) k)

def storeK (t : Option Ty) (a o : Operand) (k : Mp) : Mp :=
  rd E none a fun v s _ => match v with
    | .box _ _ _ => (match s with
      | some s => takeK E t o fun u y g => .get s fun root _ => (match root with
        | .box tr _ _ => chk (tyIs t tr) (match castE u tr y with | some z => .set s (.box tr z g) k | none => .fail)
        | _ => .fail)
      | none => .fail)
    | .ptr t' _ r m up => takeK E t o fun u y g => .get r fun root m' => chk (Nat.beq m m' && tyIs t t') (match castE u t' y with
      | some z => (match root, updUp up t' z with
        | .own tr _ gr, some ⟨tr', xr'⟩ => (match castE tr' tr xr', setT tr gr (stepsOf up) g with
          | some w, some gr' => chk (wrtT tr gr (stepsOf up)) (.set r (.own tr w gr') k)
          | _, _ => .fail)
        | .box tr _ gr, some ⟨tr', xr'⟩ => (match castE tr' tr xr', setT tr gr (stepsOf up) g with
          | some w, some gr' => chk (wrtT tr gr (stepsOf up)) (.set r (.box tr w gr') k)
          | _, _ => .fail)
        | _, _ => .fail)
      | none => .fail)
    | _ => .fail

def fieldAddrK (tt : Option Ty) (o : Operand) (i : Nat) (d : Option Nat) (k : Mp) : Mp :=
  rd E none o fun v s n => match v with
    | .box (.st q) x _ => chk (tyIs tt (.st q)) (match s, nthL (fieldsOf q) (toL q x) i with
      | some s, some ⟨u, y⟩ => setD E d (.ptr u y s n [(⟨.st q, x⟩, .f i)]) k
      | _, _ => .fail)
    | .ptr (.st q) x r m up => .get r fun _ m' => chk (Nat.beq m m' && tyIs tt (.st q)) (match nthL (fieldsOf q) (toL q x) i with
      | some ⟨u, y⟩ => setD E d (.ptr u y r m ((⟨.st q, x⟩, .f i) :: up)) k
      | none => .fail)
    | .pvw (.st q) x (.slot r m) => .get r fun _ m' => chk (Nat.beq m m' && tyIs tt (.st q)) (match nthL (fieldsOf q) (toL q x) i with
      | some ⟨u, y⟩ => setD E d (.pvw u y (.slot r m)) k
      | none => .fail)
    | .pvw (.st q) x src => chk (tyIs tt (.st q)) (match nthL (fieldsOf q) (toL q x) i with
      | some ⟨u, y⟩ => setD E d (.pvw u y src) k
      | none => .fail)
    | .bcp (.st q) r => (match s, (fieldsOf q)[i]? with
      | some rb, some u => chk (tyIs tt (.st q)) (setD E d (.pcp (.st q) u r [i] rb n) k)
      | _, _ => .fail)
    | .pcp t (.st q) r p rb m => .get rb fun _ m' => chk (Nat.beq m m' && tyIs tt (.st q)) (match addrTy t (p ++ [i]) with
      | some (u, _) => setD E d (.pcp t u r (p ++ [i]) rb m) k
      | none => .fail)
    | _ => .fail

def indexAddrK (tt : Option Ty) (o ix : Operand) (d : Option Nat) (k : Mp) : Mp :=
  intK E ix fun _ i => rd E none o fun v s n => match v with
    | .own (.sl e) xs g => (match s with
      | some s => chk (aliveT (.sl e) g && tyIs tt (.sl e)) (.bnd (rdI xs i) fun y => setD E d (.ptr e y s n [(⟨.sl e, xs⟩, .ix i.toNat)]) k)
      | none => .fail)
    | .al (.sl e) xs r m up true => .get r fun _ m' => chk (Nat.beq m m' && tyIs tt (.sl e)) (.bnd (rdI xs i) fun y => setD E d (.ptr e y r m ((⟨.sl e, xs⟩, .ix i.toNat) :: up)) k)
    | .al (.sl e) xs r m _ false => .get r fun _ m' => chk (Nat.beq m m' && tyIs tt (.sl e)) (.bnd (rdI xs i) fun y => setD E d (.pvw e y (.slot r m)) k)
    | .vw (.sl e) xs (.slot r m) => .get r fun _ m' => chk (Nat.beq m m' && tyIs tt (.sl e)) (.bnd (rdI xs i) fun y => setD E d (.pvw e y (.slot r m)) k)
    | .vw (.sl e) xs src => chk (tyIs tt (.sl e)) (.bnd (rdI xs i) fun y => setD E d (.pvw e y src) k)
    | _ => .fail

def binK (op : BinOp) (tt : Option Ty) (x y : Operand) (d : Option Nat) (k : Mp) : Mp :=
  viewK E none x fun t a _ => viewK E none y fun u b _ => match op, t, u, a, b with
    | .shl, .int q, .int _, (m : Int), (n : Int) => .bnd (shlI q m n) fun r => setD E d (.own (.int q) r .own) k
    | .shr, .int q, .int _, (m : Int), (n : Int) => .bnd (shrI q m n) fun r => setD E d (.own (.int q) r .own) k
    | .eql, t, u, a, b => chk (tyIs tt t) (match castE u t b with | some b => (match eqE t a b with | some r => setD E d (.own .bool r .own) k | none => .fail) | none => .fail)
    | .neq, t, u, a, b => chk (tyIs tt t) (match castE u t b with | some b => (match eqE t a b with | some r => setD E d (.own .bool (!r) .own) k | none => .fail) | none => .fail)
    | op, .int q, .int q', (m : Int), (n : Int) => (match decide (q = q') with
      | true => (match op with
        | .add => setD E d (.own (.int q) (q.wrap (m + n)) .own) k
        | .sub => setD E d (.own (.int q) (q.wrap (m - n)) .own) k
        | .mul => setD E d (.own (.int q) (q.wrap (m * n)) .own) k
        | .quo => .bnd (divI q m n) fun r => setD E d (.own (.int q) r .own) k
        | .rem => .bnd (remI m n) fun r => setD E d (.own (.int q) r .own) k
        | .and => setD E d (.own (.int q) (andI q m n) .own) k
        | .or => setD E d (.own (.int q) (orI q m n) .own) k
        | .xor => setD E d (.own (.int q) (xorI q m n) .own) k
        | .lss => setD E d (.own .bool (decide (m < n)) .own) k
        | .leq => setD E d (.own .bool (decide (m ≤ n)) .own) k
        | .gtr => setD E d (.own .bool (decide (m > n)) .own) k
        | .geq => setD E d (.own .bool (decide (m ≥ n)) .own) k
        | _ => .fail)
      | false => .fail)
    | .add, .str, .str, (m : ByteArray), (n : ByteArray) => .bnd (addS m n) fun r => setD E d (.own .str r .own) k
    | _, _, _, _, _ => .fail
where
  shlI (q : IntKind) (x y : Int) : Option Int := if y < 0 then none else some (q.wrap (x * 2 ^ (min y.toNat q.bits)))
  shrI (q : IntKind) (x y : Int) : Option Int := if y < 0 then none else some (x.fdiv (2 ^ (min y.toNat q.bits)))
  andI (q : IntKind) (x y : Int) : Int := q.wrap (BitVec.ofInt q.bits x &&& BitVec.ofInt q.bits y).toNat
  orI (q : IntKind) (x y : Int) : Int := q.wrap (BitVec.ofInt q.bits x ||| BitVec.ofInt q.bits y).toNat
  xorI (q : IntKind) (x y : Int) : Int := q.wrap (BitVec.ofInt q.bits x ^^^ BitVec.ofInt q.bits y).toNat

def unK (op : UnOp) (x : Operand) (d : Option Nat) (k : Mp) : Mp :=
  viewK E none x fun t a _ => match op, t, a with
    | .not, .bool, (b : Bool) => setD E d (.own .bool (!b) .own) k
    | .neg, .int q, (n : Int) => setD E d (.own (.int q) (q.wrap (0 - n)) .own) k
    | _, _, _ => .fail

def convK (st dt : Option Ty) (x : Operand) (d : Option Nat) (k : Mp) : Mp :=
  viewK E none x fun t a _ => match t, dt, a with
    | .int p, some (.int q), (n : Int) => chk (tyIs st (.int p)) (setD E d (.own (.int q) (q.wrap n) .own) k)
    | _, _, _ => .fail

/-- The parts of a struct. -/
def buildK : (s : SId) → List (Nat × Operand) → HL (fieldsOf s) → List Tag → (HL (fieldsOf s) → List Tag → Mp) → Mp
  | _, [], z, gs, k => k z gs
  | s, (i, o) :: r, z, gs, k => takeK E ((fieldsOf s)[i]?) o fun u y g => match setL (fieldsOf s) z i u y with
    | some z' => buildK s r z' (gs.set i g) k
    | none => .fail

/-- The elements of a slice that is laid by a literal: all of them, in order. -/
def buildSlK : (e : Ty) → Nat → List (Nat × Operand) → (List (El e) → List Tag → Mp) → Mp
  | _, _, [], k => k [] []
  | e, n, (i, o) :: r, k => chk (Nat.beq i n) (takeK E (some e) o fun u y g => match castE u e y with
    | some z => buildSlK e (n + 1) r fun zs gs => k (z :: zs) (g :: gs)
    | none => .fail)

def sameTag : Ty → List Tag → Option Tag
  | e, gs => match gs.all (ownT e) with
    | true => some .own
    | false => match gs.all Tag.isImm with | true => some (.os (.imm false)) | false => none

/-- The arguments of a call: what is handed over, and how what comes back is laid. 'vs', 'ws': the slots that are read, that are written. -/
def argsK : (ps : List PK) → List Operand → List Nat → List Nat → (Args ps → (IoL ps → Mp → Mp) → Mp) → Mp
  | [], [], _, _, k => k () fun _ m => m
  | .val t esc :: ps, o :: os, vs, ws, k => viewK E (some t) o fun u x s => match castE u t x with
    | some y => (match plainT t, s with
      | true, _ => argsK ps os vs ws fun a put => k (y, a) put
      | false, .slot r _ => chk (!esc && !isIo r ws) (argsK ps os (r :: vs) ws fun a put => k (y, a) put)
      | false, .k => argsK ps os vs ws fun a put => k (y, a) put
      | false, .ip => chk (!esc) (argsK ps os vs ws fun a put => k (y, a) put))
    | none => .fail
  | .io t g :: ps, o :: os, vs, ws, k => rd E none o fun v _ _ => match v with
    | .ptr u x s n [] => .get s fun root m => chk (Nat.beq n m && !isIo s ws && !isIo s vs) (match root, castE u t x with
      | .box _ _ gr, some y => chk (tagEq t gr g) (argsK ps os vs (s :: ws) fun a put => k (y, a) fun (z : El t × IoL ps) m => .set s (.box t z.1 g) (put z.2 m))
      | _, _ => .fail)
    | _ => .fail
  | .ios t :: ps, o :: os, vs, ws, k => rd E none o fun v sl n => match v, sl with
    | .al u x s n up true, _ => .get s fun root m => chk (Nat.beq n m && !isIo s ws && !isIo s vs) (match root, castE u t x with
      | .own tr _ gr, some y => (match setT tr gr (stepsOf up) .own with
        | some gr' => chk (wrtT tr gr (stepsOf up) && ownT t (tagAt gr (stepsOf up))) (argsK ps os vs (s :: ws) fun a put => k (y, a) fun (z : El t × IoL ps) m => (match (match updUp up t z.1 with | some ⟨tr', xr'⟩ => (match castE tr' tr xr' with | some w => some (AV.own tr w gr') | none => none) | none => none) with
          | some av => .set s av (put z.2 m)
          | none => .fail))
        | none => .fail)
      | .box tr _ gr, some y => (match setT tr gr (stepsOf up) .own with
        | some gr' => chk (wrtT tr gr (stepsOf up) && ownT t (tagAt gr (stepsOf up))) (argsK ps os vs (s :: ws) fun a put => k (y, a) fun (z : El t × IoL ps) m => (match (match updUp up t z.1 with | some ⟨tr', xr'⟩ => (match castE tr' tr xr' with | some w => some (AV.box tr w gr') | none => none) | none => none) with
          | some av => .set s av (put z.2 m)
          | none => .fail))
        | none => .fail)
      | _, _ => .fail)
    | .own u x g, some s => (match castE u t x with
      | some y => chk (ownT t g && !isIo s ws && !isIo s vs) (argsK ps os vs (s :: ws) fun a put => k (y, a) fun (z : El t × IoL ps) m => .set s (.own t z.1 .own) (put z.2 m))
      | none => .fail)
    | _, _ => .fail
  | .fn as r :: ps, o :: os, vs, ws, k => rd E none o fun v _ _ => match v with
    | .clo as' r' F srcs => (match decEq as' as, decEq r' r with
      | isTrue h, isTrue h' => alive srcs (chk (none_ ws srcs) (argsK ps os (srcs.map (·.1) ++ vs) ws fun a put => k (h' ▸ h ▸ F, a) put))
      | _, _ => .fail)
    | _ => .fail
  | _, _, _, _, _ => .fail
where
  tagEq (t : Ty) : Tag → Tag → Bool
    | g, .own => ownT t g
    | .st gs, .st hs => tagEqs gs hs
    | .imm a, .imm b => a == b
    | _, _ => false
  tagEqs : List Tag → List Tag → Bool
    | g :: gs, h :: hs => (match g, h with | .own, .own => true | .imm a, .imm b => a == b | _, _ => false) && tagEqs gs hs
    | [], [] => true
    | _, _ => false
  none_ (ws : List Nat) : List (Nat × Nat) → Bool
    | [] => true
    | z :: l => !isIo z.1 ws && none_ ws l
  alive : List (Nat × Nat) → Mp → Mp
    | [], k => k
    | (s, n) :: r, k => .get s fun _ m => chk (Nat.beq n m) (alive r k)

def resAV : (r : RK) → (match r with | .v t _ => El t | .pb t _ => El t) → AV
  | .v t g, x => mkAV t x g
  | .pb t g, x => .box t x g
def resTup : (rs : List RK) → RL rs → Nat → Mp → Mp
  | [], _, _, k => k
  | .v t g :: rs, x, s, k => .set s (mkAV t x.1 g) (resTup rs x.2 (s + 1) k)
  | .pb t g :: rs, x, s, k => .set s (.box t x.1 g) (resTup rs x.2 (s + 1) k)
def resK (rs : List RK) (x : RL rs) (d : Option Nat) (k : Mp) : Mp :=
  match rs, x with
  | [], _ => setD E d .dead k
  | [.v t g], x => setD E d (mkAV t x.1 g) k
  | [.pb t g], x => setD E d (.box t x.1 g) k
  | rs, x => match d with
    | some d => .set (E.nt + 8 * d + 2) .dead (.set (E.nt + 8 * d + 3) .dead (.set (E.nt + 8 * d + 4) .dead (.set (E.nt + 8 * d + 5) .dead (resTup rs x (E.nt + 8 * d) (.get (E.nt + 8 * d + 3) fun _ n => chk (Nat.blt rs.length 4) (setD E (some d) (.tup (E.nt + 8 * d) rs.length n) k))))))
    | none => .fail

/-- What a closure captures: boxes that it reads. -/
def capB : (ps : List PK) → List Operand → (Args ps → List (Nat × Nat) → Mp) → Mp
  | [], [], k => k () []
  | .cp t :: ps, o :: os, k => rd E none o fun v s n => match v, s with
    | .box u x g, some s => (match castE u t x with
      | some y => chk (aliveT u g) (capB ps os fun z q => k (y, z) ((s, n) :: q))
      | none => .fail)
    | _, _ => .fail
  | _, _, _ => .fail
def capK : (ps : List PK) → List Operand → ((as : List Ty) → (HL as → Args ps) → List (Nat × Nat) → Mp) → Mp
  | .val t false :: ps, os, k => capK ps os fun as c q => k (t :: as) (fun x => (x.1, c x.2)) q
  | ps, os, k => capB E ps os fun z q => k [] (fun _ => z) q

def makeFuncK (f : Nat) (cs : List Operand) (d : Option Nat) (k : Mp) : Mp := match E.sg f with
    | some ⟨ps, [.v r _], O, F, out⟩ => capK E ps cs fun as c q => chk (plainT r) (setD E d (.clo as r (fun xs => (F (c xs)).map fun o => (out o).2.1) q) k)
    | _ => .fail

def at0 (ty : Nat → Option Ty) (ts : Array Nat) : Option Ty := match ts.toList with | t :: _ => ty t | _ => none
def at1 (ty : Nat → Option Ty) (ts : Array Nat) : Option Ty := match ts.toList with | _ :: t :: _ => ty t | _ => none
def appendK (ot : Option Ty) (tys : Array Nat) (x y : Operand) (d : Option Nat) (k : Mp) : Mp := match ot with
      | some (.sl e) => chk (tyIs (at0 E.ty tys) (.sl e) && tyIs (at1 E.ty tys) (.sl e)) (takeK E (some (.sl e)) x fun t a g => (match castE t (.sl e) a with
        | some xs => chk (ownT (.sl e) g) (match plainT e with
          | true => viewK E (some (.sl e)) y fun u b _ => (match castE u (.sl e) b with
            | some ys => .bnd (appE xs ys) fun zs => setD E d (.own (.sl e) zs .own) k
            | none => .fail)
          | false => takeK E (some (.sl e)) y fun u b g' => (match castE u (.sl e) b with
            | some ys => chk (ownT (.sl e) g') (.bnd (appE xs ys) fun zs => setD E d (.own (.sl e) zs .own) k)
            | none => .fail))
        | none => .fail))
      | _ => .fail
def callK (c : Call) (ot : Option Ty) (d : Option Nat) (k : Mp) : Mp :=
  match c.callee with
  | .builtin .len => (match c.args.toList with
    | [x] => viewK E none x fun t a _ => match t, a with
      | .sl e, xs => chk (tyIs (at0 E.ty c.argTypes) (.sl e)) (setD E d (.own (.int .i64) (xs.length : Int) .own) k)
      | .str, s => chk (tyIs (at0 E.ty c.argTypes) .str) (setD E d (.own (.int .i64) ((s : ByteArray).size : Int) .own) k)
      | _, _ => .fail
    | _ => .fail)
  | .builtin .append => (match c.args.toList with
    | [x, y] => appendK E ot c.argTypes x y d k
    | _ => .fail)
  | .builtin .min => (match c.args.toList with
    | [x, y] => intK E x fun q m => intK E y fun q' n => chk (decide (q = q')) (setD E d (.own (.int q) (min m n) .own) k)
    | _ => .fail)
  | .builtin .max => (match c.args.toList with
    | [x, y] => intK E x fun q m => intK E y fun q' n => chk (decide (q = q')) (setD E d (.own (.int q) (max m n) .own) k)
    | _ => .fail)
  | .builtin _ => .fail
  | .invoke _ _ => .fail
  | .value (.func f) => (match E.sg f with
    | some ⟨ps, rs, O, F, out⟩ => argsK E ps c.args.toList [] [] fun xs put => .bnd (F xs) fun o => put (out o).1 (resK E rs (out o).2 d k)
    | none => .fail)
  | .value o => rd E none o fun v _ _ => match v with
    | .clo as r F srcs => argsK.alive srcs (argsK E (as.map fun t => PK.val t false) c.args.toList [] [] fun xs _ => .bnd (F (unval as xs)) fun y => setD E d (mkAV r y .own) k)
    | _ => .fail
where
  unval : (as : List Ty) → Args (as.map fun t => PK.val t false) → HL as
    | [], _ => ()
    | _ :: as, x => (x.1, unval as x.2)

def sliceK (tt : Option Ty) (x : Operand) (lo hi mx : Option Operand) (d : Option Nat) (k : Mp) : Mp :=
  match mx with
  | some _ => .fail
  | none => rd E none x fun v s n => match v with
    | .own (.sl e) xs g => (match s with
      | some s => chk (aliveT (.sl e) g && tyIs tt (.sl e)) (bounds lo hi xs.length fun l h => .bnd (subI xs l h) fun ys => setD E d (.al (.sl e) ys s n [] false) k)
      | none => .fail)
    | .al (.sl e) xs r m up _ => .get r fun _ m' => chk (Nat.beq m m' && tyIs tt (.sl e)) (bounds lo hi xs.length fun l h => .bnd (subI xs l h) fun ys => setD E d (.al (.sl e) ys r m up false) k)
    | .vw (.sl e) xs (.slot r m) => .get r fun _ m' => chk (Nat.beq m m' && tyIs tt (.sl e)) (bounds lo hi xs.length fun l h => .bnd (subI xs l h) fun ys => setD E d (.vw (.sl e) ys (.slot r m)) k)
    | .vw (.sl e) xs src => chk (tyIs tt (.sl e)) (bounds lo hi xs.length fun l h => .bnd (subI xs l h) fun ys => setD E d (.vw (.sl e) ys src) k)
    | .own .str t g => chk (aliveT .str g && tyIs tt .str) (bounds lo hi t.size fun l h => .bnd (subS t l h) fun u => setD E d (.own .str u .own) k)
    | _ => .fail
where
  bounds (lo hi : Option Operand) (len : Nat) (k : Int → Int → Mp) : Mp :=
    match lo, hi with
    | none, none => k 0 len
    | some a, none => intK E a fun _ l => k l len
    | none, some b => intK E b fun _ h => k 0 h
    | some a, some b => intK E a fun _ l => intK E b fun _ h => k l h

def nilK (o : Operand) (d : Option Nat) (k : Mp) : Mp :=
  rd E none o fun v s n => match v with
    | .box t x g => (match s with | some s => setD E d (.ptr t x s n []) k | none => .fail)
    | .ptr t x r m up => .get r fun _ m' => chk (Nat.beq m m') (setD E d (.ptr t x r m up) k)
    | .pvw t x (.slot r m) => .get r fun _ m' => chk (Nat.beq m m') (setD E d (.pvw t x (.slot r m)) k)
    | .pvw t x s => setD E d (.pvw t x s) k
    | _ => .fail

def sameOp : Operand → Operand → Bool
  | .tmp a, .tmp b => Nat.beq a b
  | .const (.int _ a), .const (.int _ b) => a == b
  | _, _ => false

def ioSlot : Operand → Option Nat
  | .tmp s => match isIo s E.io && Nat.blt s E.nt with | true => some s | false => none
  | _ => none
/-- A variable that holds a value; of a parameter whose elements are written: a copy of its cells. -/
def boxK (t : Ty) (x : Operand) (d : Option Nat) (k : Mp) : Mp :=
  match ioSlot E x with
  | some s => .get s fun v _ => (match v with
    | .own u _ g => chk (decide (u = t) && aliveT u g) (setD E d (.bcp t s) k)
    | _ => .fail)
  | none => takeK E (some t) x fun u y g => (match castE u t y with | some z => setD E d (.box t z g) k | none => .fail)

/-- One operation. -/
def opK (o : Oper) (k : Mp) : Mp :=
  match o.op with
  | .move x => moveK E (E.ty o.type) x o.dst k
  | .assign x => assignK E (E.ty o.type) x o.dst k
  | .pick c a b => boolK E c fun t => .cond t (moveK E (E.ty o.type) a o.dst k) (moveK E (E.ty o.type) b o.dst k)
  | .alloc t => (match E.ty t with | some t => setD E o.dst (.box t (zeroE t) .own) k | none => .fail)
  | .box t x => (match E.ty t with
    | some t => boxK E t x o.dst k
    | none => .fail)
  | .build t ps => (match E.ty t with
    | some (.st s) => buildK E s ps.toList (toL s (zeroS s)) (List.replicate (fieldsOf s).length .own) fun z gs => setD E o.dst (.own (.st s) (ofL s z) (.st gs)) k
    | _ => .fail)
  | .buildSlice t n ps => (match E.ty t with
    | some (.sl e) => chk (Nat.beq n ps.toList.length && Nat.ble (n * csz e) 16777216) (buildSlK E e 0 ps.toList fun zs gs => match sameTag e gs with
      | some .own => setD E o.dst (.own (.sl e) zs .own) k
      | some g => setD E o.dst (.own (.sl e) zs g) k
      | none => .fail)
    | _ => .fail)
  | .load t a => loadK E (E.ty t) a o.dst k
  | .store t a x => storeK E (E.ty t) a x (setD E o.dst .dead k)
  | .nilCheck x => nilK E x o.dst k
  | .binOp op t x y _ => binK E op (E.ty t) x y o.dst k
  | .unOp op _ x => unK E op x o.dst k
  | .convert s t x => convK E (E.ty s) (E.ty t) x o.dst k
  | .makeSlice t l c => (match E.ty t with
    | some (.sl e) => intK E l fun _ m => intK E c fun _ n => chk (sameOp l c) (.bnd (mkE (zeroE e) m) fun zs => setD E o.dst (.own (.sl e) zs .own) k)
    | _ => .fail)
  | .slice t x lo hi mx => sliceK E (E.ty t) x lo hi mx o.dst k
  | .fieldAddr t x i => fieldAddrK E (E.ty t) x i o.dst k
  | .indexAddr t x i => indexAddrK E (E.ty t) x i o.dst k
  | .index tt x i => viewK E none x fun t a _ => (match t, a with
    | .str, s => chk (tyIs (E.ty tt) .str) (intK E i fun _ n => .bnd (rdS s n) fun b => setD E o.dst (.own (.int .u8) b .own) k)
    | _, _ => .fail)
  | .makeFunc fn first cs => (match fn, first.toList with | .func f, [] => makeFuncK E f cs.toList o.dst k | _, _ => .fail)
  | .extract x i => rd E none x fun v _ _ => (match v with
    | .tup s n m => .get (s + 3) fun _ m' => chk (Nat.beq m m' && Nat.blt i n) (.get (s + i) fun u n' => takeB u (some (s + i)) n' fun t y g => setD E o.dst (mkAV t y g) k)
    | _ => .fail)
  | .call c => callK E c (E.ty o.type) o.dst k
  | _ => .fail
end
end Net

/- The abstract interpreter over code: slots as a function, loops as least fixed points over typed tuples, functions. -/
namespace Net
open Go
set_option linter.unusedVariables false

abbrev St := Nat → AV × Nat
def St.set (σ : St) (s : Nat) (v : AV) : St := fun i => match Nat.beq i s with | true => (v, (σ s).2 + 1) | false => σ i

/-- A slot that holds a truth value, with that value known. -/
def St.ref (σ : St) (s n : Nat) (b : Bool) : St := fun i => match Nat.beq i s with | true => (.own .bool b .own, n) | false => σ i

/-- A program over slots, run: what follows is asked in the new slots. -/
def Mp.ev {α : Type} : Mp → St → (St → Option α) → Option α
  | .done, σ, k => k σ
  | .fail, _, _ => none
  | .get s m, σ, k => (m (σ s).1 (σ s).2).ev σ k
  | .set s v m, σ, k => m.ev (σ.set s v) k
  | .cond b t e, σ, k => _root_.cond b (t.ev σ k) (e.ev σ k)
  | .br s t e u, σ, k => match σ s with
    | (.own .bool b .own, n) => _root_.cond b (t.ev (σ.ref s n true) k) (e.ev (σ.ref s n false) k)
    | (.und, _) => u.ev σ k
    | _ => none
  | .bnd o m, σ, k => o.bind fun x => (m x).ev σ k

/-- The same, with the slots that were read and written told. -/
def Mp.evF {α : Type} : Mp → St → List Nat → List Nat → (St → List Nat → List Nat → Option α) → Option α
  | .done, σ, r, w, k => k σ r w
  | .fail, _, _, _, _ => none
  | .get s m, σ, r, w, k => (m (σ s).1 (σ s).2).evF σ (s :: r) w k
  | .set s v m, σ, r, w, k => m.evF (σ.set s v) r (s :: w) k
  | .cond b t e, σ, r, w, k => _root_.cond b (t.evF σ r w k) (e.evF σ r w k)
  | .br s t e u, σ, r, w, k => match σ s with
    | (.own .bool b .own, n) => _root_.cond b (t.evF (σ.ref s n true) (s :: r) w k) (e.evF (σ.ref s n false) (s :: r) w k)
    | (.und, _) => u.evF σ (s :: r) w k
    | _ => none
  | .bnd o m, σ, r, w, k => o.bind fun x => (m x).evF σ r w k

/-- An operation under its guard: the guard's own slot is known behind it. -/
def guardK (E : Tb) (ops : Array Oper) (o : Oper) : Mp :=
  match o.guard with
  | none => opK E o .done
  | some (j, want) => match (ops[j]?).bind (·.dst) with
    | none => .fail
    | some t => chk (Nat.blt t E.nt) (match want with
      | true => .br t (opK E o .done) (setD E o.dst .und .done) (setD E o.dst .und .done)
      | false => .br t (setD E o.dst .und .done) (opK E o .done) (setD E o.dst .und .done))

def evOps {α : Type} (E : Tb) (ops : Array Oper) : List Oper → St → (St → Option α) → Option α
  | [], σ, k => k σ
  | o :: r, σ, k => (guardK E ops o).ev σ fun σ' => evOps E ops r σ' k

/- the order that is left open -/
def memN (n : Nat) : List Nat → Bool
  | [] => false
  | m :: l => match Nat.beq n m with | true => true | false => memN n l
def disj : List Nat → List Nat → Bool
  | [], _ => true
  | n :: l, m => match memN n m with | true => false | false => disj l m
/-- what an operation stands behind, directly or through others -/
def behindStep (bs : List (List Nat)) (acc : List Nat) (e : Edge) : List Nat := match Region.binds .any e with | true => e.on :: ((bs[e.on]?).getD [] ++ acc) | false => acc
def behind (bs : List (List Nat)) (o : Oper) : List Nat := o.after.toList.foldl (behindStep bs) []
structure FP where
  r : List Nat
  w : List Nat
def indep (a b : FP) : Bool := disj a.w b.r && disj a.w b.w && disj a.r b.w
def okAgainst (f : FP) (bh : List Nat) : Nat → List FP → Bool
  | _, [] => true
  | n, g :: l => (match memN n bh with | true => true | false => indep g f) && okAgainst f bh (n + 1) l

/-- what an operation stands behind lies ahead of it -/
def okEdges (n : Nat) (o : Oper) : Bool := o.after.toList.all fun e => match Region.binds .any e with | true => Nat.blt e.on n | false => true

def evDraw {α : Type} (E : Tb) (ops : Array Oper) : List Oper → List (List Nat) → List FP → St → (St → Option α) → Option α
  | [], _, _, σ, k => k σ
  | o :: r, bs, fs, σ, k => (guardK E ops o).evF σ [] [] fun σ' rd wr =>
      match okEdges fs.length o && okAgainst ⟨rd, wr⟩ (behind bs o) 0 fs with
      | true => evDraw E ops r (bs ++ [behind bs o]) (fs ++ [⟨rd, wr⟩]) σ' k
      | false => none

/- loops -/
inductive Sh where
  | own (t : Ty) (g : Tag)
  | vw (t : Ty)
  | vk (t : Ty)
  | pv (t : Ty)
  | box (t : Ty) (g : Tag)
  | clo (as : List Ty) (r : Ty)
  | al (s : Nat) (p : List Nat)
  | ptr (s : Nat) (p : List Nat)

abbrev ShT : Sh → Type
  | .own t _ => El t
  | .vw t => El t
  | .vk t => El t
  | .pv t => El t
  | .box t _ => El t
  | .clo as r => HL as → Option (El r)
  | .al _ _ => Unit
  | .ptr _ _ => Unit
abbrev ShL : List (Nat × Sh) → Type
  | [] => Unit
  | (_, .al _ _) :: l => ShL l
  | (_, .ptr _ _) :: l => ShL l
  | (_, s) :: l => ShT s × ShL l

def tagIs (t : Ty) (have_ want : Tag) : Bool := argsK.tagEq t have_ want
def emptySt : St := fun _ => (.dead, 0)
def stepsEq : List Step → List Nat → Bool
  | [], [] => true
  | .f i :: p, j :: q => Nat.beq i j && stepsEq p q
  | _, _ => false
def immAt (root : AV) (st : List Step) : Tag := match root with
  | .own _ _ g => tagAt g st
  | .box _ _ g => tagAt g st
  | _ => .dead

def takeSh (σ : St) : (l : List (Nat × Sh)) → Option (ShL l)
  | [] => some ()
  | (n, .own t g) :: l => match (σ n).1 with
    | .own u x h => match castE u t x, tagIs t h g, takeSh σ l with
      | some y, true, some z => some (y, z)
      | _, _, _ => none
    | _ => none
  | (n, .vw t) :: l => match (σ n).1 with
    | .vw u x .ip => match castE u t x, takeSh σ l with
      | some y, some z => some (y, z)
      | _, _ => none
    | .al u x r m up _ => match Nat.beq m (σ r).2, immAt (σ r).1 (stepsOf up), castE u t x, takeSh σ l with
      | true, .imm false, some y, some z => some (y, z)
      | _, _, _, _ => none
    | _ => none
  | (n, .vk t) :: l => match (σ n).1 with
    | .vw u x .k => match castE u t x, takeSh σ l with
      | some y, some z => some (y, z)
      | _, _ => none
    | .al u x r m up _ => match Nat.beq m (σ r).2, immAt (σ r).1 (stepsOf up), castE u t x, takeSh σ l with
      | true, .imm true, some y, some z => some (y, z)
      | _, _, _, _ => none
    | _ => none
  | (n, .pv t) :: l => match (σ n).1 with
    | .pvw u x .ip => match castE u t x, takeSh σ l with
      | some y, some z => some (y, z)
      | _, _ => none
    | _ => none
  | (n, .box t g) :: l => match (σ n).1 with
    | .box u x h => match castE u t x, tagIs t h g, takeSh σ l with
      | some y, true, some z => some (y, z)
      | _, _, _ => none
    | _ => none
  | (n, .clo as r) :: l => match (σ n).1 with
    | .clo as' r' F [] => match decEq as' as, decEq r' r, takeSh σ l with
      | isTrue h, isTrue h', some z => some (h' ▸ h ▸ F, z)
      | _, _, _ => none
    | _ => none
  | (n, .al s p) :: l => match (σ n).1 with
    | .al _ _ r v up true => match Nat.beq r s && Nat.beq v (σ s).2 && stepsEq (stepsOf up) p with
      | true => takeSh σ l
      | false => none
    | _ => none
  | (n, .ptr s p) :: l => match (σ n).1 with
    | .ptr _ _ r v up => match Nat.beq r s && Nat.beq v (σ s).2 && stepsEq (stepsOf up) p with
      | true => takeSh σ l
      | false => none
    | _ => none

def St.lay (σ : St) (n : Nat) (av : AV) : St := fun i => match Nat.beq i n with | true => (av, (σ n).2) | false => σ i
def layAl (root : AV × Nat) (s : Nat) (p : List Nat) : AV := match root with
  | (.own t x g, v) => match walkF t x p [] with | some (⟨u, y⟩, up) => (match aliveT u (tagAt g (stepsOf up)) with | true => .al u y s v up true | false => .dead) | none => .dead
  | (.box t x g, v) => match walkF t x p [] with | some (⟨u, y⟩, up) => (match aliveT u (tagAt g (stepsOf up)) with | true => .al u y s v up true | false => .dead) | none => .dead
  | _ => .dead
def layPtr (root : AV × Nat) (s : Nat) (p : List Nat) : AV := match root with
  | (.own t x _, v) => match walkF t x p [] with | some (⟨u, y⟩, up) => .ptr u y s v up | none => .dead
  | (.box t x _, v) => match walkF t x p [] with | some (⟨u, y⟩, up) => .ptr u y s v up | none => .dead
  | _ => .dead
/-- The slots of a tuple: those first that others point to. -/
def putSh : (l : List (Nat × Sh)) → ShL l → St → St
  | [], _, σ => σ
  | (n, .own t g) :: l, x, σ => putSh l x.2 (σ.lay n (.own t x.1 g))
  | (n, .vw t) :: l, x, σ => putSh l x.2 (σ.lay n (.vw t x.1 .ip))
  | (n, .vk t) :: l, x, σ => putSh l x.2 (σ.lay n (.vw t x.1 .k))
  | (n, .pv t) :: l, x, σ => putSh l x.2 (σ.lay n (.pvw t x.1 .ip))
  | (n, .box t g) :: l, x, σ => putSh l x.2 (σ.lay n (.box t x.1 g))
  | (n, .clo as r) :: l, x, σ => putSh l x.2 (σ.lay n (.clo as r x.1 []))
  | (n, .al s p) :: l, x, σ => putSh l x (σ.lay n (layAl (σ s) s p))
  | (n, .ptr s p) :: l, x, σ => putSh l x (σ.lay n (layPtr (σ s) s p))
def distinct : List (Nat × Sh) → List Nat → Bool
  | [], _ => true
  | (n, _) :: l, seen => match memN n seen with | true => false | false => distinct l (n :: seen)

/-- What stays as it is; the rest is forgotten. -/
def keepSt (keep : List Nat) (σ : St) : St := fun i => match memN i keep with | true => σ i | false => (.dead, (σ i).2 + 1)
def keptB : List Nat → St → St → Bool
  | [], _, _ => true
  | s :: l, σ, τ => Nat.beq (σ s).2 (τ s).2 && keptB l σ τ
def takeK' (keep : List Nat) (sh : List (Nat × Sh)) (σ σ' : St) : Option (ShL sh) := match keptB keep σ σ' with | true => takeSh σ' sh | false => none

/-- Rounds till one leaves. -/
def iterN {S X : Type} (f : S → Option (S ⊕ X)) : Nat → S → Option X
  | 0, _ => none
  | n + 1, s => match f s with
    | some (.inl s') => iterN f n s'
    | some (.inr e) => some e
    | none => none
open Classical in
noncomputable def iter {S X : Type} (f : S → Option (S ⊕ X)) (s : S) : Option X :=
  if h : ∃ n e, iterN f n s = some e then some (Classical.choose (Classical.choose_spec h)) else none

structure Ann where
  keep : List Nat
  sh : List (Nat × Sh)
  xid : Nat
  xs : List (Nat × Sh)
/-- A place where roads meet: what is handed on. -/
structure Jn where
  keep : List Nat
  sh : List (Nat × Sh)
  out : Bool
structure An where
  lp : Nat → Option Ann
  jn : Nat → Option Jn

def sumE {A B C : Type} (f : A → C) (g : B → C) : A ⊕ B → C
  | .inl a => f a
  | .inr b => g b
/-- the first region's number -/
def Code.rid : Code → Nat
  | .region n _ _ => n
  | .seq a b => match Code.rid a with | 1000000 => Code.rid b | n => n
  | .block _ a => Code.rid a
  | .loop a => Code.rid a
  | .scope a => Code.rid a
  | .cond _ a b => match Code.rid a with | 1000000 => Code.rid b | n => n
  | _ => 1000000

section
variable (E : Tb) (ann : An) {O : Type} (rt : St → Option O)
noncomputable def den : Code → {α : Type} → St → (St → Option α) → (Nat → St → Option α) → (O → Option α) → Option α
  | .skip, _, σ, kn, _, _ => kn σ
  | .label _, _, σ, kn, _, _ => kn σ
  | .region _ ops draw, _, σ, kn, _, _ => match draw with
    | true => evDraw E ops ops.toList [] [] σ kn
    | false => evOps E ops ops.toList σ kn
  | .seq a b, α, σ, kn, ke, kr => match ann.jn (Code.rid b) with
    | none => den a σ (fun σ' => den b σ' kn ke kr) ke kr
    | some J => match distinct J.sh J.keep with
      | false => none
      | true => match J.out with
        | false => (den a (α := ShL J.sh) σ (fun σ' => takeK' J.keep J.sh σ σ') (fun _ _ => none) (fun _ => none)).bind fun y => den b (putSh J.sh y (keepSt J.keep σ)) kn ke kr
        | true => (den a (α := ShL J.sh ⊕ α) σ (fun σ' => (takeK' J.keep J.sh σ σ').map .inl) (fun j σ' => (ke j σ').map .inr) (fun o => (kr o).map .inr)).bind (sumE (fun y => den b (putSh J.sh y (keepSt J.keep σ)) kn ke kr) some)
  | .cond c a b, _, σ, kn, ke, kr => match c with
    | .tmp t => (match Nat.blt t E.nt, (σ t).1 with
      | true, .own .bool x .own => cond x (den a σ kn ke kr) (den b σ kn ke kr)
      | _, _ => none)
    | .const (.bool true) => den a σ kn ke kr
    | .const (.bool false) => den b σ kn ke kr
    | _ => none
  | .block id c, _, σ, kn, ke, kr => den c σ kn (fun j σ' => match Nat.beq j id with | true => kn σ' | false => ke j σ') kr
  | .loop c, α, σ, kn, ke, kr => match ann.lp (Code.rid c) with
    | some A => match distinct A.sh A.keep && distinct A.xs A.keep with
     | false => none
     | true => (match takeSh σ A.sh with
      | some x0 => (iter (fun x => den c (α := ShL A.sh ⊕ (ShL A.xs ⊕ α)) (putSh A.sh x (keepSt A.keep σ)) (fun σ' => (takeK' A.keep A.sh σ σ').map .inl)
          (fun j σ' => match Nat.beq j A.xid with | true => (takeK' A.keep A.xs σ σ').map fun y => .inr (.inl y) | false => none) (fun o => (kr o).map fun z => .inr (.inr z))) x0).bind (sumE (fun y => ke A.xid (putSh A.xs y (keepSt A.keep σ))) some)
      | none => none)
    | none => none
  | .exit id, _, σ, _, ke, _ => ke id σ
  | .ret, _, σ, _, _, kr => match rt σ with | some o => kr o | none => none
  | .scope c, _, σ, kn, ke, kr => none
  | .rangeFunc .., _, _, _, _, _ => none
  | .goto _, _, _, _, _, _ => none
  | .refuse _, _, _, _, _, _ => none
end

/- functions -/
def initSt : (ps : List PK) → Nat → Args ps → St → St
  | [], _, _, σ => σ
  | .val t esc :: ps, n, x, σ => initSt ps (n + 1) x.2 (σ.lay n (match plainT t, esc with | true, _ => .own t x.1 .own | false, true => .vw t x.1 .k | false, false => .vw t x.1 .ip))
  | .cp t :: ps, n, x, σ => initSt ps (n + 1) x.2 (σ.lay n (.pvw t x.1 .ip))
  | .io t g :: ps, n, x, σ => initSt ps (n + 1) x.2 (σ.lay n (.box t x.1 g))
  | .ios t :: ps, n, x, σ => initSt ps (n + 1) x.2 (σ.lay n (.own t x.1 .own))
  | .fn as r :: ps, n, x, σ => initSt ps (n + 1) x.2 (σ.lay n (.clo as r x.1 []))

def ioOut (σ : St) : (ps : List PK) → Nat → Option (IoL ps)
  | [], _ => some ()
  | .val _ _ :: ps, n => ioOut σ ps (n + 1)
  | .cp _ :: ps, n => ioOut σ ps (n + 1)
  | .io t g :: ps, n => match (σ n).1 with
    | .box u x h => match castE u t x, tagIs t h g, ioOut σ ps (n + 1) with
      | some y, true, some z => some (y, z)
      | _, _, _ => none
    | _ => none
  | .ios t :: ps, n => match (σ n).1 with
    | .own u x h => match castE u t x, ownT t h, ioOut σ ps (n + 1) with
      | some y, true, some z => some (y, z)
      | _, _, _ => none
    | _ => none
  | .fn _ _ :: ps, n => ioOut σ ps (n + 1)

/-- What a function hands back: taken over, one result after the other. -/
def resOut {α : Type} (E : Tb) : (rs : List RK) → List ResultVar → St → (St → RL rs → Option α) → Option α
  | [], [], σ, k => k σ ()
  | .v t g :: rs, .tmp s :: vs, σ, k => (takeK E (some t) (.tmp s) fun u x h => match castE u t x, (match plainT t with | true => tagIs t .own g | false => tagIs t h g) with
      | some y, true => .bnd (some y) fun _ => .done
      | _, _ => .fail).ev σ fun σ' => match (σ s).1 with
        | .own u x h => (match castE u t x with | some y => resOut E rs vs σ' fun σ'' z => k σ'' (y, z) | none => none)
        | .vw u x _ => (match castE u t x with | some y => resOut E rs vs σ' fun σ'' z => k σ'' (y, z) | none => none)
        | .al u x _ _ _ _ => (match castE u t x with | some y => resOut E rs vs σ' fun σ'' z => k σ'' (y, z) | none => none)
        | _ => none
  | .pb t g :: rs, .tmp s :: vs, σ, k => match Nat.blt s E.nt, (σ s).1 with
      | true, .box u x h => (match castE u t x, tagIs t h g with
        | some y, true => resOut E rs vs (σ.set s .dead) fun σ'' z => k σ'' (y, z)
        | _, _ => none)
      | _, _ => none
  | .v t g :: rs, .cell s T :: vs, σ, k => match Nat.blt s E.nt && tyIs (E.ty T) t, (σ s).1 with
      | true, .box u x h => (match castE u t x, tagIs t h g with
        | some y, true => resOut E rs vs (σ.set s .dead) fun σ'' z => k σ'' (y, z)
        | _, _ => none)
      | _, _ => none
  | _, _, _, _ => none

def retG (E : Tb) (ps : List PK) (rs : List RK) (vs : List ResultVar) (σ : St) : Option (IoL ps × RL rs) :=
  resOut E rs vs σ fun σ' r => match ioOut σ' ps 0 with | some io => some (io, r) | none => none
def retK {A B : Type} (o : Option A) (k : A → Option B) : Option B := match o with | some a => k a | none => none
noncomputable def denG {β : Type} (E : Tb) (ann : An) (ps : List PK) (rs : List RK) (fn : Func) (k : IoL ps × RL rs → Option β) (x : Args ps) : Option β :=
  match fn.body with
  | some c => den E ann (O := IoL ps × RL rs) (retG E ps rs fn.results.toList) c (initSt ps 0 x emptySt) (fun σ => retK (retG E ps rs fn.results.toList σ) k) (fun _ _ => none) k
  | none => none
end Net

/- What it is for a value in memory to represent a typed datum: read (RI), owned (RO), by tags (TR). -/
namespace Net
open Go
set_option linter.unusedVariables false

def inR (k : IntKind) (n : Int) : Prop := (Lit.int k n).wf = true
def locA (w : World) (a : Addr) (cs : List Value) : Prop := ∀ j v, cs[j]? = some v → w.cell? (a.add j) = some v

theorem add_add (a : Addr) (m n : Nat) : (a.add m).add n = a.add (m + n) := by
  unfold Addr.add
  by_cases hm : m = 0 <;> by_cases hn : n = 0 <;> simp_all [Nat.add_assoc]
theorem add_block (a : Addr) (m : Nat) : (a.add m).block = a.block := by unfold Addr.add; split <;> rfl
theorem add_mk (b o n : Nat) : (⟨b, o, none⟩ : Addr).add n = ⟨b, o + n, none⟩ := by unfold Addr.add; split <;> simp_all

theorem cell_same {w w' : World} {b : Nat} (h : w'.heap[b]? = w.heap[b]?) (a : Addr) (ha : a.block = b) : w'.cell? a = w.cell? a := by
  subst ha; simp only [World.cell?, h]
theorem locA_same {w w' : World} {a : Addr} {cs : List Value} (h : w'.heap[a.block]? = w.heap[a.block]?) (hl : locA w a cs) : locA w' a cs := by
  intro j v hj
  rw [cell_same h _ (add_block _ _)]; exact hl j v hj
theorem locA_take {w : World} {a : Addr} {cs : List Value} (n : Nat) (h : locA w a cs) : locA w a (cs.take n) := by
  intro j v hj
  refine h j v ?_
  rw [List.getElem?_take] at hj
  split at hj <;> simp_all
theorem locA_drop {w : World} {a : Addr} {cs : List Value} (n : Nat) (h : locA w a cs) : locA w (a.add n) (cs.drop n) := by
  intro j v hj
  rw [add_add]
  rw [List.getElem?_drop] at hj
  exact h _ v hj
theorem locA_append {w : World} {a : Addr} {c d : List Value} (h : locA w a (c ++ d)) : locA w a c ∧ locA w (a.add c.length) d := by
  constructor
  · have := locA_take c.length h; simpa using this
  · have := locA_drop c.length h; simpa using this

theorem pos_of {α : Type} {xs : List α} {i : Nat} {y : α} (h : xs[i]? = some y) : 0 < xs.length := Nat.lt_of_le_of_lt (Nat.zero_le i) (List.getElem?_eq_some_iff.1 h).1
/-- Fields, one behind the other. -/
def FL (R : (t : Ty) → El t → List Value → List Nat → Prop) : (ts : List Ty) → HL ts → List Value → List Nat → Prop
  | [], _, cs, fp => cs = [] ∧ fp = []
  | t :: ts, x, cs, fp => ∃ c c' f f', cs = c ++ c' ∧ fp = f ++ f' ∧ R t x.1 c f ∧ FL R ts x.2 c' f'
/-- Elements, one behind the other. -/
def EL {α : Type} (R : α → List Value → List Nat → Prop) (sz : Nat) : List α → List Value → List Nat → Prop
  | [], _, f => f = []
  | x :: xs, cs, f => ∃ f1 f2, f = f1 ++ f2 ∧ R x (cs.take sz) f1 ∧ EL R sz xs (cs.drop sz) f2

def RI (w : World) (J : Nat → Prop) : Nat → (t : Ty) → El t → List Value → Prop
  | 0, _, _, _ => False
  | _ + 1, .int k, n, cs => cs = [.int k n] ∧ inR k n
  | _ + 1, .bool, b, cs => cs = [.bool b]
  | _ + 1, .str, s, cs => cs = [.string s] ∧ ByteArray.size s ≤ maxLen
  | d + 1, .sl e, xs, cs => (cs = [.slice none 0 0] ∧ xs = []) ∨ ∃ a cap, cs = [.slice (some a) (List.length xs) cap] ∧ (0 < List.length xs → J a.block) ∧ List.length xs ≤ cap ∧ cap ≤ maxLen ∧
      ∀ (i : Nat) (y : El e), xs[i]? = some y → ∃ c, c.length = csz e ∧ locA w (a.add (i * csz e)) c ∧ RI w J d e y c
  | d + 1, .st s, x, cs => FL (fun t y c f => f = [] ∧ RI w J d t y c) (fieldsOf s) (toL s x) cs []

/-- An array of the call's own. -/
structure Arr (w : World) (b off cap len sz : Nat) (cur : Array Value) (et : TypeId) : Prop where
  obj : w.heap[b]? = some (.cells cur et (0, 0))
  fit : off + cap * sz ≤ cur.size
  len : len ≤ cap
  cap : cap ≤ maxLen

def RO (w : World) : Nat → (t : Ty) → El t → List Value → List Nat → Prop
  | 0, _, _, _, _ => False
  | _ + 1, .int k, n, cs, fp => cs = [.int k n] ∧ inR k n ∧ fp = []
  | _ + 1, .bool, b, cs, fp => cs = [.bool b] ∧ fp = []
  | _ + 1, .str, s, cs, fp => cs = [.string s] ∧ ByteArray.size s ≤ maxLen ∧ fp = []
  | d + 1, .sl e, xs, cs, fp => (cs = [.slice none 0 0] ∧ xs = [] ∧ fp = []) ∨ ∃ b off cap cur et f, cs = [.slice (some ⟨b, off, none⟩) (List.length xs) cap] ∧ Arr w b off cap (List.length xs) (csz e) cur et ∧
      fp = b :: f ∧ EL (RO w d e) (csz e) xs (cur.toList.drop off) f
  | d + 1, .st s, x, cs, fp => FL (RO w d) (fieldsOf s) (toL s x) cs fp

mutual
def TR (w : World) (I : Bool → Nat → Prop) : Tag → (t : Ty) → El t → List Value → List Nat → Prop
  | .imm q, t, x, cs, fp => (∃ d, RI w (I q) d t x cs) ∧ fp = []
  | .own, t, x, cs, fp => ∃ d, RO w d t x cs fp
  | .dead, t, x, cs, fp => cs.length = csz t ∧ fp = []
  | .st gs, .st s, x, cs, fp => TRL w I gs (fieldsOf s) (toL s x) cs fp
  | .st _, _, _, _, _ => False
  | .os g, .sl e, xs, cs, fp => ∃ b off cap cur et f, cs = [.slice (some ⟨b, off, none⟩) (List.length xs) cap] ∧ Arr w b off cap (List.length xs) (csz e) cur et ∧
      fp = b :: f ∧ EL (TR w I g e) (csz e) xs (cur.toList.drop off) f
  | .os _, _, _, _, _ => False
def TRL (w : World) (I : Bool → Nat → Prop) : List Tag → (ts : List Ty) → HL ts → List Value → List Nat → Prop
  | [], [], _, cs, fp => cs = [] ∧ fp = []
  | g :: gs, t :: ts, x, cs, fp => ∃ c c' f f', cs = c ++ c' ∧ fp = f ++ f' ∧ TR w I g t x.1 c f ∧ TRL w I gs ts x.2 c' f'
  | _, _, _, _, _ => False
end

/- general on fields and elements -/
theorem FL_mono {R R' : (t : Ty) → El t → List Value → List Nat → Prop} : ∀ (ts : List Ty) (x : HL ts) (cs : List Value) (fp : List Nat), (∀ t y c f, (∀ b ∈ f, b ∈ fp) → R t y c f → R' t y c f) → FL R ts x cs fp → FL R' ts x cs fp
  | [], _, _, _, _, h => h
  | t :: ts, x, cs, fp, hm, h => by
    obtain ⟨c, c', f, f', rfl, rfl, h1, h2⟩ := h
    exact ⟨c, c', f, f', rfl, rfl, hm _ _ _ _ (fun b hb => by simp [hb]) h1, FL_mono ts _ _ _ (fun t y c g hg => hm t y c g (fun b hb => by simp [hg b hb])) h2⟩
theorem EL_mono {α : Type} {R R' : α → List Value → List Nat → Prop} {sz : Nat} : ∀ (xs : List α) (cs : List Value) (fp : List Nat), (∀ y c f, (∀ b ∈ f, b ∈ fp) → R y c f → R' y c f) → EL R sz xs cs fp → EL R' sz xs cs fp
  | [], _, _, _, h => h
  | x :: xs, cs, fp, hm, h => by
    obtain ⟨f1, f2, rfl, h1, h2⟩ := h
    exact ⟨f1, f2, rfl, hm _ _ _ (fun b hb => by simp [hb]) h1, EL_mono xs _ _ (fun y c g hg => hm y c g (fun b hb => by simp [hg b hb])) h2⟩
theorem FL_len {R : (t : Ty) → El t → List Value → List Nat → Prop} (hR : ∀ t y c f, R t y c f → c.length = csz t) : ∀ (ts : List Ty) (x : HL ts) (cs : List Value) (fp : List Nat), FL R ts x cs fp → cs.length = (ts.map csz).sum
  | [], _, _, _, h => by simp [h.1]
  | t :: ts, x, cs, fp, h => by
    obtain ⟨c, c', f, f', rfl, rfl, h1, h2⟩ := h
    simp [hR _ _ _ _ h1, FL_len hR ts _ _ _ h2]
theorem EL_get {α : Type} {R : α → List Value → List Nat → Prop} {sz : Nat} : ∀ (xs : List α) (cs : List Value) (fp : List Nat), EL R sz xs cs fp → ∀ (i : Nat) (y : α), xs[i]? = some y → ∃ f, (∀ b ∈ f, b ∈ fp) ∧ R y ((cs.drop (i * sz)).take sz) f
  | [], _, _, _, i, y, hi => by simp at hi
  | x :: xs, cs, fp, h, i, y, hi => by
    obtain ⟨f1, f2, rfl, h1, h2⟩ := h
    cases i with
    | zero => simp at hi; subst hi; exact ⟨f1, fun b hb => by simp [hb], by simpa using h1⟩
    | succ i =>
      simp at hi
      obtain ⟨f, hf, hr⟩ := EL_get xs _ _ h2 i y hi
      refine ⟨f, fun b hb => by simp [hf b hb], ?_⟩
      rw [List.drop_drop] at hr
      rw [show (i + 1) * sz = sz + i * sz by rw [Nat.add_mul, Nat.one_mul, Nat.add_comm]]; exact hr

theorem RI_len {w : World} {J : Nat → Prop} : ∀ (d : Nat) (t : Ty) (x : El t) (cs : List Value), RI w J d t x cs → cs.length = csz t
  | 0, _, _, _, h => h.elim
  | d + 1, .int k, x, cs, h => by simp [RI] at h; simp [h.1, csz]
  | d + 1, .bool, x, cs, h => by simp [RI] at h; simp [h, csz]
  | d + 1, .str, x, cs, h => by simp [RI] at h; simp [h.1, csz]
  | d + 1, .sl e, x, cs, h => by
    rcases h with ⟨rfl, _⟩ | ⟨a, cap, rfl, _⟩ <;> rfl
  | d + 1, .st s, x, cs, h => by
    rw [csz, cszS_eq]
    exact FL_len (R := fun t y c f => f = [] ∧ RI w J d t y c) (fun t y c f hh => RI_len d t y c hh.2) _ _ _ _ h

theorem RO_len {w : World} : ∀ (d : Nat) (t : Ty) (x : El t) (cs : List Value) (fp : List Nat), RO w d t x cs fp → cs.length = csz t
  | 0, _, _, _, _, h => h.elim
  | d + 1, .int k, x, cs, fp, h => by simp [RO] at h; simp [h.1, csz]
  | d + 1, .bool, x, cs, fp, h => by simp [RO] at h; simp [h.1, csz]
  | d + 1, .str, x, cs, fp, h => by simp [RO] at h; simp [h.1, csz]
  | d + 1, .sl e, x, cs, fp, h => by
    rcases h with ⟨rfl, _⟩ | ⟨b, off, cap, cur, et, f, rfl, _⟩ <;> rfl
  | d + 1, .st s, x, cs, fp, h => by
    rw [csz, cszS_eq]
    exact FL_len (R := RO w d) (fun t y c f hh => RO_len d t y c f hh) _ _ _ _ h

/- more fuel -/
theorem RI_more {w : World} {J : Nat → Prop} : ∀ (d : Nat) (t : Ty) (x : El t) (cs : List Value), RI w J d t x cs → RI w J (d + 1) t x cs
  | 0, _, _, _, h => h.elim
  | d + 1, .int k, x, cs, h => h
  | d + 1, .bool, x, cs, h => h
  | d + 1, .str, x, cs, h => h
  | d + 1, .sl e, x, cs, h => by
    rcases h with h | ⟨a, cap, h1, h2, h3, h4, h5⟩
    · exact .inl h
    · refine .inr ⟨a, cap, h1, h2, h3, h4, fun i y hi => ?_⟩
      obtain ⟨c, hc, hl, hr⟩ := h5 i y hi
      exact ⟨c, hc, hl, RI_more d e y c hr⟩
  | d + 1, .st s, x, cs, h => FL_mono _ _ _ _ (fun t y c f _ hh => ⟨hh.1, RI_more d t y c hh.2⟩) h
theorem RO_more {w : World} : ∀ (d : Nat) (t : Ty) (x : El t) (cs : List Value) (fp : List Nat), RO w d t x cs fp → RO w (d + 1) t x cs fp
  | 0, _, _, _, _, h => h.elim
  | d + 1, .int k, x, cs, fp, h => h
  | d + 1, .bool, x, cs, fp, h => h
  | d + 1, .str, x, cs, fp, h => h
  | d + 1, .sl e, x, cs, fp, h => by
    rcases h with h | ⟨b, off, cap, cur, et, f, h1, h2, h3, h4⟩
    · exact .inl h
    · exact .inr ⟨b, off, cap, cur, et, f, h1, h2, h3, EL_mono _ _ _ (fun y c g _ hg => RO_more d e y c g hg) h4⟩
  | d + 1, .st s, x, cs, fp, h => FL_mono _ _ _ _ (fun t y c f _ hh => RO_more d t y c f hh) h
theorem RI_le {w : World} {J : Nat → Prop} {d d' : Nat} (hd : d ≤ d') {t : Ty} {x : El t} {cs : List Value} (h : RI w J d t x cs) : RI w J d' t x cs := by
  induction hd with
  | refl => exact h
  | step _ ih => exact RI_more _ _ _ _ ih
theorem RO_le {w : World} {d d' : Nat} (hd : d ≤ d') {t : Ty} {x : El t} {cs : List Value} {fp : List Nat} (h : RO w d t x cs fp) : RO w d' t x cs fp := by
  induction hd with
  | refl => exact h
  | step _ ih => exact RO_more _ _ _ _ _ ih

/- other memory, other blocks -/
theorem RI_same {w w' : World} {J J' : Nat → Prop} (hJ : ∀ b, J b → J' b) (hw : ∀ b, J b → w'.heap[b]? = w.heap[b]?) : ∀ (d : Nat) (t : Ty) (x : El t) (cs : List Value), RI w J d t x cs → RI w' J' d t x cs
  | 0, _, _, _, h => h.elim
  | d + 1, .int k, x, cs, h => h
  | d + 1, .bool, x, cs, h => h
  | d + 1, .str, x, cs, h => h
  | d + 1, .sl e, x, cs, h => by
    rcases h with h | ⟨a, cap, h1, h2, h3, h4, h5⟩
    · exact .inl h
    · refine .inr ⟨a, cap, h1, fun hp => hJ _ (h2 hp), h3, h4, fun i y hi => ?_⟩
      obtain ⟨c, hc, hl, hr⟩ := h5 i y hi
      exact ⟨c, hc, locA_same (by rw [add_block]; exact hw _ (h2 (pos_of hi))) hl, RI_same hJ hw d e y c hr⟩
  | d + 1, .st s, x, cs, h => FL_mono _ _ _ _ (fun t y c f _ hh => ⟨hh.1, RI_same hJ hw d t y c hh.2⟩) h
theorem RO_same {w w' : World} : ∀ (d : Nat) (t : Ty) (x : El t) (cs : List Value) (fp : List Nat), (∀ b ∈ fp, w'.heap[b]? = w.heap[b]?) → RO w d t x cs fp → RO w' d t x cs fp
  | 0, _, _, _, _, _, h => h.elim
  | d + 1, .int k, x, cs, fp, _, h => h
  | d + 1, .bool, x, cs, fp, _, h => h
  | d + 1, .str, x, cs, fp, _, h => h
  | d + 1, .sl e, x, cs, fp, hw, h => by
    rcases h with h | ⟨b, off, cap, cur, et, f, h1, h2, h3, h4⟩
    · exact .inl h
    · subst h3
      refine .inr ⟨b, off, cap, cur, et, f, h1, ⟨by rw [hw b (by simp)]; exact h2.obj, h2.fit, h2.len, h2.cap⟩, rfl, ?_⟩
      exact EL_mono _ _ _ (fun y c g hg hh => RO_same d e y c g (fun b hb => hw b (by simp [hg b hb])) hh) h4
  | d + 1, .st s, x, cs, fp, hw, h => FL_mono _ _ _ _ (fun t y c f hf hh => RO_same d t y c f (fun b hb => hw b (hf b hb)) hh) h

mutual
theorem TR_same {w w' : World} {I : Bool → Nat → Prop} (hI : ∀ k b, I k b → w'.heap[b]? = w.heap[b]?) : ∀ (g : Tag) (t : Ty) (x : El t) (cs : List Value) (fp : List Nat), (∀ b ∈ fp, w'.heap[b]? = w.heap[b]?) → TR w I g t x cs fp → TR w' I g t x cs fp
  | .imm q, t, x, cs, fp, _, h => by
    obtain ⟨⟨d, hd⟩, hf⟩ := h
    exact ⟨⟨d, RI_same (fun _ h => h) (hI q) d t x cs hd⟩, hf⟩
  | .own, t, x, cs, fp, hw, h => by obtain ⟨d, hd⟩ := h; exact ⟨d, RO_same d t x cs fp hw hd⟩
  | .dead, t, x, cs, fp, _, h => h
  | .st gs, .st s, x, cs, fp, hw, h => by simp only [TR] at h ⊢; exact TRL_same hI gs _ _ cs fp hw h
  | .st gs, .int _, x, cs, fp, hw, h | .st gs, .bool, x, cs, fp, hw, h | .st gs, .str, x, cs, fp, hw, h | .st gs, .sl _, x, cs, fp, hw, h => by simp [TR] at h
  | .os g, .sl e, x, cs, fp, hw, h => by
    simp only [TR] at h ⊢
    obtain ⟨b, off, cap, cur, et, f, h1, h2, h3, h4⟩ := h
    subst h3
    refine ⟨b, off, cap, cur, et, f, h1, ⟨by rw [hw b (by simp)]; exact h2.obj, h2.fit, h2.len, h2.cap⟩, rfl, ?_⟩
    exact EL_mono _ _ _ (fun y c k hk hh => TR_same hI g e y c k (fun b hb => hw b (by simp [hk b hb])) hh) h4
  | .os g, .int _, x, cs, fp, hw, h | .os g, .bool, x, cs, fp, hw, h | .os g, .str, x, cs, fp, hw, h | .os g, .st _, x, cs, fp, hw, h => by simp [TR] at h
theorem TRL_same {w w' : World} {I : Bool → Nat → Prop} (hI : ∀ k b, I k b → w'.heap[b]? = w.heap[b]?) : ∀ (gs : List Tag) (ts : List Ty) (x : HL ts) (cs : List Value) (fp : List Nat), (∀ b ∈ fp, w'.heap[b]? = w.heap[b]?) → TRL w I gs ts x cs fp → TRL w' I gs ts x cs fp
  | [], [], _, _, _, _, h => by simpa [TRL] using h
  | g :: gs, t :: ts, x, cs, fp, hw, h => by
    simp only [TRL] at h ⊢
    obtain ⟨c, c', f, f', rfl, rfl, h1, h2⟩ := h
    exact ⟨c, c', f, f', rfl, rfl, TR_same hI g t _ _ _ (fun b hb => hw b (by simp [hb])) h1, TRL_same hI gs ts _ _ _ (fun b hb => hw b (by simp [hb])) h2⟩
  | [], _ :: _, _, _, _, _, h | _ :: _, [], _, _, _, _, h => by simp [TRL] at h
end

mutual
theorem TR_len {w : World} {I : Bool → Nat → Prop} : ∀ (g : Tag) (t : Ty) (x : El t) (cs : List Value) (fp : List Nat), TR w I g t x cs fp → cs.length = csz t
  | .imm q, t, x, cs, fp, h => by obtain ⟨⟨d, hd⟩, hf⟩ := h; exact RI_len d t x cs hd
  | .own, t, x, cs, fp, h => by obtain ⟨d, hd⟩ := h; exact RO_len d t x cs fp hd
  | .dead, t, x, cs, fp, h => by simp only [TR] at h; exact h.1
  | .st gs, .st s, x, cs, fp, h => by simp only [TR] at h; rw [csz, cszS_eq]; exact TRL_len gs _ _ cs fp h
  | .st gs, .int _, x, cs, fp, h | .st gs, .bool, x, cs, fp, h | .st gs, .str, x, cs, fp, h | .st gs, .sl _, x, cs, fp, h => by simp [TR] at h
  | .os g, .sl e, x, cs, fp, h => by
    simp only [TR] at h
    obtain ⟨b, off, cap, cur, et, f, h1, _⟩ := h
    rw [h1]; rfl
  | .os g, .int _, x, cs, fp, h | .os g, .bool, x, cs, fp, h | .os g, .str, x, cs, fp, h | .os g, .st _, x, cs, fp, h => by simp [TR] at h
theorem TRL_len {w : World} {I : Bool → Nat → Prop} : ∀ (gs : List Tag) (ts : List Ty) (x : HL ts) (cs : List Value) (fp : List Nat), TRL w I gs ts x cs fp → cs.length = (ts.map csz).sum
  | [], [], _, _, _, h => by simp only [TRL] at h; simp [h.1]
  | g :: gs, t :: ts, x, cs, fp, h => by
    simp only [TRL] at h
    obtain ⟨c, c', f, f', rfl, rfl, h1, h2⟩ := h
    simp [TR_len g t _ _ _ h1, TRL_len gs ts _ _ _ h2]
  | [], _ :: _, _, _, _, h | _ :: _, [], _, _, _, h => by simp [TRL] at h
end

/- what is owned can be read -/
theorem FL_fp {R : (t : Ty) → El t → List Value → List Nat → Prop} {R' : (t : Ty) → El t → List Value → Prop} : ∀ (ts : List Ty) (x : HL ts) (cs : List Value) (fp : List Nat), (∀ t y c f, (∀ b ∈ f, b ∈ fp) → R t y c f → R' t y c) → FL R ts x cs fp → FL (fun t y c f => f = [] ∧ R' t y c) ts x cs []
  | [], _, _, _, _, h => ⟨h.1, rfl⟩
  | t :: ts, x, cs, fp, hm, h => by
    obtain ⟨c, c', f, f', rfl, rfl, h1, h2⟩ := h
    exact ⟨c, c', [], [], rfl, rfl, ⟨rfl, hm _ _ _ _ (fun b hb => by simp [hb]) h1⟩, FL_fp ts _ _ _ (fun t y c g hg => hm t y c g (fun b hb => by simp [hg b hb])) h2⟩
theorem arr_loc {w : World} {b off cap len sz : Nat} {cur : Array Value} {et : TypeId} (h : Arr w b off cap len sz cur et) : locA w ⟨b, off, none⟩ (cur.toList.drop off) := by
  intro j v hj
  rw [add_mk]
  simp only [World.cell?, h.obj]
  rw [List.getElem?_drop] at hj
  simpa using hj
theorem EL_read {w : World} {α : Type} {R : α → List Value → List Nat → Prop} {sz b off cap : Nat} {cur : Array Value} {et : TypeId} {xs : List α} {f : List Nat} (ha : Arr w b off cap xs.length sz cur et)
    (h : EL R sz xs (cur.toList.drop off) f) (i : Nat) (y : α) (hi : xs[i]? = some y) : ∃ c g, locA w ((⟨b, off, none⟩ : Addr).add (i * sz)) c ∧ (∀ q ∈ g, q ∈ f) ∧ R y c g := by
  obtain ⟨g, hg, hr⟩ := EL_get xs _ _ h i y hi
  exact ⟨_, g, locA_take _ (locA_drop _ (arr_loc ha)), hg, hr⟩
theorem RO_view {w : World} {J : Nat → Prop} : ∀ (d : Nat) (t : Ty) (x : El t) (cs : List Value) (fp : List Nat), (∀ b ∈ fp, J b) → RO w d t x cs fp → RI w J d t x cs
  | 0, _, _, _, _, _, h => h.elim
  | d + 1, .int k, x, cs, fp, _, h => ⟨h.1, h.2.1⟩
  | d + 1, .bool, x, cs, fp, _, h => h.1
  | d + 1, .str, x, cs, fp, _, h => ⟨h.1, h.2.1⟩
  | d + 1, .sl e, x, cs, fp, hj, h => by
    rcases h with h | ⟨b, off, cap, cur, et, f, h1, h2, h3, h4⟩
    · exact .inl ⟨h.1, h.2.1⟩
    · subst h3
      refine .inr ⟨⟨b, off, none⟩, cap, h1, fun _ => hj b (by simp), h2.len, h2.cap, fun i y hi => ?_⟩
      obtain ⟨c, g, hl, hg, hr⟩ := EL_read h2 h4 i y hi
      exact ⟨c, RO_len d e y c g hr, hl, RO_view d e y c g (fun q hq => hj q (by simp [hg q hq])) hr⟩
  | d + 1, .st s, x, cs, fp, hj, h => FL_fp _ _ _ _ (fun t y c f hf hh => RO_view d t y c f (fun b hb => hj b (hf b hb)) hh) h

theorem EL_bound {α : Type} {R : Nat → α → List Value → List Nat → Prop} (hm : ∀ d d' y c f, d ≤ d' → R d y c f → R d' y c f) {sz : Nat} : ∀ (xs : List α) (cs : List Value) (fp : List Nat), EL (fun y c f => ∃ d, R d y c f) sz xs cs fp → ∃ d, EL (R d) sz xs cs fp
  | [], _, _, h => ⟨0, h⟩
  | x :: xs, cs, fp, h => by
    obtain ⟨f1, f2, rfl, ⟨d1, h1⟩, h2⟩ := h
    obtain ⟨d2, h2⟩ := EL_bound hm xs _ _ h2
    exact ⟨max d1 d2, f1, f2, rfl, hm _ _ _ _ _ (Nat.le_max_left _ _) h1, EL_mono _ _ _ (fun y c f _ h => hm _ _ _ _ _ (Nat.le_max_right _ _) h) h2⟩
theorem FL_bound {R : Nat → (t : Ty) → El t → List Value → List Nat → Prop} (hm : ∀ d d' t y c f, d ≤ d' → R d t y c f → R d' t y c f) : ∀ (ts : List Ty) (x : HL ts) (cs : List Value) (fp : List Nat), FL (fun t y c f => ∃ d, R d t y c f) ts x cs fp → ∃ d, FL (R d) ts x cs fp
  | [], _, _, _, h => ⟨0, h⟩
  | t :: ts, x, cs, fp, h => by
    obtain ⟨c, c', f1, f2, rfl, rfl, ⟨d1, h1⟩, h2⟩ := h
    obtain ⟨d2, h2⟩ := FL_bound hm ts _ _ _ h2
    exact ⟨max d1 d2, c, c', f1, f2, rfl, rfl, hm _ _ _ _ _ _ (Nat.le_max_left _ _) h1, FL_mono _ _ _ _ (fun t y c f _ h => hm _ _ _ _ _ _ (Nat.le_max_right _ _) h) h2⟩
end Net

/- More on representation: plain data, tags split and turned, one cell each. -/
namespace Net
open Go
set_option linter.unusedVariables false

theorem FL_mem {R R' : (t : Ty) → El t → List Value → List Nat → Prop} : ∀ (ts : List Ty) (x : HL ts) (cs : List Value) (fp : List Nat), (∀ t ∈ ts, ∀ y c f, (∀ b ∈ f, b ∈ fp) → R t y c f → R' t y c f) → FL R ts x cs fp → FL R' ts x cs fp
  | [], _, _, _, _, h => h
  | t :: ts, x, cs, fp, hm, h => by
    obtain ⟨c, c', f, f', rfl, rfl, h1, h2⟩ := h
    exact ⟨c, c', f, f', rfl, rfl, hm _ (by simp) _ _ _ (fun b hb => by simp [hb]) h1, FL_mem ts _ _ _ (fun t ht y c g hg => hm t (by simp [ht]) y c g (fun b hb => by simp [hg b hb])) h2⟩
theorem FL_nil {R : (t : Ty) → El t → List Value → List Nat → Prop} : ∀ (ts : List Ty) (x : HL ts) (cs : List Value) (fp : List Nat), (∀ t ∈ ts, ∀ y c f, R t y c f → f = []) → FL R ts x cs fp → fp = []
  | [], _, _, _, _, h => h.2
  | t :: ts, x, cs, fp, hm, h => by
    obtain ⟨c, c', f, f', rfl, rfl, h1, h2⟩ := h
    rw [hm _ (by simp) _ _ _ h1, FL_nil ts _ _ _ (fun t ht => hm t (by simp [ht])) h2]; rfl
theorem plain_fields {s : SId} (h : plainS s = true) : ∀ t ∈ fieldsOf s, plainT t = true := by
  cases s <;> simp_all [plainS, fieldsOf, plainT]

theorem plain_RI {w w' : World} {J : Nat → Prop} : ∀ (d : Nat) (t : Ty) (x : El t) (cs : List Value), plainT t = true → RI w J d t x cs → RO w' d t x cs []
  | 0, _, _, _, _, h => h.elim
  | d + 1, .int k, x, cs, _, h => ⟨h.1, h.2, rfl⟩
  | d + 1, .bool, x, cs, _, h => ⟨h, rfl⟩
  | d + 1, .str, x, cs, _, h => ⟨h.1, h.2, rfl⟩
  | d + 1, .sl e, x, cs, hp, h => by simp [plainT] at hp
  | d + 1, .st s, x, cs, hp, h => FL_mem _ _ _ _ (fun t ht y c f _ hh => by rw [hh.1]; exact plain_RI d t y c (plain_fields hp t ht) hh.2) h
theorem plain_nil {w : World} : ∀ (d : Nat) (t : Ty) (x : El t) (cs : List Value) (fp : List Nat), plainT t = true → RO w d t x cs fp → fp = []
  | 0, _, _, _, _, _, h => h.elim
  | d + 1, .int k, x, cs, fp, _, h => h.2.2
  | d + 1, .bool, x, cs, fp, _, h => h.2
  | d + 1, .str, x, cs, fp, _, h => h.2.2
  | d + 1, .sl e, x, cs, fp, hp, h => by simp [plainT] at hp
  | d + 1, .st s, x, cs, fp, hp, h => FL_nil _ _ _ _ (fun t ht y c f hh => plain_nil d t y c f (plain_fields hp t ht) hh) h
/-- Plain data: wherever, and whatever is asked. -/
def PV (t : Ty) (x : El t) (cs : List Value) : Prop := ∀ w, ∃ d, RO w d t x cs []
theorem PV.of_RI {w : World} {J : Nat → Prop} {d : Nat} {t : Ty} {x : El t} {cs : List Value} (hp : plainT t = true) (h : RI w J d t x cs) : PV t x cs := fun _ => ⟨d, plain_RI d t x cs hp h⟩
theorem PV.of_RO {w : World} {d : Nat} {t : Ty} {x : El t} {cs : List Value} {fp : List Nat} (hp : plainT t = true) (h : RO w d t x cs fp) : fp = [] ∧ PV t x cs := by
  have hn := plain_nil d t x cs fp hp h
  subst hn
  exact ⟨rfl, PV.of_RI (J := fun _ => False) hp (RO_view d t x cs [] (by simp) h)⟩
theorem PV.RI {t : Ty} {x : El t} {cs : List Value} (h : PV t x cs) (w : World) (J : Nat → Prop) : ∃ d, RI w J d t x cs := by
  obtain ⟨d, hd⟩ := h w
  exact ⟨d, RO_view d t x cs [] (by simp) hd⟩

/- tags -/
mutual
theorem TR_view {w : World} {I : Bool → Nat → Prop} {J : Nat → Prop} (hI : ∀ k b, I k b → J b) : ∀ (g : Tag) (t : Ty) (x : El t) (cs : List Value) (fp : List Nat), aliveT t g = true → (∀ b ∈ fp, J b) → TR w I g t x cs fp → ∃ d, RI w J d t x cs
  | .imm q, t, x, cs, fp, _, _, h => by obtain ⟨⟨d, hd⟩, _⟩ := h; exact ⟨d, RI_same (hI q) (fun _ _ => rfl) d t x cs hd⟩
  | .own, t, x, cs, fp, _, hf, h => by obtain ⟨d, hd⟩ := h; exact ⟨d, RO_view d t x cs fp hf hd⟩
  | .dead, t, x, cs, fp, ha, _, h => by cases t <;> simp [aliveT] at ha
  | .st gs, .st s, x, cs, fp, ha, hf, h => by
    simp only [TR] at h; simp only [aliveT] at ha
    obtain ⟨d, hd⟩ := TRL_view hI gs _ _ cs fp ha hf h
    exact ⟨d + 1, hd⟩
  | .st gs, .int _, x, cs, fp, _, _, h | .st gs, .bool, x, cs, fp, _, _, h | .st gs, .str, x, cs, fp, _, _, h | .st gs, .sl _, x, cs, fp, _, _, h => by simp [TR] at h
  | .os g, .sl e, x, cs, fp, ha, hf, h => by
    simp only [TR] at h
    obtain ⟨b, off, cap, cur, et, f, h1, h2, h3, h4⟩ := h
    subst h3
    have hg : aliveT e g = true := by simpa [aliveT] using ha
    have h4' : EL (fun y c k => ∃ d, (fun d (y : El e) c k => (∀ q ∈ k, q ∈ f) → RI w J d e y c) d y c k) (csz e) x (cur.toList.drop off) f :=
      EL_mono _ _ _ (fun y c k hk hh => by
        obtain ⟨d, hd⟩ := TR_view hI g e y c k hg (fun q hq => hf q (by simp [hk q hq])) hh
        exact ⟨d, fun _ => hd⟩) h4
    obtain ⟨d, hd⟩ := EL_bound (R := fun d (y : El e) c k => (∀ q ∈ k, q ∈ f) → RI w J d e y c) (fun d d' y c k hdd hr hk => RI_le hdd (hr hk)) _ _ _ h4'
    refine ⟨d + 1, .inr ⟨⟨b, off, none⟩, cap, h1, fun _ => hf b (by simp), h2.len, h2.cap, fun i y hi => ?_⟩⟩
    obtain ⟨c, k, hl, hk, hr⟩ := EL_read h2 hd i y hi
    exact ⟨c, RI_len _ _ _ _ (hr hk), hl, hr hk⟩
  | .os g, .int _, x, cs, fp, _, _, h | .os g, .bool, x, cs, fp, _, _, h | .os g, .str, x, cs, fp, _, _, h | .os g, .st _, x, cs, fp, _, _, h => by simp [TR] at h
theorem TRL_view {w : World} {I : Bool → Nat → Prop} {J : Nat → Prop} (hI : ∀ k b, I k b → J b) : ∀ (gs : List Tag) (ts : List Ty) (x : HL ts) (cs : List Value) (fp : List Nat), aliveTs ts gs = true → (∀ b ∈ fp, J b) → TRL w I gs ts x cs fp → ∃ d, FL (fun t y c f => f = [] ∧ RI w J d t y c) ts x cs []
  | [], [], _, _, _, _, _, h => by simp only [TRL] at h; exact ⟨0, h.1, rfl⟩
  | g :: gs, t :: ts, x, cs, fp, ha, hf, h => by
    simp only [TRL] at h
    simp only [aliveTs, Bool.and_eq_true] at ha
    obtain ⟨c, c', f, f', rfl, rfl, h1, h2⟩ := h
    obtain ⟨d1, k1⟩ := TR_view hI g t _ _ _ ha.1 (fun b hb => hf b (by simp [hb])) h1
    obtain ⟨d2, k2⟩ := TRL_view hI gs ts _ _ _ ha.2 (fun b hb => hf b (by simp [hb])) h2
    exact ⟨max d1 d2, c, c', [], [], rfl, rfl, ⟨rfl, RI_le (Nat.le_max_left _ _) k1⟩, FL_mono _ _ _ _ (fun t y c f _ hh => ⟨hh.1, RI_le (Nat.le_max_right _ _) hh.2⟩) k2⟩
  | [], _ :: _, _, _, _, _, _, h | _ :: _, [], _, _, _, _, _, h => by simp [TRL] at h
end
end Net

/- Places inside a value: getting, gone, put. -/
namespace Net
open Go
set_option linter.unusedVariables false

theorem TR_imm {w : World} {I : Bool → Nat → Prop} {q : Bool} {t : Ty} {x : El t} {cs : List Value} {d : Nat} (h : RI w (I q) d t x cs) : TR w I (.imm q) t x cs [] := by unfold TR; exact ⟨⟨d, h⟩, rfl⟩
theorem TR_dead {w : World} {I : Bool → Nat → Prop} {t : Ty} {x : El t} {cs : List Value} (h : cs.length = csz t) : TR w I .dead t x cs [] := by unfold TR; exact ⟨h, rfl⟩
theorem TR_of_own {w : World} {I : Bool → Nat → Prop} {t : Ty} {x : El t} {cs : List Value} {fp : List Nat} {d : Nat} (h : RO w d t x cs fp) : TR w I .own t x cs fp := by unfold TR; exact ⟨d, h⟩
theorem TRL_nil {w : World} {I : Bool → Nat → Prop} {x : HL []} : TRL w I [] [] x [] [] := by unfold TRL; exact ⟨rfl, rfl⟩
/- tags are split and joined -/
theorem TRL_of_FL_imm {w : World} {I : Bool → Nat → Prop} {q : Bool} {d : Nat} : ∀ (ts : List Ty) (x : HL ts) (cs : List Value), FL (fun t y c f => f = [] ∧ RI w (I q) d t y c) ts x cs [] → TRL w I (List.replicate ts.length (.imm q)) ts x cs []
  | [], _, _, h => by obtain ⟨rfl, _⟩ := h; exact TRL_nil
  | t :: ts, x, cs, h => by
    obtain ⟨c, c', f, f', rfl, hf, ⟨rfl, h1⟩, h2⟩ := h
    simp only [List.nil_append] at hf; subst hf
    simp only [List.length_cons, List.replicate_succ]
    unfold TRL
    exact ⟨c, c', [], [], rfl, rfl, TR_imm h1, TRL_of_FL_imm ts _ _ h2⟩
theorem TRL_of_FL_own {w : World} {I : Bool → Nat → Prop} {d : Nat} : ∀ (ts : List Ty) (x : HL ts) (cs : List Value) (fp : List Nat), FL (RO w d) ts x cs fp → TRL w I (List.replicate ts.length .own) ts x cs fp
  | [], _, _, _, h => by obtain ⟨rfl, rfl⟩ := h; exact TRL_nil
  | t :: ts, x, cs, fp, h => by
    obtain ⟨c, c', f, f', rfl, rfl, h1, h2⟩ := h
    simp only [List.length_cons, List.replicate_succ]
    unfold TRL
    exact ⟨c, c', f, f', rfl, rfl, TR_of_own h1, TRL_of_FL_own ts _ _ _ h2⟩
theorem TRL_dead {w : World} {I : Bool → Nat → Prop} : ∀ (ts : List Ty) (x : HL ts) (cs : List Value), cs.length = (ts.map csz).sum → TRL w I (List.replicate ts.length .dead) ts x cs []
  | [], _, cs, h => by
    have : cs = [] := by simpa using h
    subst this; exact TRL_nil
  | t :: ts, x, cs, h => by
    simp only [List.map_cons, List.sum_cons] at h
    simp only [List.length_cons, List.replicate_succ]
    unfold TRL
    exact ⟨cs.take (csz t), cs.drop (csz t), [], [], by simp, rfl, TR_dead (by simp; omega), TRL_dead ts _ _ (by simp; omega)⟩
theorem TR_split {w : World} {I : Bool → Nat → Prop} {g : Tag} {s : SId} {x : Str s} {cs : List Value} {fp : List Nat} (h : TR w I g (.st s) x cs fp) : TRL w I (splitT (fieldsOf s).length g) (fieldsOf s) (toL s x) cs fp := by
  cases g with
  | imm q =>
    simp only [TR] at h
    obtain ⟨⟨d, hd⟩, rfl⟩ := h
    cases d with
    | zero => exact hd.elim
    | succ d => exact TRL_of_FL_imm _ _ _ hd
  | own =>
    simp only [TR] at h
    obtain ⟨d, hd⟩ := h
    cases d with
    | zero => exact hd.elim
    | succ d => exact TRL_of_FL_own _ _ _ _ hd
  | dead =>
    simp only [TR] at h
    obtain ⟨hl, rfl⟩ := h
    refine TRL_dead _ _ _ ?_
    rw [hl, csz, cszS_eq]
  | st gs => simpa only [TR, splitT] using h
  | os g => simp [TR] at h
theorem TR_join {w : World} {I : Bool → Nat → Prop} {gs : List Tag} {s : SId} {x : Str s} {cs : List Value} {fp : List Nat} (h : TRL w I gs (fieldsOf s) (toL s x) cs fp) : TR w I (.st gs) (.st s) x cs fp := by
  simpa only [TR] using h

theorem TRL_bound_own {w : World} {I : Bool → Nat → Prop} : ∀ (gs : List Tag) (ts : List Ty) (x : HL ts) (cs : List Value) (fp : List Nat), (∀ g t y c f, TR w I g t y c f → g ∈ gs → ∃ d, RO w d t y c f) → TRL w I gs ts x cs fp → ∃ d, FL (RO w d) ts x cs fp
  | [], [], _, _, _, _, h => by simp only [TRL] at h; exact ⟨0, h⟩
  | g :: gs, t :: ts, x, cs, fp, hm, h => by
    simp only [TRL] at h
    obtain ⟨c, c', f, f', rfl, rfl, h1, h2⟩ := h
    obtain ⟨d1, k1⟩ := hm g t _ _ _ h1 (by simp)
    obtain ⟨d2, k2⟩ := TRL_bound_own gs ts _ _ _ (fun g t y c f hh hg => hm g t y c f hh (by simp [hg])) h2
    exact ⟨max d1 d2, c, c', f, f', rfl, rfl, RO_le (Nat.le_max_left _ _) k1, FL_mono _ _ _ _ (fun t y c f _ hh => RO_le (Nat.le_max_right _ _) hh) k2⟩
  | [], _ :: _, _, _, _, _, h | _ :: _, [], _, _, _, _, h => by simp [TRL] at h

/- plain data under a living tag is owned -/
mutual
theorem TR_plain {w : World} {I : Bool → Nat → Prop} : ∀ (g : Tag) (t : Ty) (x : El t) (cs : List Value) (fp : List Nat), plainT t = true → aliveT t g = true → TR w I g t x cs fp → fp = [] ∧ PV t x cs
  | .imm q, t, x, cs, fp, hp, _, h => by simp only [TR] at h; obtain ⟨⟨d, hd⟩, hf⟩ := h; exact ⟨hf, PV.of_RI hp hd⟩
  | .own, t, x, cs, fp, hp, _, h => by simp only [TR] at h; obtain ⟨d, hd⟩ := h; exact PV.of_RO hp hd
  | .dead, t, x, cs, fp, _, ha, h => by cases t <;> simp [aliveT] at ha
  | .st gs, .st s, x, cs, fp, hp, ha, h => by
    simp only [TR] at h; simp only [aliveT] at ha
    have h2 := TRL_plain gs _ _ cs fp (plain_fields hp) ha h
    refine ⟨h2.1, fun w' => ?_⟩
    obtain ⟨d, hd⟩ := h2.2 w'
    exact ⟨d + 1, hd⟩
  | .st gs, .int _, x, cs, fp, _, _, h | .st gs, .bool, x, cs, fp, _, _, h | .st gs, .str, x, cs, fp, _, _, h | .st gs, .sl _, x, cs, fp, _, _, h => by simp [TR] at h
  | .os g, .sl e, x, cs, fp, hp, _, h => by simp [plainT] at hp
  | .os g, .int _, x, cs, fp, _, _, h | .os g, .bool, x, cs, fp, _, _, h | .os g, .str, x, cs, fp, _, _, h | .os g, .st _, x, cs, fp, _, _, h => by simp [TR] at h
theorem TRL_plain {w : World} {I : Bool → Nat → Prop} : ∀ (gs : List Tag) (ts : List Ty) (x : HL ts) (cs : List Value) (fp : List Nat), (∀ t ∈ ts, plainT t = true) → aliveTs ts gs = true → TRL w I gs ts x cs fp → fp = [] ∧ ∀ w', ∃ d, FL (RO w' d) ts x cs []
  | [], [], _, _, _, _, _, h => by simp only [TRL] at h; exact ⟨h.2, fun _ => ⟨0, h.1, rfl⟩⟩
  | g :: gs, t :: ts, x, cs, fp, hp, ha, h => by
    simp only [TRL] at h
    simp only [aliveTs, Bool.and_eq_true] at ha
    obtain ⟨c, c', f, f', rfl, rfl, h1, h2⟩ := h
    obtain ⟨rfl, k1⟩ := TR_plain g t _ _ _ (hp t (by simp)) ha.1 h1
    obtain ⟨rfl, k2⟩ := TRL_plain gs ts _ _ _ (fun t ht => hp t (by simp [ht])) ha.2 h2
    refine ⟨rfl, fun w' => ?_⟩
    obtain ⟨d1, k1⟩ := k1 w'
    obtain ⟨d2, k2⟩ := k2 w'
    exact ⟨max d1 d2, c, c', [], [], rfl, rfl, RO_le (Nat.le_max_left _ _) k1, FL_mono _ _ _ _ (fun t y c f _ hh => RO_le (Nat.le_max_right _ _) hh) k2⟩
  | [], _ :: _, _, _, _, _, _, h | _ :: _, [], _, _, _, _, _, h => by simp [TRL] at h
end
mutual
theorem TR_own {w : World} {I : Bool → Nat → Prop} : ∀ (g : Tag) (t : Ty) (x : El t) (cs : List Value) (fp : List Nat), ownT t g = true → aliveT t g = true → TR w I g t x cs fp → ∃ d, RO w d t x cs fp
  | .own, t, x, cs, fp, _, _, h => by simpa only [TR] using h
  | .st gs, .st s, x, cs, fp, ho, ha, h => by
    by_cases hp : plainS s = true
    · obtain ⟨rfl, k⟩ := TR_plain (.st gs) (.st s) x cs fp hp ha h
      exact k w
    · simp only [ownT, hp, Bool.false_and, Bool.false_or] at ho
      simp only [aliveT] at ha
      simp only [TR] at h
      obtain ⟨d, hd⟩ := TRL_own gs _ _ cs fp ho ha h
      exact ⟨d + 1, hd⟩
  | .imm q, t, x, cs, fp, ho, ha, h => by
    obtain ⟨rfl, k⟩ := TR_plain (.imm q) t x cs fp (by cases t <;> simpa [ownT] using ho) ha h
    exact k w
  | .dead, t, x, cs, fp, ho, ha, h => by cases t <;> simp [aliveT] at ha
  | .st gs, .int _, x, cs, fp, _, _, h | .st gs, .bool, x, cs, fp, _, _, h | .st gs, .str, x, cs, fp, _, _, h | .st gs, .sl _, x, cs, fp, _, _, h => by simp [TR] at h
  | .os g, .sl e, x, cs, fp, ho, _, h => by simp [ownT, plainT] at ho
  | .os g, .int _, x, cs, fp, _, _, h | .os g, .bool, x, cs, fp, _, _, h | .os g, .str, x, cs, fp, _, _, h | .os g, .st _, x, cs, fp, _, _, h => by simp [TR] at h
theorem TRL_own {w : World} {I : Bool → Nat → Prop} : ∀ (gs : List Tag) (ts : List Ty) (x : HL ts) (cs : List Value) (fp : List Nat), ownTs ts gs = true → aliveTs ts gs = true → TRL w I gs ts x cs fp → ∃ d, FL (RO w d) ts x cs fp
  | [], [], _, _, _, _, _, h => by simp only [TRL] at h; exact ⟨0, h⟩
  | g :: gs, t :: ts, x, cs, fp, ho, ha, h => by
    simp only [TRL] at h
    simp only [aliveTs, ownTs, Bool.and_eq_true] at ha ho
    obtain ⟨c, c', f, f', rfl, rfl, h1, h2⟩ := h
    obtain ⟨d1, k1⟩ := TR_own g t _ _ _ ho.1 ha.1 h1
    obtain ⟨d2, k2⟩ := TRL_own gs ts _ _ _ ho.2 ha.2 h2
    exact ⟨max d1 d2, c, c', f, f', rfl, rfl, RO_le (Nat.le_max_left _ _) k1, FL_mono _ _ _ _ (fun t y c f _ hh => RO_le (Nat.le_max_right _ _) hh) k2⟩
  | [], _ :: _, _, _, _, _, _, h | _ :: _, [], _, _, _, _, _, h => by simp [TRL] at h
end

/- one field of several -/
def offs (ts : List Ty) (i : Nat) : Nat := ((ts.take i).map csz).sum
theorem TRL_nth {w : World} {I : Bool → Nat → Prop} : ∀ (ts : List Ty) (gs : List Tag) (x : HL ts) (cs : List Value) (fp : List Nat) (i : Nat) (u : Ty) (y : El u) (gi : Tag), TRL w I gs ts x cs fp → nthL ts x i = some ⟨u, y⟩ → gs[i]? = some gi →
    ts[i]? = some u ∧ ∃ pre c post fpre f fpost, cs = pre ++ (c ++ post) ∧ fp = fpre ++ (f ++ fpost) ∧ pre.length = offs ts i ∧ TR w I gi u y c f ∧
      ∀ w' g' y' c' f' z, (∀ k b, I k b → w'.heap[b]? = w.heap[b]?) → (∀ b ∈ fpre ++ fpost, w'.heap[b]? = w.heap[b]?) → TR w' I g' u y' c' f' → setL ts x i u y' = some z → TRL w' I (gs.set i g') ts z (pre ++ (c' ++ post)) (fpre ++ (f' ++ fpost))
  | [], _, _, _, _, i, u, y, gi, _, hn, _ => by simp [nthL] at hn
  | t :: ts, [], x, cs, fp, i, u, y, gi, h, _, _ => by simp [TRL] at h
  | t :: ts, g :: gs, x, cs, fp, 0, u, y, gi, h, hn, hg => by
    simp only [nthL, Option.some.injEq, Sigma.mk.injEq] at hn
    obtain ⟨rfl, hy⟩ := hn
    have hy := eq_of_heq hy
    subst hy
    simp at hg; subst hg
    simp only [TRL] at h
    obtain ⟨c, c', f, f', rfl, rfl, h1, h2⟩ := h
    refine ⟨by simp, [], c, c', [], f, f', rfl, rfl, by simp [offs], h1, ?_⟩
    intro w' g' y' c2 f2 z hI hw h3 hs
    simp [setL, castE] at hs
    subst hs
    simp only [List.nil_append, List.set_cons_zero, TRL]
    exact ⟨c2, c', f2, f', rfl, rfl, h3, TRL_same hI gs ts _ _ _ (fun b hb => hw b (by simp [hb])) h2⟩
  | t :: ts, g :: gs, x, cs, fp, i + 1, u, y, gi, h, hn, hg => by
    simp only [TRL] at h
    obtain ⟨c, c', f, f', rfl, rfl, h1, h2⟩ := h
    obtain ⟨hu, pre, c0, post, fpre, f0, fpost, rfl, rfl, hl, h3, h4⟩ := TRL_nth ts gs x.2 c' f' i u y gi h2 (by simpa [nthL] using hn) (by simpa using hg)
    refine ⟨by simpa using hu, c ++ pre, c0, post, f ++ fpre, f0, fpost, by simp, by simp, ?_, h3, ?_⟩
    · simp [offs, TR_len _ _ _ _ _ h1] at hl ⊢; exact hl
    · intro w' g' y' c2 f2 z hI hw h5 hs
      simp only [setL] at hs
      cases hz : setL ts x.2 i u y' with
      | none => simp [hz] at hs
      | some z2 =>
        simp [hz] at hs
        subst hs
        simp only [List.set_cons_succ, TRL]
        refine ⟨c, pre ++ (c2 ++ post), f, fpre ++ (f2 ++ fpost), by simp, by simp, TR_same hI _ _ _ _ _ (fun b hb => hw b (by simp [hb])) h1, ?_⟩
        exact h4 w' g' y' c2 f2 z2 hI (fun b hb => hw b (by simp only [List.mem_append] at hb ⊢; rcases hb with hb | hb; exact .inl (.inr hb); exact .inr hb)) h5 hz
end Net
