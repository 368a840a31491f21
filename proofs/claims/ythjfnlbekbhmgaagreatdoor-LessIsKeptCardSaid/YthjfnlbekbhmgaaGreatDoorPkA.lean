/- Packets, flows, tracked flows: words, no program in sight. -/
import Derived.Test.YthjfnlbekbhmgaaGreatDoorRwB
namespace Go.Proofs.YthjfnlbekbhmgaaGreatDoor
open Go.RowKit Go.Hw

structure Fl where
  proto : Int
  s6 : Bool
  sh : Int
  sl : Int
  t6 : Bool
  th : Int
  tl : Int
  fp : Int
  tp : Int
deriving DecidableEq
structure Tk where
  f : Fl
  last : Int
  ans : Bool
  done : Bool
def noFl : Fl := ⟨0, false, 0, 0, false, 0, 0, 0, 0⟩
def noTk : Tk := ⟨noFl, 0, false, false⟩
structure Pk where
  f : Fl
  hops : Int
  syn : Bool
  fin : Bool
  rst : Bool
  has : Bool
  seq : Int
  ack : Int
  reply : Bool
  id : Int
  pA : Option Addr
  pn : Nat
  pc : Nat
def backF (f : Fl) : Fl := ⟨f.proto, f.t6, f.th, f.tl, f.s6, f.sh, f.sl, f.tp, f.fp⟩
theorem back_back (f : Fl) : backF (backF f) = f := rfl
/-- A right address. -/
def AdF (six : Bool) (hi lo : Int) : Prop := 0 ≤ hi ∧ hi ≤ 18446744073709551615 ∧ 0 ≤ lo ∧ lo ≤ 18446744073709551615 ∧ (six = false → hi = 0 ∧ lo < 4294967296)
structure FlOk (f : Fl) : Prop where
  six : f.t6 = f.s6
  src : AdF f.s6 f.sh f.sl
  dst : AdF f.t6 f.th f.tl
  fp : 0 ≤ f.fp ∧ f.fp ≤ 65535
  tp : 0 ≤ f.tp ∧ f.tp ≤ 65535
structure PkOk (p : Pk) : Prop where
  fl : FlOk p.f
  known : p.f.proto = 6 ∨ p.f.proto = 17 ∨ p.f.proto = 1
  hops : 0 ≤ p.hops ∧ p.hops ≤ 255
  seq : 0 ≤ p.seq ∧ p.seq ≤ 4294967295
  ack : 0 ≤ p.ack ∧ p.ack ≤ 4294967295
  id : 0 ≤ p.id ∧ p.id ≤ 65535
  icmp : p.f.proto = 1 → p.f.fp = 0 ∧ p.f.tp = 0 ∧ p.seq ≤ 65535
  udp : p.f.proto = 17 → p.seq = 0
  ntcp : p.f.proto ≠ 6 → p.syn = false ∧ p.fin = false ∧ p.rst = false ∧ p.has = false ∧ p.ack = 0
  nicmp : p.f.proto ≠ 1 → p.reply = false ∧ p.id = 0
  acked : p.ack ≠ 0 → p.has = true
  pay : p.pn ≤ 1400
theorem FlOk.back {f : Fl} (h : FlOk f) : FlOk (backF f) := ⟨h.six.symm, h.dst, h.src, h.tp, h.fp⟩
/-- The packet that goes back, with no Fin and no Rst. -/
def stillP (p : Pk) : Pk := { p with fin := false, rst := false }
def backP (p : Pk) : Pk := { p with f := backF p.f, fin := false, rst := false }
theorem PkOk.still {p : Pk} (h : PkOk p) : PkOk (stillP p) := { h with ntcp := fun e => let ⟨a, _, _, d, e⟩ := h.ntcp e; ⟨a, rfl, rfl, d, e⟩ }
theorem PkOk.back {p : Pk} (h : PkOk p) : PkOk (backP p) :=
  { h with fl := h.fl.back, icmp := fun e => let ⟨a, b, c⟩ := h.icmp e; ⟨b, a, c⟩, ntcp := fun e => let ⟨a, _, _, d, e⟩ := h.ntcp e; ⟨a, rfl, rfl, d, e⟩ }
/-- After how long a tracked flow ends, at the law's times. -/
def longT (x : Tk) : Int := if x.done then 5 else if !x.ans then 10 else if x.f.proto == 6 then 100 else 50
def endedT (at_ : Int) (x : Tk) : Bool := decide (longT x ≤ at_ - x.last)
def sameT (f : Fl) (x : Tk) : Bool := decide (x.f = f) || decide (x.f = backF f)
/-- A flow that is seen. -/
def seenT (f : Fl) (at_ : Int) (fin : Bool) (x : Tk) : Tk := ⟨x.f, at_, x.ans || !decide (x.f = f), x.done || fin⟩
end Go.Proofs.YthjfnlbekbhmgaaGreatDoor
