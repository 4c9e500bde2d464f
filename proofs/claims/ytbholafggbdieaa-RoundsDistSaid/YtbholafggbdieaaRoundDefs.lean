/- Rounds in plain lists: what a vertex does, and what a round makes. No program in sight. -/
import Derived.Test.YtbholafggbdieaaGraph
namespace Go.Proofs.Ytbholafggbdieaa
open Go.RowKit

/-- A vertex's value. -/
structure Vl where
  a : Int
  l : Int
deriving DecidableEq
def encV (x : Vl) : List Value := [.int .i64 x.a, .int .i64 x.l]
def encN (n : Int) : List Value := [.int .i64 n]

def lowS (p : Vl × Bool) (m : Int) : Vl × Bool := if p.1.a = -1 ∨ m < p.1.a then (⟨m, p.1.l⟩, true) else p
def lowG (old : Vl) (mail : List Int) : Vl × Bool := mail.foldl lowS (old, false)
def wakeG (kind v src : Int) (old : Vl) (phase : Int) (fresh : Bool) (mail : List Int) : Vl × Bool :=
  if kind = 1 then (if fresh then (⟨if v = src then 0 else -1, -1⟩, decide (v = src)) else lowG old mail)
  else if kind = 2 then (if fresh then (⟨v, -1⟩, true) else lowG old mail)
  else if old.l ≠ -1 then (old, false)
  else if phase = 0 then (if fresh then (⟨v, -1⟩, true) else lowG old mail)
  else if fresh then (if old.a = v then (⟨old.a, old.a⟩, true) else (old, false))
  else if mail.any (fun m => decide (m = old.a)) then (⟨old.a, old.a⟩, true) else (old, false)
def sayG (kind : Int) (x : Vl) (wt : Int) : Int := if kind = 1 then x.a + wt else x.a
def outG (kind phase : Int) : Bool := if kind = 3 then decide (phase = 0) else true
def inG (kind phase : Int) : Bool := if kind = 1 then false else if kind = 2 then true else decide (phase = 1)
def topG (kind : Int) : Int := if kind = 1 then 4398046511104 else 199
def valB (kind : Int) (x : Vl) : Bool := decide (-1 ≤ x.a) && (decide (x.a ≤ topG kind) && (decide (-1 ≤ x.l) && decide (x.l < 200)))
def kindB (k : Int) : Bool := decide (1 ≤ k) && decide (k ≤ 3)
def phaseB (kind phase : Int) : Bool := decide (phase = 0) || (decide (phase = 1) && decide (kind = 3))
theorem below_drewN {B : Nat} {w w' : World} (h : Below B w w') (n : Nat) : Below B w (w'.drewN n) := ⟨h.os, h.tape, h.output, h.size, h.block⟩
theorem below_two (w : World) (o o' : Obj) : Below w.heap.size w ((w.alloc o).alloc o') := (Below.of_alloc _ _).alloc (by simp) _
end Go.Proofs.Ytbholafggbdieaa
