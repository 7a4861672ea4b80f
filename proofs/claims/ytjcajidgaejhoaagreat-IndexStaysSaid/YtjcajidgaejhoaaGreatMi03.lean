/- Gates as keys of a map. circ.Store in memory; what gate does. -/
import Derived.Test.YtjcajidgaejhoaaGreatMi02
namespace Go.Proofs.YtjcajidgaejhoaaGreat
open Go.RowKit
set_option linter.unusedSimpArgs false
set_option linter.unusedVariables false

structure Gt where
  k : Int
  a : Int
  b : Int
  deriving DecidableEq

def Gt.val (g : Gt) : Value := .agg #[.int .i64 g.k, .int .i64 g.a, .int .i64 g.b]
def Gt.cs (g : Gt) : List Value := [.int .i64 g.k, .int .i64 g.a, .int .i64 g.b]
def ents (l : List Gt) : List MapEntry := l.zipIdx.map fun (g, i) => { key := g.val, val := .int .i64 i, born := i }
/-- The place of a gate. -/
def find (g : Gt) (l : List Gt) (i : Nat) : Option Nat := match l with
  | [] => none
  | h :: t => if g = h then some i else find g t (i + 1)

/-- What a look-up tells. -/
def looked (g : Gt) (l : List Gt) : Value := match find g l 0 with
  | some k => .tuple #[.int .i64 k, .bool true]
  | none => .tuple #[.int .i64 0, .bool false]

end Go.Proofs.YtjcajidgaejhoaaGreat

namespace Go.Proofs.YtjcajidgaejhoaaGreat
open Go.RowKit
set_option linter.unusedSimpArgs false
set_option linter.unusedVariables false

theorem RowAt.ne_m {w : World} {b e size n cap b' : Nat} {xs : List Value} {es : Array MapEntry} {c : Nat} (h : RowAt w b e size n cap xs) (h' : MBlk w b' es c) : b ≠ b' := let ⟨_, h1, _⟩ := h.blk; h1.ne_m h'

end Go.Proofs.YtjcajidgaejhoaaGreat

