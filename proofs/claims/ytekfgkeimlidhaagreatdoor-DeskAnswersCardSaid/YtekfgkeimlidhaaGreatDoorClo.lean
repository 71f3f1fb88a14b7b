import Derived.Test.YtekfgkeimlidhaaGreatDoorTl
import Derived.Lib.QuietBelow
/- what is asked of a predicate that is handed to a function -/
set_option linter.all false
namespace Go.Proofs.YtekfgkeimlidhaaGreatDoor
open Go.RowKit
/-- called at x in each later world it gives p x, and what lay lies still -/
def PredB (P : Program) (g : Nat) (lb : Array Value) (p : Int → Option Bool) (w : World) : Prop :=
  ∀ (W : World) (x : Int) (b : Bool), Below w.heap.size w W → p x = some b → Calls P g (#[.int .i64 x] ++ lb) W fun e w' => e = .returned (.bool b) ∧ Below W.heap.size W w'
theorem PredB.at {P : Program} {g : Nat} {lb : Array Value} {p : Int → Option Bool} {w W : World} (h : PredB P g lb p w) (hb : Below w.heap.size w W) : PredB P g lb p W :=
  fun W' x b hB hq => h W' x b (hb.trans (hB.mono hb.size)) hq
/-- the same of a predicate of rows -/
def PredR (P : Program) (g : Nat) (lb : Array Value) (p : List Int → Option Bool) (w : World) : Prop :=
  ∀ (W : World) (A : Option Addr) (cap : Nat) (l : List Int) (b : Bool), Below w.heap.size w W → ReadsI W W.heap.size A l → p l = some b → Calls P g (#[.slice A l.length cap] ++ lb) W fun e w' => e = .returned (.bool b) ∧ Below W.heap.size W w'
theorem PredR.at {P : Program} {g : Nat} {lb : Array Value} {p : List Int → Option Bool} {w W : World} (h : PredR P g lb p w) (hb : Below w.heap.size w W) : PredR P g lb p W :=
  fun W' A c l b hB hr hq => h W' A c l b (hb.trans (hB.mono hb.size)) hr hq
theorem natBne (a b : Nat) : (((a : Nat) : Int) != ((b : Nat) : Int)) = (a != b) := by
  rw [Bool.eq_iff_iff, bne_iff_ne, bne_iff_ne]; omega
theorem natBne0 (a : Nat) : (((a : Nat) : Int) != 0) = (a != 0) := by
  rw [Bool.eq_iff_iff, bne_iff_ne, bne_iff_ne]; omega
theorem natBeq (a b : Nat) : (((a : Nat) : Int) == ((b : Nat) : Int)) = (a == b) := by
  rw [Bool.eq_iff_iff, beq_iff_eq, beq_iff_eq]; omega
theorem natBeq0 (a : Nat) : (((a : Nat) : Int) == 0) = (a == 0) := by
  rw [Bool.eq_iff_iff, beq_iff_eq, beq_iff_eq]; omega
end Go.Proofs.YtekfgkeimlidhaaGreatDoor
