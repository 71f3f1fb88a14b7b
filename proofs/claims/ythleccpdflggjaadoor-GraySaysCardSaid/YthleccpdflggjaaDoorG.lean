import Derived.WalkKit
import Derived.KernelRfl
/- plain facts on the finite Gray rows -/
namespace Go.Proofs.YthleccpdflggjaaDoor.Pl
open Go
def gAt (p : Int) : Int := bits .xor .i64 p (p / 2)
def pl : Nat → Int → Int → Int
  | 0, _, o => o
  | k+1, n, o => if 0 < n then pl k (n / 2) (bits .xor .i64 o n) else o
def lg : Nat → Int → Int → Int
  | 0, _, o => o
  | k+1, d, o => if 1 < d then lg k (d / 2) (o + 1) else o
def gNext (n : Nat) (p : Int) : Int := if p + 1 < 2 ^ n then bits .xor .i64 (p + 1) ((p + 1) / 2) else 0
def gTurn (n : Nat) (p : Int) : Int := lg 9 (bits .xor .i64 (gAt p) (gNext n p)) 0
def mem (s : Int) (i : Nat) : Bool := s / 2 ^ i % 2 == 1
def nx (n : Nat) (p : Int) : Int := if p + 1 = 2 ^ n then 0 else p + 1

def chkBack (n p : Nat) : Bool := decide (0 ≤ gAt p) && decide (gAt p ≤ 2^n-1) && pl 9 (gAt p) 0 == p && decide (0 ≤ pl 9 p 0) && decide (pl 9 p 0 ≤ 2^n-1) && gAt (pl 9 p 0) == p
def chkOne (n p : Nat) : Bool := decide (0 ≤ gTurn n p) && decide (gTurn n p ≤ n - 1) && decide (0 ≤ gAt p) && decide (gAt p ≤ 255) && decide (0 ≤ gAt (nx n p)) && decide (gAt (nx n p) ≤ 255) && decide (0 ≤ gNext n p) && decide (gNext n p ≤ 255) && decide (bits .xor .i64 (gAt p) (gNext n p) ≤ 255) && decide (0 ≤ bits .xor .i64 (gAt p) (gNext n p)) &&
  (List.range n).all fun i => ((mem (gAt p) i != mem (gAt (nx n p)) i) == decide ((i : Int) = gTurn n p))
def all9 (f : Nat → Nat → Bool) : Bool := (List.range 9).all fun n => (List.range (2^n)).all fun p => f n p
theorem all9_at {f : Nat → Nat → Bool} (h : all9 f = true) {n p : Nat} (hn : n ≤ 8) (hp : p < 2 ^ n) : f n p = true := by
  unfold all9 at h
  rw [List.all_eq_true] at h
  have := h n (by simp; omega)
  rw [List.all_eq_true] at this
  exact this p (by simpa using hp)
theorem back_all : all9 chkBack = true := by decide +kernel
theorem one_all : all9 (fun n p => n == 0 || chkOne n p) = true := by decide +kernel
def tzf : Nat → Int → Int → Int
  | 0, _, c => c
  | k+1, m, c => if m % 2 = 0 then tzf k (m / 2) (c + 1) else c
def chkHanoi (n p : Nat) : Bool := decide (gTurn n p = if (p:Int) + 1 = 2 ^ n then (n:Int) - 1 else tzf 9 (p + 1) 0)
theorem hanoi_all : all9 (fun n p => n == 0 || chkHanoi n p) = true := by decide +kernel
end Go.Proofs.YthleccpdflggjaaDoor.Pl
