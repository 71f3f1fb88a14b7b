import Derived.Test.YtecllcpjjllogaaGreatDoorC
import Derived.Test.YtecllcpjjllogaaGreatDoorOwn
set_option linter.all false
set_option maxRecDepth 100000
namespace Go.Proofs.YtecllcpjjllogaaGreatDoor
open Go.RowKit
/-- lines as cells -/
def lineCells (l : List (Int × Int)) : List Value := l.flatMap fun p => [.int .i64 p.1, .int .i64 p.2]
theorem lineCells_at : ∀ (l : List (Int × Int)) (k : Nat) (h : k < l.length), (lineCells l)[k * 2]? = some (.int .i64 l[k].1) ∧ (lineCells l)[k * 2 + 1]? = some (.int .i64 l[k].2)
  | p :: l, 0, _ => ⟨rfl, rfl⟩
  | p :: l, k+1, h => by
    have := lineCells_at l k (by simpa using h)
    simpa [lineCells, Nat.succ_mul] using this
theorem lineCells_len (l : List (Int × Int)) : (lineCells l).length = l.length * 2 := by
  induction l with
  | nil => rfl
  | cons p l ih => simp only [lineCells, List.flatMap_cons, List.length_append, List.length_cons, List.length_nil] at *; omega
def ReadsL (w : World) (B : Nat) (A : Option Addr) (l : List (Int × Int)) : Prop := Reads w B 2 A l.length (lineCells l)
theorem ReadsL.at_ {w : World} {B : Nat} {A : Option Addr} {l : List (Int × Int)} {k : Nat} (h : ReadsL w B A l) (hk : k < l.length) :
    ∃ b o, A = some ⟨b, o, none⟩ ∧ b < B ∧ w.cell? ⟨b, o + k * 2, none⟩ = some (.int .i64 l[k].1) ∧ w.cell? ⟨b, o + k * 2 + 1, none⟩ = some (.int .i64 l[k].2) := by
  obtain ⟨b, o, e, hb, hc⟩ := h.2 (by omega)
  obtain ⟨h1, h2⟩ := lineCells_at l k hk
  exact ⟨b, o, e, hb, hc _ _ h1, hc _ _ h2⟩
def goes (l : List (Int × Int)) (a b : Int) : Bool := l.any fun p => p.1 == a && p.2 == b
def besL (l : List (Int × Int)) (a b : Int) : Bool := goes l a b || goes l b a
/-- what is wrong with points and lines: the first thing -/
def errLines (n : Int) : List (Int × Int) → Int
  | [] => 0
  | p :: l => if ¬ (0 ≤ p.1 ∧ p.1 ≤ n - 1) ∨ ¬ (0 ≤ p.2 ∧ p.2 ≤ n - 1) then 1 else if p.1 = p.2 then 3 else errLines n l
def errG (n : Int) (l : List (Int × Int)) : Int := if ¬ (1 ≤ n ∧ n ≤ 8) then 1 else if 24 < l.length then 4 else errLines n l
theorem errLines_drop (n : Int) (l : List (Int × Int)) (k : Nat) (hk : k < l.length) : errLines n (l.drop k) = if ¬ (0 ≤ l[k].1 ∧ l[k].1 ≤ n - 1) ∨ ¬ (0 ≤ l[k].2 ∧ l[k].2 ≤ n - 1) then 1 else if l[k].1 = l[k].2 then 3 else errLines n (l.drop (k+1)) := by
  rw [List.drop_eq_getElem_cons hk]; rfl
end Go.Proofs.YtecllcpjjllogaaGreatDoor
