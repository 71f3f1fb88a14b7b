import Derived.Test.YtoiidngnlhhanaaFact
import Derived.Test.YtoiidngnlhhanaaOA2
/- the contracts of clique's functions, over models that may be undefined -/
set_option linter.all false
set_option maxRecDepth 100000
namespace Go.Proofs.Ytoiidngnlhhanaa
open Go.RowKit Go.Shelf Pl
def mMost (n : Int) (l : List (Int × Int)) : Option (Int × Int) := if good n l then some (mostM n l, errG n l) else none
def mAll (n : Int) (l : List (Int × Int)) : Option (List (List Int) × Int) := if good n l then some (if errG n l = 0 then (cliquesM n.toNat l).map membI else [], errG n l) else none
def mFact : Option Bool := some true
theorem ok_of {α : Type} {c : Prop} [Decidable c] {x r : α} (h : (if c then some x else none) = some r) : c ∧ x = r := by
  split at h
  · exact ⟨by assumption, Option.some.inj h⟩
  · cases h
theorem mMost_ok {n : Int} {l : List (Int × Int)} {A : Option Addr} {r : Int × Int} (w : World) (cap : Nat) (hr : ReadsL w w.heap.size A l) (h : mMost n l = some r) :
    Calls Try.prog 8 #[.int .i64 n, .slice A l.length cap] w fun e w' => e = .returned (.tuple #[.int .i64 r.1, errV 45 r.2]) ∧ Below w.heap.size w w' := by
  obtain ⟨⟨hn, hl⟩, rfl⟩ := ok_of h
  unfold mostM
  by_cases he : errG n l = 0
  · rw [if_pos he, he, errV_zero]; exact most_ok n A cap l w hn hr hl he
  · rw [if_neg he, errV_pos _ he]; exact most_err n A cap l w hn hr hl he
theorem ReadsR.of_rows {W : World} {B base : Nat} {A : Option Addr} {vs : List Value} {ls : List (List Int)} (h : Reads W W.heap.size 1 A ls.length vs) (hr : RowsR W base vs ls) : ReadsR W W.heap.size A ls := by
  refine ⟨vs, h, fun k l hl => ?_⟩
  obtain ⟨v, hv, ho⟩ := RowsR.at_ vs ls hr k l hl
  obtain ⟨A', c, rfl, h'⟩ := own_readsI ho
  exact ⟨A', c, hv, h'⟩
theorem mAll_ok {n : Int} {l : List (Int × Int)} {A : Option Addr} {r : List (List Int) × Int} (w : World) (cap : Nat) (hr : ReadsL w w.heap.size A l) (h : mAll n l = some r) :
    Calls Try.prog 24 #[.int .i64 n, .slice A l.length cap] w fun e w' => ∃ A' cap', e = .returned (.tuple #[.slice A' r.1.length cap', errV 45 r.2]) ∧ ReadsR w' w'.heap.size A' r.1 ∧ Below w.heap.size w w' := by
  obtain ⟨⟨hn, hl⟩, rfl⟩ := ok_of h
  by_cases he : errG n l = 0
  · rw [if_pos he, he, errV_zero]
    refine (all_ok n A cap l w hn hr hl he).mono ?_
    rintro e w' ⟨v, vs, rfl, ho, hrr, hb⟩
    obtain ⟨A', c, rfl, hrd⟩ := own_reads ho
    refine ⟨A', c, by simp, ReadsR.of_rows (B := 0) (by simpa using hrd) hrr, hb⟩
  · rw [if_neg he, errV_pos _ he]
    refine (all_err n A cap l w hn hr hl he).mono ?_
    rintro e w' ⟨rfl, hb⟩
    exact ⟨none, 0, rfl, ⟨[], ⟨rfl, fun h => by simp at h⟩, fun k l hl => by simp at hl⟩, hb⟩
def apartM (n : Int) (l : List (Int × Int)) : Int := if errG n l = 0 then mostOf (apartsM n.toNat l) else 0
def mApart (n : Int) (l : List (Int × Int)) : Option (Int × Int) := if good n l then some (apartM n l, errG n l) else none
end Go.Proofs.Ytoiidngnlhhanaa
