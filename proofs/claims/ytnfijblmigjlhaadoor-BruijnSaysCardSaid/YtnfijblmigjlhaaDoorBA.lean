import Derived.Test.YtnfijblmigjlhaaDoorB6
import Derived.Test.YtnfijblmigjlhaaDoorErr
import Derived.Test.YtnfijblmigjlhaaDoorTl
/- bruijn's functions as models -/
set_option linter.all false
set_option maxRecDepth 100000
namespace Go.Proofs.YtnfijblmigjlhaaDoor
open Go.RowKit Pl
theorem errB_ok {s l : Int} (h : errB s l = 0) : ∃ a b : Nat, s = a ∧ l = b ∧ okB a b = true := by
  unfold errB at h
  by_cases c : 1 ≤ s ∧ s ≤ 3 ∧ 1 ≤ l ∧ l ≤ 6
  · rw [if_pos c] at h
    by_cases c2 : s.toNat ^ l.toNat > 100
    · rw [if_pos c2] at h; cases h
    · refine ⟨s.toNat, l.toNat, by omega, by omega, ?_⟩
      simp only [okB, Bool.and_eq_true, decide_eq_true_eq]
      refine ⟨⟨⟨⟨by omega, by omega⟩, by omega⟩, by omega⟩, by omega⟩
  · rw [if_neg c] at h; cases h
def bCheck (s l : Int) : Option Int := some (errB s l)
theorem bCheck_ok {s l r : Int} (w : World) (h : bCheck s l = some r) : Calls Tryd.prog 6 #[.int .i64 s, .int .i64 l] w fun e w' => e = .returned (errV 37 r) ∧ w = w' := by
  obtain rfl := Option.some.inj h
  exact check_any s l w
def bRing (s l : Int) : Option (List Int × Int) := some (if errB s l = 0 then (ringM s.toNat l.toNat, 0) else ([], errB s l))
theorem bRing_ok {s l : Int} {r : List Int × Int} (w : World) (h : bRing s l = some r) : Calls Tryd.prog 8 #[.int .i64 s, .int .i64 l] w (PostG (fun v => (.tuple #[v, errV 37 r.2])) (fun v => owI v r.1) w.heap.size w) := by
  obtain rfl := Option.some.inj h
  by_cases he : errB s l = 0
  · rw [if_pos he]
    obtain ⟨a, b, rfl, rfl, hB⟩ := errB_ok he
    refine (ring_ok a b hB w).mono ?_
    rintro e w' ⟨v, rfl, ho, hb⟩
    rw [Int.toNat_natCast, Int.toNat_natCast]
    exact ⟨v, rfl, ho, hb⟩
  · rw [if_neg he]
    refine (ring_bad s l he w).mono ?_
    rintro e w' ⟨rfl, hb⟩
    exact ⟨_, by rw [errV_pos _ he], World.ownsRow_nil _ _ _ _, hb⟩
def bFind (s : Int) (word : List Int) : Option (Int × Int) :=
  some (if errB s word.length = 0 then (if inAll word 0 (s - 1) = true then (match findM (ringM s.toNat word.length) word with | some i => ((i : Int), 0) | none => (0, 5)) else (0, 1)) else (0, errB s word.length))
theorem bFind_ok {s : Int} {word : List Int} {A : Option Addr} {r : Int × Int} (w : World) (cap : Nat) (hr : ReadsI w w.heap.size A word) (h : bFind s word = some r) :
    Calls Tryd.prog 11 #[.int .i64 s, .slice A word.length cap] w fun e w' => e = .returned (.tuple #[.int .i64 r.1, errV 37 r.2]) ∧ Below w.heap.size w w' := by
  obtain rfl := Option.some.inj h
  by_cases he : errB s word.length = 0
  · rw [if_pos he]
    obtain ⟨a, b, rfl, hb, hB⟩ := errB_ok he
    have : b = word.length := by omega
    subst this
    rw [Int.toNat_natCast]
    cases hall : inAll word 0 ((a : Int) - 1)
    · refine (find_out a A cap word w hr hB hall).mono ?_
      rintro e w' ⟨rfl, hb⟩
      exact ⟨rfl, hb⟩
    · refine (find_ok a A cap word w hr hB hall).mono ?_
      rintro e w' ⟨rfl, hb⟩
      refine ⟨?_, hb⟩
      cases findM (ringM a word.length) word <;> rfl
  · rw [if_neg he]
    refine (find_bad s A cap word w he).mono ?_
    rintro e w' ⟨rfl, hb⟩
    exact ⟨by rw [errV_pos _ he], hb⟩
end Go.Proofs.YtnfijblmigjlhaaDoor
