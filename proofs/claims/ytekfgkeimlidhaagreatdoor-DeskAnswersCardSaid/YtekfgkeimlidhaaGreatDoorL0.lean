import Derived.Test.YtekfgkeimlidhaaGreatDoorC
import Derived.Test.YtekfgkeimlidhaaGreatDoorOwn
set_option linter.all false
set_option maxRecDepth 100000
namespace Go.Proofs.YtekfgkeimlidhaaGreatDoor
open Go.RowKit
/-- lines as cells -/
def lineCells (l : List (Int × Int)) : List Value := l.flatMap fun p => [.int .i64 p.1, .int .i64 p.2]
theorem lineCells_at : ∀ (l : List (Int × Int)) (k : Nat) (h : k < l.length), (lineCells l)[k * 2]? = some (.int .i64 l[k].1) ∧ (lineCells l)[k * 2 + 1]? = some (.int .i64 l[k].2)
  | p :: l, 0, _ => ⟨rfl, rfl⟩
  | p :: l, k+1, h => by
    have := lineCells_at l k (by simpa using h)
    simpa [lineCells, Nat.succ_mul] using this
theorem lineCells_len (l : List (Int × Int)) : (lineCells l).length = l.length * 2 := by
  induction l with
  | nil => rfl
  | cons p l ih => simp only [lineCells, List.flatMap_cons, List.length_append, List.length_cons, List.length_nil] at *; omega
def ReadsL (w : World) (B : Nat) (A : Option Addr) (l : List (Int × Int)) : Prop := Reads w B 2 A l.length (lineCells l)
theorem ReadsL.at_ {w : World} {B : Nat} {A : Option Addr} {l : List (Int × Int)} {k : Nat} (h : ReadsL w B A l) (hk : k < l.length) :
    ∃ b o, A = some ⟨b, o, none⟩ ∧ b < B ∧ w.cell? ⟨b, o + k * 2, none⟩ = some (.int .i64 l[k].1) ∧ w.cell? ⟨b, o + k * 2 + 1, none⟩ = some (.int .i64 l[k].2) := by
  obtain ⟨b, o, e, hb, hc⟩ := h.2 (by omega)
  obtain ⟨h1, h2⟩ := lineCells_at l k hk
  exact ⟨b, o, e, hb, hc _ _ h1, hc _ _ h2⟩
def goes (l : List (Int × Int)) (a b : Int) : Bool := l.any fun p => p.1 == a && p.2 == b
def besL (l : List (Int × Int)) (a b : Int) : Bool := goes l a b || goes l b a
set_option maxHeartbeats 400000 in
theorem goes_any (A : Option Addr) (cap : Nat) (l : List (Int × Int)) (a b : Int) (w : World) (hr : ReadsL w w.heap.size A l) (hl : l.length ≤ maxLen) :
    Calls Tryz.prog 72 #[.slice A l.length cap, .int .i64 a, .int .i64 b] w fun e w' => e = .returned (.bool (goes l a b)) ∧ w = w' := by
  unfold maxLen at hl
  go_enter Tryz.func72, Tryz.ntmps72
  go_wp2
  go_loop [7] (fun i => ∃ k : Nat, k ≤ l.length ∧ i = .int .i64 k ∧ goes (l.take k) a b = false) (fun i => l.length - (intOf i).toNat)
  case atStart => exact ⟨0, Nat.zero_le _, rfl, rfl⟩
  case round =>
    obtain ⟨k, hk, rfl, hg⟩ := hrel
    by_cases hlt : k < l.length
    · obtain ⟨bb, o, rfl, _, h1, h2⟩ := hr.at_ hlt
      have HS : Hid (goes (l.take (k+1)) a b = (l[k].1 == a && l[k].2 == b)) := by
        show _ = _
        rw [goes] at hg
        rw [goes, List.take_succ_eq_append_getElem hlt, List.any_append, hg]; simp
      have HG := Lib.hid hg; clear hg
      generalize hx : l[k].1 = x at *
      generalize hy : l[k].2 = y at *
      have HX := Lib.hid hx; have HY := Lib.hid hy; clear hx hy
      cases e1 : x == a
      · have HS2 : Hid (goes (l.take (k+1)) a b = false) := by show _ = _; rw [HS.out, e1]; rfl
        go_wp2
        clear e1
        go_round
        case rel => exact ⟨k+1, by omega, by go_num, HS2.out⟩
        case measure => simp [intOf] <;> omega
      · cases e2 : y == b
        · have HS2 : Hid (goes (l.take (k+1)) a b = false) := by show _ = _; rw [HS.out, e1, e2]; rfl
          go_wp2
          clear e1 e2
          go_round
          case rel => exact ⟨k+1, by omega, by go_num, HS2.out⟩
          case measure => simp [intOf] <;> omega
        · have HS2 : Hid (goes l a b = true) := by
            show _ = _
            unfold goes
            rw [List.any_eq_true]
            exact ⟨l[k], List.getElem_mem hlt, by rw [HX.out, HY.out, e1, e2]; rfl⟩
          go_wp2
          clear e1 e2
          go_ret
          exact ⟨ret_bool HS2.out.symm, rfl⟩
    · go_wp2
      go_ret
      refine ⟨ret_bool ?_, rfl⟩
      rw [← hg, List.take_of_length_le (by omega)]
theorem bes_any (A : Option Addr) (cap : Nat) (l : List (Int × Int)) (a b : Int) (w : World) (hr : ReadsL w w.heap.size A l) (hl : l.length ≤ maxLen) :
    Calls Tryz.prog 48 #[.slice A l.length cap, .int .i64 a, .int .i64 b] w fun e w' => e = .returned (.bool (besL l a b)) ∧ w = w' := by
  have H1 := Lib.hid (goes_any A cap l a b w hr hl)
  have H2 := Lib.hid (goes_any A cap l b a w hr hl)
  have HB : Hid (besL l a b = (goes l a b || goes l b a)) := rfl
  clear hr hl
  generalize goes l a b = x at *
  generalize goes l b a = y at *
  cases x
  · go_enter Tryz.func48, Tryz.ntmps48
    go_wp2_with fail
    refine H1.out.mono ?_; rintro e w' ⟨rfl, rfl⟩
    go_wp2_with fail
    refine H2.out.mono ?_; rintro e w' ⟨rfl, rfl⟩
    go_wp2_with fail
    go_ret
    exact ⟨ret_bool (by rw [HB.out]; rfl), rfl⟩
  · go_enter Tryz.func48, Tryz.ntmps48
    go_wp2_with fail
    refine H1.out.mono ?_; rintro e w' ⟨rfl, rfl⟩
    go_wp2_with fail
    go_ret
    exact ⟨ret_bool (by rw [HB.out]; rfl), rfl⟩
/-- what is wrong with points and lines: the first thing -/
def errLines (n : Int) : List (Int × Int) → Int
  | [] => 0
  | p :: l => if ¬ (0 ≤ p.1 ∧ p.1 ≤ n - 1) ∨ ¬ (0 ≤ p.2 ∧ p.2 ≤ n - 1) then 1 else if p.1 = p.2 then 3 else errLines n l
def errG (n : Int) (l : List (Int × Int)) : Int := if ¬ (1 ≤ n ∧ n ≤ 8) then 1 else if 24 < l.length then 4 else errLines n l
theorem errLines_drop (n : Int) (l : List (Int × Int)) (k : Nat) (hk : k < l.length) : errLines n (l.drop k) = if ¬ (0 ≤ l[k].1 ∧ l[k].1 ≤ n - 1) ∨ ¬ (0 ≤ l[k].2 ∧ l[k].2 ≤ n - 1) then 1 else if l[k].1 = l[k].2 then 3 else errLines n (l.drop (k+1)) := by
  rw [List.drop_eq_getElem_cons hk]; rfl
end Go.Proofs.YtekfgkeimlidhaaGreatDoor
