import Derived.Test.YtfabhdadckohdaaC
import Derived.Test.YtfabhdadckohdaaOwn
set_option linter.all false
set_option maxRecDepth 100000
namespace Go.Proofs.Ytfabhdadckohdaa
open Go.RowKit
/-- lines as cells -/
def lineCells (l : List (Int × Int)) : List Value := l.flatMap fun p => [.int .i64 p.1, .int .i64 p.2]
theorem lineCells_at : ∀ (l : List (Int × Int)) (k : Nat) (h : k < l.length), (lineCells l)[k * 2]? = some (.int .i64 l[k].1) ∧ (lineCells l)[k * 2 + 1]? = some (.int .i64 l[k].2)
  | p :: l, 0, _ => ⟨rfl, rfl⟩
  | p :: l, k+1, h => by
    have := lineCells_at l k (by simpa using h)
    simpa [lineCells, Nat.succ_mul] using this
theorem lineCells_len (l : List (Int × Int)) : (lineCells l).length = l.length * 2 := by
  induction l with
  | nil => rfl
  | cons p l ih => simp only [lineCells, List.flatMap_cons, List.length_append, List.length_cons, List.length_nil] at *; omega
def ReadsL (w : World) (B : Nat) (A : Option Addr) (l : List (Int × Int)) : Prop := Reads w B 2 A l.length (lineCells l)
theorem ReadsL.at_ {w : World} {B : Nat} {A : Option Addr} {l : List (Int × Int)} {k : Nat} (h : ReadsL w B A l) (hk : k < l.length) :
    ∃ b o, A = some ⟨b, o, none⟩ ∧ b < B ∧ w.cell? ⟨b, o + k * 2, none⟩ = some (.int .i64 l[k].1) ∧ w.cell? ⟨b, o + k * 2 + 1, none⟩ = some (.int .i64 l[k].2) := by
  obtain ⟨b, o, e, hb, hc⟩ := h.2 (by omega)
  obtain ⟨h1, h2⟩ := lineCells_at l k hk
  exact ⟨b, o, e, hb, hc _ _ h1, hc _ _ h2⟩
def goes (l : List (Int × Int)) (a b : Int) : Bool := l.any fun p => p.1 == a && p.2 == b
def besL (l : List (Int × Int)) (a b : Int) : Bool := goes l a b || goes l b a
set_option maxHeartbeats 400000 in
theorem goes_any (A : Option Addr) (cap : Nat) (l : List (Int × Int)) (a b : Int) (w : World) (hr : ReadsL w w.heap.size A l) (hl : l.length ≤ maxLen) :
    Calls Try.prog 63 #[.slice A l.length cap, .int .i64 a, .int .i64 b] w fun e w' => e = .returned (.bool (goes l a b)) ∧ w = w' := by
  unfold maxLen at hl
  go_enter Try.func63, Try.ntmps63
  go_wp2
  go_loop [7] (fun i => ∃ k : Nat, k ≤ l.length ∧ i = .int .i64 k ∧ goes (l.take k) a b = false) (fun i => l.length - (intOf i).toNat)
  case atStart => exact ⟨0, Nat.zero_le _, rfl, rfl⟩
  case round =>
    obtain ⟨k, hk, rfl, hg⟩ := hrel
    by_cases hlt : k < l.length
    · obtain ⟨bb, o, rfl, _, h1, h2⟩ := hr.at_ hlt
      have HS : Hid (goes (l.take (k+1)) a b = (l[k].1 == a && l[k].2 == b)) := by
        show _ = _
        rw [goes] at hg
        rw [goes, List.take_succ_eq_append_getElem hlt, List.any_append, hg]; simp
      have HG := Lib.hid hg; clear hg
      generalize hx : l[k].1 = x at *
      generalize hy : l[k].2 = y at *
      have HX := Lib.hid hx; have HY := Lib.hid hy; clear hx hy
      cases e1 : x == a
      · have HS2 : Hid (goes (l.take (k+1)) a b = false) := by show _ = _; rw [HS.out, e1]; rfl
        go_wp2
        clear e1
        go_round
        case rel => exact ⟨k+1, by omega, by go_num, HS2.out⟩
        case measure => simp [intOf] <;> omega
      · cases e2 : y == b
        · have HS2 : Hid (goes (l.take (k+1)) a b = false) := by show _ = _; rw [HS.out, e1, e2]; rfl
          go_wp2
          clear e1 e2
          go_round
          case rel => exact ⟨k+1, by omega, by go_num, HS2.out⟩
          case measure => simp [intOf] <;> omega
        · have HS2 : Hid (goes l a b = true) := by
            show _ = _
            unfold goes
            rw [List.any_eq_true]
            exact ⟨l[k], List.getElem_mem hlt, by rw [HX.out, HY.out, e1, e2]; rfl⟩
          go_wp2
          clear e1 e2
          go_ret
          exact ⟨ret_bool HS2.out.symm, rfl⟩
    · go_wp2
      go_ret
      refine ⟨ret_bool ?_, rfl⟩
      rw [← hg, List.take_of_length_le (by omega)]
/-- what is wrong with points and lines: the first thing -/
def errLines (n : Int) : List (Int × Int) → Int
  | [] => 0
  | p :: l => if ¬ (0 ≤ p.1 ∧ p.1 ≤ n - 1) ∨ ¬ (0 ≤ p.2 ∧ p.2 ≤ n - 1) then 1 else if p.1 = p.2 then 3 else errLines n l
def errG (n : Int) (l : List (Int × Int)) : Int := if ¬ (1 ≤ n ∧ n ≤ 8) then 1 else if 24 < l.length then 4 else errLines n l
theorem errLines_drop (n : Int) (l : List (Int × Int)) (k : Nat) (hk : k < l.length) : errLines n (l.drop k) = if ¬ (0 ≤ l[k].1 ∧ l[k].1 ≤ n - 1) ∨ ¬ (0 ≤ l[k].2 ∧ l[k].2 ≤ n - 1) then 1 else if l[k].1 = l[k].2 then 3 else errLines n (l.drop (k+1)) := by
  rw [List.drop_eq_getElem_cons hk]; rfl
set_option maxHeartbeats 1000000 in
theorem lines_any (n : Int) (A : Option Addr) (cap : Nat) (l : List (Int × Int)) (w : World) (hn : (Lit.int .i64 n).wf = true) (hr : ReadsL w w.heap.size A l) (hl : l.length ≤ maxLen) :
    Calls Try.prog 12 #[.int .i64 n, .slice A l.length cap] w fun e w' => e = .returned (.int .i64 (errG n l)) ∧ ∃ n, w' = w.drewN n := by
  unfold maxLen at hl
  by_cases h8 : 1 ≤ n ∧ n ≤ 8
  · have D8 := Lib.hid (decide_eq_true h8)
    by_cases h24 : 24 < l.length
    · have HE : Hid (errG n l = 4) := by show _ = _; unfold errG; rw [if_neg (by omega), if_pos h24]
      clear h8
      go_enter Try.func12, Try.ntmps12
      go_wp2_with fail
      refine (inr1_dec D8.out _).mono ?_; rintro e w' ⟨rfl, rfl⟩
      go_wp2_with fail
      go_ret
      exact ⟨ret_int HE.out.symm, 0, rfl⟩
    · have HE : Hid (errG n l = errLines n (l.drop 0)) := by show _ = _; unfold errG; rw [if_neg (by omega), if_neg h24]; rfl
      obtain ⟨h8a, h8b⟩ := h8
      go_enter Try.func12, Try.ntmps12
      go_wp2_with fail
      refine (inr1_dec D8.out _).mono ?_; rintro e w' ⟨rfl, rfl⟩
      go_wp2_with fail
      go_loopw [5] (fun i wr => ∃ k m : Nat, k ≤ l.length ∧ i = .int .i64 k ∧ errG n l = errLines n (l.drop k) ∧ wr = w.drewN m) (fun i _ => l.length - (intOf i).toNat)
      case atStart => exact ⟨0, 0, Nat.zero_le _, rfl, HE.out, rfl⟩
      case round =>
        obtain ⟨k, m, hk, rfl, he, rfl⟩ := hrel
        have HK := Lib.hid he; clear he
        by_cases hlt : k < l.length
        · obtain ⟨bb, o, rfl, _, h1, h2⟩ := hr.at_ hlt
          have HD := Lib.hid (errLines_drop n l k hlt)
          generalize hx : l[k].1 = x at *
          generalize hy : l[k].2 = y at *
          clear hx hy
          by_cases e1 : 0 ≤ x ∧ x ≤ n - 1
          · have E1 := Lib.hid (decide_eq_true e1)
            by_cases e2 : 0 ≤ y ∧ y ≤ n - 1
            · have E2 := Lib.hid (decide_eq_true e2)
              by_cases e3 : x = y
              · have e3b : (x == y) = true := by simpa using e3
                have HF : Hid (errG n l = 3) := by show _ = _; rw [HK.out, HD.out, if_neg (by omega), if_pos e3]
                clear e1 e2 e3
                go_wp2_with fail
                refine (inr1_dec E1.out _).mono ?_; rintro e w' ⟨rfl, rfl⟩
                go_wp2_with fail
                refine (inr1_dec E2.out _).mono ?_; rintro e w' ⟨rfl, rfl⟩
                go_wp2_with fail
                go_quiet (fail)
                go_wp2_with fail
                go_ret
                exact ⟨ret_int HF.out.symm, _, World.drewN_drewN _ _ _⟩
              · have e3b : (x == y) = false := by simpa using e3
                have HF : Hid (errG n l = errLines n (l.drop (k+1))) := by show _ = _; rw [HK.out, HD.out, if_neg (by omega), if_neg e3]
                clear e1 e2 e3
                go_wp2_with fail
                refine (inr1_dec E1.out _).mono ?_; rintro e w' ⟨rfl, rfl⟩
                go_wp2_with fail
                refine (inr1_dec E2.out _).mono ?_; rintro e w' ⟨rfl, rfl⟩
                go_wp2_with fail
                go_quiet (fail)
                go_wp2_with fail
                go_roundw
                case rel => exact ⟨k+1, _, by omega, by go_num, HF.out, rfl⟩
                case measure => simp [intOf] <;> omega
            · have E2 := Lib.hid (decide_eq_false e2)
              have HF : Hid (errG n l = 1) := by show _ = _; rw [HK.out, HD.out, if_pos (by omega)]
              clear e1 e2
              go_wp2_with fail
              refine (inr1_dec E1.out _).mono ?_; rintro e w' ⟨rfl, rfl⟩
              go_wp2_with fail
              refine (inr1_dec E2.out _).mono ?_; rintro e w' ⟨rfl, rfl⟩
              go_wp2_with fail
              go_ret
              exact ⟨ret_int HF.out.symm, _, rfl⟩
          · have E1 := Lib.hid (decide_eq_false e1)
            have HF : Hid (errG n l = 1) := by show _ = _; rw [HK.out, HD.out, if_pos (by omega)]
            clear e1
            go_wp2_with fail
            refine (inr1_dec E1.out _).mono ?_; rintro e w' ⟨rfl, rfl⟩
            go_wp2_with fail
            go_ret
            exact ⟨ret_int HF.out.symm, _, rfl⟩
        · go_wp2_with fail
          go_ret
          exact ⟨ret_int (by rw [HK.out, List.drop_eq_nil_of_le (by omega)]; rfl), _, rfl⟩
  · have D8 := Lib.hid (decide_eq_false h8)
    have HE : Hid (errG n l = 1) := by show _ = _; unfold errG; rw [if_pos h8]
    clear h8
    go_enter Try.func12, Try.ntmps12
    go_wp2_with fail
    refine (inr1_dec D8.out _).mono ?_; rintro e w' ⟨rfl, rfl⟩
    go_wp2_with fail
    go_ret
    exact ⟨ret_int HE.out.symm, 0, rfl⟩
end Go.Proofs.Ytfabhdadckohdaa
