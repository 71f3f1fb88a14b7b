import Derived.Test.YtccdnokddkpmgaaP0
import Derived.Test.YtccdnokddkpmgaaEv2
/- what is wrong with lines that cost something -/
set_option linter.all false
set_option maxRecDepth 100000
namespace Go.Proofs.Ytccdnokddkpmgaa
open Go.RowKit Pl
def InC (k : Nat) (l : List Cost) : Prop := ∀ e ∈ l, (0 ≤ e.1 ∧ e.1 < (k : Int)) ∧ (0 ≤ e.2.1 ∧ e.2.1 < (k : Int)) ∧ (0 ≤ e.2.2 ∧ e.2.2 ≤ 20) ∧ e.1 ≠ e.2.1
def errCs (n : Int) : List Cost → Int
  | [] => 0
  | e :: l => if ¬ (((0 ≤ e.1 ∧ e.1 ≤ n - 1) ∧ (0 ≤ e.2.1 ∧ e.2.1 ≤ n - 1)) ∧ (0 ≤ e.2.2 ∧ e.2.2 ≤ 20)) then 1 else if e.1 = e.2.1 then 3 else errCs n l
def errC (n : Int) (l : List Cost) : Int := if ¬ (1 ≤ n ∧ n ≤ 8) then 1 else if 24 < l.length then 4 else errCs n l
theorem errCs_in {k : Nat} : ∀ {l : List Cost}, errCs (k : Int) l = 0 → InC k l
  | [], _ => fun e he => by cases he
  | e :: l, h => by
    unfold errCs at h
    split at h
    · cases h
    · rename_i h1
      split at h
      · cases h
      · rename_i h2
        intro x hx
        rcases List.mem_cons.1 hx with rfl | hx
        · exact ⟨by omega, by omega, by omega, h2⟩
        · exact errCs_in h x hx
theorem spanck_L1 (n : Int) (hn : 1 ≤ n ∧ n ≤ 8) (l : List Cost) (hl : l.length ≤ 24) : ∀ g t, l.length < g + t → t ≤ l.length →
    span_Check_L1 300 n l g (t : Int) = some (if errCs n (l.drop t) = 0 then .inl () else .inr (errCs n (l.drop t)))
  | 0, t, h, _ => by omega
  | g+1, t, h, ht => by
    rw [span_Check_L1_s]
    by_cases hlt : t < l.length
    · rw [if_pos (by omega), ix_nat hlt, List.drop_eq_getElem_cons hlt, w64n (by omega), w64 (by omega) (by omega)]
      have ih := spanck_L1 n hn l hl g (t+1) (by omega) (by omega)
      push_cast at ih
      generalize l[t] = e at *
      simp only [Option.bind_some, core_All_ev 0 (n - 1) (show [e.1, e.2.1].length < 300 by simp) (show [e.1, e.2.1].length < 9223372036854775807 by simp), core_Within_ev]
      have e1 : allIn [e.1, e.2.1] 0 (n - 1) = decide ((0 ≤ e.1 ∧ e.1 ≤ n - 1) ∧ (0 ≤ e.2.1 ∧ e.2.1 ≤ n - 1)) := by
        rw [Bool.eq_iff_iff]; simp [allIn]
      rw [e1]
      unfold errCs
      by_cases h1 : (0 ≤ e.1 ∧ e.1 ≤ n - 1) ∧ (0 ≤ e.2.1 ∧ e.2.1 ≤ n - 1)
      · by_cases h2 : 0 ≤ e.2.2 ∧ e.2.2 ≤ 20
        · by_cases h3 : e.1 = e.2.1
          · have h3' : (e.1 == e.2.1) = true := by simpa using h3
            rw [if_pos (decide_eq_true h1), if_pos (decide_eq_true h2), if_neg (not_not_intro (And.intro h1 h2)), if_pos h3]
            simp [h3']
          · have h3' : (e.1 == e.2.1) = false := by simpa using h3
            rw [if_pos (decide_eq_true h1), if_pos (decide_eq_true h2), if_neg (not_not_intro (And.intro h1 h2)), if_neg h3]
            simp [h3', ih]
        · rw [if_pos (decide_eq_true h1), if_neg (by simpa using h2), if_pos (fun h => h2 h.2)]
          simp
      · rw [if_neg (by simpa using h1), if_pos (fun h => h1 h.1)]
        simp
    · obtain rfl : t = l.length := by omega
      rw [if_neg (by omega), List.drop_length]; rfl
theorem spanck_ev (n : Int) (l : List Cost) : span_Check 300 n l = some (errC n l) := by
  unfold span_Check errC
  rw [core_Within_ev, Option.bind_some]
  by_cases hn : 1 ≤ n ∧ n ≤ 8
  · rw [if_pos (by simpa using hn), if_neg (not_not_intro hn)]
    by_cases hl : 24 < l.length
    · rw [if_pos (by omega), if_pos hl]
    · have h := spanck_L1 n hn l (by omega) 300 0 (by omega) (by omega)
      have h' : span_Check_L1 300 n l 300 0 = _ := h
      rw [if_neg (by omega), if_neg hl, h', List.drop_zero]
      by_cases e : errCs n l = 0 <;> simp [e]
  · rw [if_neg (by simpa using hn), if_pos hn]
theorem errC_zero {n : Int} {l : List Cost} (h : errC n l = 0) : ∃ k : Nat, n = k ∧ 1 ≤ k ∧ k ≤ 8 ∧ l.length ≤ 24 ∧ InC k l := by
  unfold errC at h
  split at h
  · cases h
  · rename_i h1
    split at h
    · cases h
    · obtain ⟨k, rfl⟩ := Int.eq_ofNat_of_zero_le (show 0 ≤ n by omega)
      exact ⟨k, rfl, by omega, by omega, by omega, errCs_in h⟩
end Go.Proofs.Ytccdnokddkpmgaa
