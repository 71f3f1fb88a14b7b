import Derived.Test.YtnfijblmigjlhaaDoorB4
set_option linter.all false
set_option maxRecDepth 100000
namespace Go.Proofs.YtnfijblmigjlhaaDoor
open Go.RowKit Pl
theorem ring_bad (s l : Int) (h : errB s l ≠ 0) (w : World) :
    Calls Tryd.prog 8 #[.int .i64 s, .int .i64 l] w fun e w' => e = .returned (.tuple #[.slice none 0 0, .iface 37 (.int .i64 (errB s l))]) ∧ Below w.heap.size w w' := by
  have HC : ∀ w, Hid (Calls Tryd.prog 6 #[.int .i64 s, .int .i64 l] w fun e w' => e = .returned (.iface 37 (.int .i64 (errB s l))) ∧ w = w') := fun w => (check_any s l w).mono fun e w' ⟨a, b⟩ => ⟨by rw [a, errV_pos _ h], b⟩
  clear h
  generalize errB s l = q at *
  go_enter Tryd.func8, Tryd.ntmps8
  go_wp2_with fail
  refine (HC _).out.mono ?_; rintro e w' ⟨rfl, rfl⟩
  go_wp2_with fail
  go_ret2
  exact ⟨rfl, ((Below.refl _ _).alloc (Nat.le_refl _) _).alloc (by simp) _⟩
theorem okB_nat {s l : Int} (h : errB s l = 0) : ∃ a b : Nat, s = a ∧ l = b ∧ okB a b = true := by
  unfold errB at h
  split at h
  · rename_i hh
    split at h
    · cases h
    · rename_i h2
      refine ⟨s.toNat, l.toNat, by omega, by omega, ?_⟩
      simp only [okB, Bool.and_eq_true, decide_eq_true_eq]
      omega
  · cases h
theorem ring_pos {s l : Nat} (h : okB s l = true) : 0 < (ringM s l).length ∧ (ringM s l).length ≤ 100 := by
  have h' := h
  simp only [okB, Bool.and_eq_true, decide_eq_true_eq] at h'
  have := allB_at ring_pos_all (by omega) (by omega) h
  simpa using this
def findV : Option Nat → Value
  | some i => .tuple #[.int .i64 i, .nilIface]
  | none => .tuple #[.int .i64 0, .iface 37 (.int .i64 5)]
theorem snoc_inj {α} {a b : List α} {x y : α} (hl : a.length = b.length) : a ++ [x] = b ++ [y] ↔ a = b ∧ x = y := by
  constructor
  · intro h
    obtain ⟨h1, h2⟩ := List.append_inj h hl
    exact ⟨h1, by simpa using h2⟩
  · rintro ⟨rfl, rfl⟩; rfl
set_option maxHeartbeats 1000000 in
theorem find_ok (s : Nat) (A : Option Addr) (cap : Nat) (word : List Int) (w : World) (hr : ReadsI w w.heap.size A word) (hB : okB s word.length = true) (hall : inAll word 0 (s - 1) = true) :
    Calls Tryd.prog 11 #[.int .i64 s, .slice A word.length cap] w fun e w' =>
      e = .returned (findV (findM (ringM s word.length) word)) ∧ Below w.heap.size w w' := by
  have hB' := hB
  simp only [okB, Bool.and_eq_true, decide_eq_true_eq] at hB'
  obtain ⟨⟨⟨⟨h1, h2⟩, h3⟩, h4⟩, h5⟩ := hB'
  have HRg := fun w => Lib.hid (ring_ok s word.length hB w)
  obtain ⟨rp1, rp2⟩ := ring_pos hB
  have HA := Lib.hid hall
  clear hall h5 hB
  have HFM : Hid (∀ r, findM r word = (List.range r.length).find? fun i => subw r i word.length == word) := fun r => rfl
  generalize hG : ringM s word.length = R at *
  clear hG
  go_enter Tryd.func11, Tryd.ntmps11
  go_wp2_with fail
  refine (HRg _).out.mono ?_; rintro e w1 ⟨v, rfl, ho, hb⟩
  obtain ⟨g, rcap, rfl, hg1, hg2, hcell⟩ := own_open ho rp1
  have HC : Hid (∀ k (h : k < R.length), w1.cell? ⟨g, k, none⟩ = some (.int .i64 R[k])) := fun k h => hcell k _ (by simp [h])
  have HB := Lib.hid hb
  have hr1 : ReadsI w1 w1.heap.size A word := (Reads.below hr hb).more hb.size
  clear ho hb hcell hr
  go_wp2_with fail
  refine (call_any A cap word 0 (s - 1) w1 hr1 (by unfold maxLen; omega)).mono ?_; rintro e w' ⟨rfl, rfl⟩
  rw [HA.out]
  go_wp2_with fail
  go_loop [30] (fun i => ∃ k : Nat, k ≤ R.length ∧ i = .int .i64 k ∧ ∀ j, j < k → (subw R j word.length == word) = false) (fun i => R.length - (intOf i).toNat)
  case atStart => exact ⟨0, Nat.zero_le _, rfl, fun j hj => by omega⟩
  case round =>
    obtain ⟨i, hi, rfl, hno⟩ := hrel
    have HN := Lib.hid hno; clear hno
    by_cases hlt : i < R.length
    · go_wp2_with fail
      go_loop [9, 35] (fun same k => ∃ j : Nat, j ≤ word.length ∧ k = .int .i64 j ∧ same = .bool (subw R i j == word.take j)) (fun _ k => word.length - (intOf k).toNat)
      case atStart => exact ⟨0, Nat.zero_le _, rfl, by simp [subw]⟩
      case round =>
        obtain ⟨j, hj, rfl, rfl⟩ := hrel
        by_cases hlt2 : j < word.length
        · obtain ⟨bl, o, rfl, _, hc⟩ := hr1.at_ hlt2
          have hm : (i + j) % R.length < R.length := Nat.mod_lt _ rp1
          have hc2 := HC.out _ hm
          have hm2 : ((i : Int) + j) % (R.length : Int) < R.length := Int.emod_lt_of_pos _ (by omega)
          have hm3 : 0 ≤ ((i : Int) + j) % (R.length : Int) := Int.emod_nonneg _ (by omega)
          have HS : Hid ((subw R i (j+1) == word.take (j+1)) = (subw R i j == word.take j && R[(i + j) % R.length] == word[j])) := by
            show _ = _
            rw [subw_succ, List.take_succ_eq_append_getElem hlt2, Bool.eq_iff_iff]
            simp only [beq_iff_eq, Bool.and_eq_true]
            rw [snoc_inj (by rw [subw_len]; simp; omega)]
            simp [List.getD, hm]
          cases hsm : subw R i j == word.take j
          · have HE : Hid ((subw R i (j+1) == word.take (j+1)) = false) := by show _ = _; rw [HS.out, hsm]; rfl
            have HSM := Lib.hid hsm; clear hsm
            go_wp2_with fail
            go_round
            case rel => exact ⟨j + 1, by omega, by go_num, by rw [HE.out]⟩
            case measure => simp [intOf] <;> omega
          · have HE : Hid ((subw R i (j+1) == word.take (j+1)) = (R[(i + j) % R.length] == word[j])) := by show _ = _; rw [HS.out, hsm]; rfl
            have HSM := Lib.hid hsm; clear hsm
            go_wp2_with fail
            go_round
            case rel => exact ⟨j + 1, by omega, by go_num, by rw [HE.out]⟩
            case measure => simp [intOf] <;> omega
        · obtain rfl : j = word.length := by omega
          rw [List.take_length]
          cases hsm : subw R i word.length == word
          · have HSM := Lib.hid hsm; clear hsm
            go_wp2_with fail
            go_round
            case rel => exact ⟨i + 1, by omega, by go_num, fun j hj => by
              by_cases e : j = i
              · subst e; exact HSM.out
              · exact HN.out j (by omega)⟩
            case measure => simp [intOf] <;> omega
          · have HSM := Lib.hid hsm; clear hsm
            go_wp2_with fail
            go_ret2
            have hF : findM R word = some i := by
              rw [HFM.out, List.find?_range_eq_some]
              exact ⟨HSM.out, by simpa using hlt, fun j hj => by simpa using HN.out j hj⟩
            rw [hF]
            exact ⟨rfl, HB.out⟩
    · obtain rfl : i = R.length := by omega
      go_wp2_with fail
      go_ret2
      have hF : findM R word = none := by
        rw [HFM.out, List.find?_eq_none]
        intro j hj
        have := HN.out j (by simpa using hj)
        simp [this]
      rw [hF]
      exact ⟨rfl, HB.out⟩
end Go.Proofs.YtnfijblmigjlhaaDoor
