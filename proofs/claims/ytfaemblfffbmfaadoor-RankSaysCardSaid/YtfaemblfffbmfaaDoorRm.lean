import Derived.Test.YtfaemblfffbmfaaDoorRd
/- the document's May -/
set_option linter.all false
set_option maxRecDepth 100000
namespace Go.Proofs.YtfaemblfffbmfaaDoor
open Go.RowKit Pl
section
variable {F : Nat} {l : List (List Int)}
theorem mayR_L2 {k : Nat} (h6 : k ≤ 6) (hl : Rw k l) (hF2 : 300 ≤ F) {ms : List Int} (hms : ms.length ≤ 20) {i : Nat} (hi : i < l.length) : ∀ (g j : Nat) (c : Bool), ms.length < j + g → j ≤ ms.length →
    ∃ x, R3_May_L2 F l ms (i : Int) g c (j : Int) = some (c && (ms.drop j).all fun y => decide (y ∈ l[i]), x)
  | 0, j, c, h, hj => by omega
  | g+1, j, c, h, hj => by
    rw [R3_May_L2_s]
    by_cases hc : j < ms.length
    · have hr := row_len h6 (hl _ (List.getElem_mem hi))
      have e : (if c = true then (ix l (i : Int)).bind fun y2 => (ix ms (j : Int)).bind fun y3 => (R1_Has F y2 y3).bind fun y4 => if y4 = true then some true else some false else some false) = some (c && decide (ms[j] ∈ l[i])) := by
        rw [ix_nat hi, Option.bind_some, ix_nat hc, Option.bind_some, R1_Has_ev _ (by omega) (by omega), Option.bind_some]
        cases c <;> cases decide (ms[j] ∈ l[i]) <;> rfl
      rw [if_pos (by omega), e, Option.bind_some, w64n (by omega)]
      obtain ⟨x, hx⟩ := mayR_L2 h6 hl hF2 hms hi g (j+1) (c && decide (ms[j] ∈ l[i])) (by omega) (by omega)
      refine ⟨x, ?_⟩
      rw [hx, List.drop_eq_getElem_cons hc, List.all_cons, Bool.and_assoc]
    · have : j = ms.length := by omega
      subst this
      rw [if_neg (by omega), List.drop_length]
      exact ⟨_, by rw [List.all_nil, Bool.and_true]⟩
theorem mayR_L1 {k : Nat} (h6 : k ≤ 6) (hl : Rw k l) (h24 : l.length ≤ 24) (hF2 : 300 ≤ F) {ms : List Int} (hms : ms.length ≤ 20) : ∀ (g j : Nat), l.length < j + g → j ≤ l.length →
    ∃ y, R3_May_L1 F l ms g (j : Int) = some y ∧ (((l.drop j).any fun r => ms.all fun y => decide (y ∈ r)) = true → y = .inr true) ∧ (((l.drop j).any fun r => ms.all fun y => decide (y ∈ r)) = false → ∃ x, y = .inl x)
  | 0, j, h, hj => by omega
  | g+1, j, h, hj => by
    rw [R3_May_L1_s]
    by_cases c : j < l.length
    · obtain ⟨x, hx⟩ := mayR_L2 (F := F) h6 hl hF2 hms c F 0 true (by omega) (by omega)
      rw [Bool.true_and, List.drop_zero] at hx
      rw [if_pos (by omega), show R3_May_L2 F l ms (j : Int) F true 0 = _ from hx, Option.bind_some, List.drop_eq_getElem_cons c, List.any_cons]
      dsimp only
      cases e : ms.all fun y => decide (y ∈ l[j])
      · rw [if_neg (by decide), w64n (by omega), Bool.false_or]
        exact mayR_L1 h6 hl h24 hF2 hms g (j+1) (by omega) (by omega)
      · rw [if_pos rfl, Bool.true_or]
        exact ⟨_, rfl, fun _ => rfl, fun q => by cases q⟩
    · have : j = l.length := by omega
      subst this
      rw [if_neg (by omega), List.drop_length]
      exact ⟨_, rfl, (fun q => by cases q), fun _ => ⟨_, rfl⟩⟩
/-- the document's May, of a list -/
theorem mayR_ev {k : Nat} (h6 : k ≤ 6) (hl : Rw k l) (h24 : l.length ≤ 24) (hF2 : 300 ≤ F) {ms : List Nat} (hms : ms.length ≤ 20) {s : Nat} (hs : ∀ i, i ∈ ms ↔ s.testBit i = true) : R3_May F l (ms.map fun (x : Nat) => (x : Int)) = some (mayB l s) := by
  unfold R3_May
  rw [List.length_map]
  by_cases h0 : ms = []
  · subst h0
    have : s = 0 := by
      apply Nat.eq_of_testBit_eq
      intro i
      cases e : s.testBit i
      · rw [Nat.zero_testBit]
      · have := (hs i).2 e; cases this
    subst this
    rfl
  · have hpos := List.length_pos_iff.2 h0
    obtain ⟨y, y1, y2, y3⟩ := mayR_L1 (F := F) (ms := ms.map fun (x : Nat) => (x : Int)) h6 hl h24 hF2 (by rw [List.length_map]; exact hms) F 0 (by omega) (by omega)
    rw [List.drop_zero] at y2 y3
    rw [if_neg (by rw [beq_iff_eq]; omega), show R3_May_L1 F l (ms.map fun (x : Nat) => (x : Int)) F 0 = _ from y1, Option.bind_some]
    have hs0 : s ≠ 0 := fun e => by
      obtain ⟨a, r, hr⟩ := List.exists_cons_of_ne_nil h0
      have := (hs a).1 (by rw [hr]; exact List.mem_cons_self)
      rw [e, Nat.zero_testBit] at this; cases this
    have hiff : (l.any fun r => (ms.map fun (x : Nat) => (x : Int)).all fun y => decide (y ∈ r)) = mayB l s := by
      rw [Bool.eq_iff_iff, mayB_iff hl, List.any_eq_true]
      constructor
      · rintro ⟨r, hr, h⟩
        exact .inr ⟨r, hr, fun i hi => of_decide_eq_true (List.all_eq_true.1 h _ (List.mem_map.2 ⟨i, (hs i).2 hi, rfl⟩))⟩
      · rintro (h | ⟨r, hr, h⟩)
        · exact absurd h hs0
        · refine ⟨r, hr, List.all_eq_true.2 fun y hy => ?_⟩
          obtain ⟨i, hi, rfl⟩ := List.mem_map.1 hy
          exact decide_eq_true (h i ((hs i).1 hi))
    rw [hiff] at y2 y3
    cases e : mayB l s
    · obtain ⟨x, rfl⟩ := y3 e; rfl
    · rw [y2 e]
end
end Go.Proofs.YtfaemblfffbmfaaDoor
