import Derived.Test.YtjpfmbffiagjgaaGreatDoorOh
/- plain: the changes of a book, in their order -/
set_option linter.all false
set_option maxRecDepth 100000
namespace Go.Proofs.YtjpfmbffiagjgaaGreatDoor
open Go.RowKit Go.Shelf Pl
def opI (b : BkT) (l : List Int) : Option (Int × BkT) := if l.getD 0 0 = 0 then mJoin b (l.getD 1 0) (l.getD 2 0) else mCut b (l.getD 1 0) (l.getD 2 0)
def stpI (l : List Int) : Stp := (decide (l.getD 0 0 = 0), (l.getD 1 0).toNat, (l.getD 2 0).toNat)
theorem opI_ev {b : BkT} (h : BInv b) (l : List Int) : ∃ e b', opI b l = some (e, b') ∧ BInv b' ∧ (e ≠ 0 → b' = b) ∧ (e = 0 → stepM b (stpI l) = some (0, b')) := by
  unfold opI
  by_cases c : l.getD 0 0 = 0
  · rw [if_pos c]
    obtain ⟨e, b', h1, h2, h3, h4⟩ := join_ev h (l.getD 1 0) (l.getD 2 0)
    refine ⟨e, b', h1, h2, h3, fun he => ?_⟩
    obtain ⟨x, y, q1, q2, _⟩ := h4 he
    unfold stepM stpI
    rw [decide_eq_true c, if_pos rfl]
    dsimp only
    rw [q1, q2] at h1 ⊢
    rw [Int.toNat_natCast, Int.toNat_natCast, h1, he]
  · rw [if_neg c]
    obtain ⟨e, b', h1, h2, h3, h4⟩ := cut_ev h (l.getD 1 0) (l.getD 2 0)
    refine ⟨e, b', h1, h2, h3, fun he => ?_⟩
    obtain ⟨x, y, q1, q2, _⟩ := h4 he
    unfold stepM stpI
    rw [decide_eq_false c, if_neg (show ¬ (false = true) by decide)]
    dsimp only
    rw [q1, q2] at h1 ⊢
    rw [Int.toNat_natCast, Int.toNat_natCast, h1, he]
/-- what was changed, and the book behind it -/
def goH : List (List Int) → BkT → List Stp × BkT
  | [], b => ([], b)
  | l :: ls, b => if l.length = 3 then (match opI b l with
    | some (e, b') => if e = 0 then (stpI l :: (goH ls b').1, (goH ls b').2) else goH ls b
    | none => goH ls b) else goH ls b
theorem goH_ok {l : List Int} {ls : List (List Int)} {b b' : BkT} (h3 : l.length = 3) (h : opI b l = some (0, b')) : goH (l :: ls) b = (stpI l :: (goH ls b').1, (goH ls b').2) := by
  show (if l.length = 3 then (match opI b l with
    | some (e, b') => if e = 0 then (stpI l :: (goH ls b').1, (goH ls b').2) else goH ls b
    | none => goH ls b) else goH ls b) = _
  rw [if_pos h3, h]; rfl
theorem goH_no {l : List Int} {ls : List (List Int)} {b b' : BkT} {e : Int} (h3 : l.length = 3) (h : opI b l = some (e, b')) (he : e ≠ 0) : goH (l :: ls) b = goH ls b := by
  show (if l.length = 3 then (match opI b l with
    | some (e, b') => if e = 0 then (stpI l :: (goH ls b').1, (goH ls b').2) else goH ls b
    | none => goH ls b) else goH ls b) = _
  rw [if_pos h3, h]
  show (if e = 0 then _ else goH ls b) = _
  rw [if_neg he]
theorem goH_skip {l : List Int} {ls : List (List Int)} {b : BkT} (h3 : l.length ≠ 3) : goH (l :: ls) b = goH ls b := by
  show (if l.length = 3 then (match opI b l with
    | some (e, b') => if e = 0 then (stpI l :: (goH ls b').1, (goH ls b').2) else goH ls b
    | none => goH ls b) else goH ls b) = _
  rw [if_neg h3]
theorem goH_run : ∀ (ls : List (List Int)) (b : BkT), BInv b → runH b (goH ls b).1 = some (goH ls b).2 ∧ BInv (goH ls b).2
  | [], b, h => ⟨rfl, h⟩
  | l :: ls, b, h => by
    by_cases h3 : l.length = 3
    · obtain ⟨e, b', h1, h2, h4, h5⟩ := opI_ev h l
      by_cases c : e = 0
      · subst c
        rw [goH_ok h3 h1]
        obtain ⟨i1, i2⟩ := goH_run ls b' h2
        refine ⟨?_, i2⟩
        show ((stepM b (stpI l)).bind fun r => if r.1 = 0 then runH r.2 (goH ls b').1 else none) = _
        rw [h5 rfl, Option.bind_some, if_pos rfl]; exact i1
      · rw [goH_no h3 h1 c]; exact goH_run ls b h
    · rw [goH_skip h3]; exact goH_run ls b h
theorem putH_L1 {steps : List (List Int)} : ∀ (g j : Nat) (b : BkT), BInv b → 70 < j + g → j ≤ 70 → ∃ x, L4_put_L1 300 steps g b (j : Int) = some ((goH ((steps.take 70).drop j) b).2, x)
  | 0, j, b, hI, h, hj => by omega
  | g+1, j, b, hI, h, hj => by
    rw [L4_put_L1_s]
    by_cases c1 : j < steps.length
    · by_cases c2 : j < 70
      · have hlt : j < (steps.take 70).length := by rw [List.length_take]; omega
        have hd := List.drop_eq_getElem_cons hlt
        have h1 : ix steps (j : Int) = some ((steps.take 70)[j]) := by rw [ix_nat c1, List.getElem_take]
        rw [if_pos (by omega), if_pos (by omega), Option.bind_some, if_pos rfl, h1, Option.bind_some, w64n (by omega), hd]
        generalize (steps.take 70)[j] = l
        by_cases c3 : l.length = 3
        · have q0 : ix l 0 = some (l.getD 0 0) := ix_at (i := 0) 0 (by omega)
          have q1 : ix l 1 = some (l.getD 1 0) := ix_at (i := 1) 0 (by omega)
          have q2 : ix l 2 = some (l.getD 2 0) := ix_at (i := 2) 0 (by omega)
          rw [if_neg (by rw [bne_iff_ne]; omega), q0, Option.bind_some, q1, Option.bind_some, q2, Option.bind_some, Option.bind_some, Option.bind_some]
          obtain ⟨e, b', o1, o2, o3, _⟩ := opI_ev hI l
          have key : ∃ x, L4_put_L1 300 steps g b' ((j + 1 : Nat) : Int) = some ((goH (l :: (steps.take 70).drop (j + 1)) b).2, x) := by
            obtain ⟨x, hx⟩ := putH_L1 (steps := steps) g (j+1) b' o2 (by omega) (by omega)
            refine ⟨x, ?_⟩
            rw [hx]
            by_cases c : e = 0
            · subst c; rw [goH_ok c3 o1]
            · rw [goH_no c3 o1 c, o3 c]
          unfold opI at o1
          split
          · rename_i hz
            have hz : l.getD 0 0 = 0 := eq_of_beq hz
            rw [if_pos hz] at o1
            rw [o1, Option.bind_some]; exact key
          · rename_i hz
            have hz : ¬ l.getD 0 0 = 0 := fun q => hz (by rw [q]; rfl)
            rw [if_neg hz] at o1
            rw [o1, Option.bind_some]; exact key
        · rw [if_pos (by rw [bne_iff_ne]; omega), goH_skip c3]
          exact putH_L1 g (j+1) b hI (by omega) (by omega)
      · have : (steps.take 70).drop j = [] := by rw [List.drop_eq_nil_iff, List.length_take]; omega
        rw [if_pos (by omega), if_neg (by omega), Option.bind_some, if_neg (by decide), this]; exact ⟨_, rfl⟩
    · have : (steps.take 70).drop j = [] := by rw [List.drop_eq_nil_iff, List.length_take]; omega
      rw [if_neg (by omega), Option.bind_some, if_neg (by decide), this]; exact ⟨_, rfl⟩
theorem put_goH (steps : List (List Int)) : L4_put 300 steps = some (goH (steps.take 70) newB).2 := by
  obtain ⟨x, h1⟩ := putH_L1 (steps := steps) 300 0 newB new_inv (by omega) (by omega)
  unfold L4_put bkNewM
  rw [Option.bind_some, show L4_put_L1 300 steps 300 newB 0 = _ from h1, Option.bind_some, List.drop_zero]
/-- a whole log, opened -/
theorem open_whole {h : List Stp} {b : BkT} (hr : runH newB h = some b) : mOpen b.2.1 = some (0, b.2.2, b) := by
  obtain ⟨i1, i2, i3⟩ := run_inv h new_inv hr
  have he : b.2.1.data.toList = txtL h ++ [] := by rw [i3, List.append_nil]; rfl
  refine open_run hr (by simp) he ?_
  have := i1.many1
  have hn : newB.2.2 = 0 := rfl
  have hl := congrArg List.length he
  rw [bytes_len, List.append_nil, txtL_len] at hl
  omega
end Go.Proofs.YtjpfmbffiagjgaaGreatDoor
