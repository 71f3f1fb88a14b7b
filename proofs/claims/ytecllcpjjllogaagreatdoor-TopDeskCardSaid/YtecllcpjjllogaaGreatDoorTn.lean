import Derived.Test.YtecllcpjjllogaaGreatDoorOg
/- plain: what is left of a log that was torn -/
set_option linter.all false
set_option maxRecDepth 100000
namespace Go.Proofs.YtecllcpjjllogaaGreatDoor
open Go.RowKit Go.Shelf Pl
theorem run_okS : ∀ (h : List Stp) {b b' : BkT}, BInv b → runH b h = some b' → ∀ s ∈ h, okS s
  | [], _, _, _, _ => fun s hs => by cases hs
  | s :: h, b, b', hb, hr => by
    obtain ⟨e, b1, h1, h2, h3, h4⟩ := step_ev hb s
    unfold runH at hr
    rw [h1, Option.bind_some] at hr
    by_cases c : e = 0
    · rw [if_pos c] at hr
      intro x hx
      rcases List.mem_cons.1 hx with rfl | hx
      · exact (h4 c).1
      · exact run_okS h h2 hr x hx
    · rw [if_neg c] at hr; cases hr
theorem torn_split : ∀ (h : List Stp) (n : Nat), (∀ s ∈ h, okS s) → n ≤ (txtL h).length → ∃ k tl, k ≤ h.length ∧ (txtL h).take n = txtL (h.take k) ++ tl ∧ ¬ (10 : UInt8) ∈ tl ∧ ((txtL h).take n).count 10 = k ∧ (txtL (h.take k)).length ≤ n
  | [], n, _, hn => by
    refine ⟨0, [], Nat.le_refl _, ?_, by simp, ?_, ?_⟩
    · show ([] : List UInt8).take n = _; rw [List.take_nil]; rfl
    · show (([] : List UInt8).take n).count 10 = 0; rw [List.take_nil]; rfl
    · exact Nat.zero_le _
  | s :: h, n, ho, hn => by
    have F := ln_facts (ho s List.mem_cons_self)
    have h9 : (lnL s).length = 9 := rfl
    have h10 : (rowL s).length = 10 := rfl
    have e : txtL (s :: h) = rowL s ++ txtL h := rfl
    have hc0 : (lnL s).count 10 = 0 := List.count_eq_zero.2 F.no
    by_cases c : n < 10
    · have e1 : (txtL (s :: h)).take n = (lnL s).take n := by
        rw [e, List.take_append_of_le_length (by omega)]
        unfold rowL
        rw [List.take_append_of_le_length (by omega)]
      have hno : ¬ (10 : UInt8) ∈ (lnL s).take n := fun q => F.no (List.mem_of_mem_take q)
      exact ⟨0, (lnL s).take n, Nat.zero_le _, e1, hno, by rw [e1]; exact List.count_eq_zero.2 hno, Nat.zero_le _⟩
    · rw [e, List.length_append] at hn
      obtain ⟨k, tl, k1, k2, k3, k4, k5⟩ := torn_split h (n - 10) (fun x hx => ho x (List.mem_cons_of_mem _ hx)) (by omega)
      have e1 : (txtL (s :: h)).take n = rowL s ++ (txtL h).take (n - 10) := by
        rw [e, List.take_append, h10, List.take_of_length_le (by omega)]
      refine ⟨k + 1, tl, by rw [List.length_cons]; omega, ?_, k3, ?_, ?_⟩
      · rw [e1, k2, List.take_succ_cons]
        show _ = (rowL s ++ txtL (h.take k)) ++ tl
        rw [List.append_assoc]
      · rw [e1, List.count_append, k4]
        unfold rowL
        rw [List.count_append, hc0]
        simp; omega
      · rw [List.take_succ_cons]
        show (rowL s ++ txtL (h.take k)).length ≤ n
        rw [List.length_append]; omega
/-- the same changes once more, until so many were made -/
def tornM (m : Nat) : List (List Int) → BkT → Nat → BkT × Nat
  | [], b, had => (b, had)
  | l :: ls, b, had => if had < m then (if l.length = 3 then (match opI b l with
    | some (e, b') => if e = 0 then tornM m ls b' (had + 1) else tornM m ls b' had
    | none => (b, had)) else tornM m ls b had) else (b, had)
theorem torn_stop {m had : Nat} {ls : List (List Int)} {b : BkT} (h : ¬ had < m) : tornM m ls b had = (b, had) := by
  cases ls with
  | nil => rfl
  | cons l ls => unfold tornM; rw [if_neg h]
theorem torn_run : ∀ (ls : List (List Int)) (m : Nat) (b : BkT) (had : Nat), BInv b → had ≤ m → m ≤ had + (goH ls b).1.length → ∃ b', tornM m ls b had = (b', m) ∧ runH b ((goH ls b).1.take (m - had)) = some b'
  | [], m, b, had, hb, h1, h2 => by
    have : m = had := by have e : (goH [] b).1.length = 0 := rfl; omega
    subst this
    exact ⟨b, rfl, by rw [Nat.sub_self, List.take_zero]; rfl⟩
  | l :: ls, m, b, had, hb, h1, h2 => by
    by_cases c : had < m
    · by_cases h3 : l.length = 3
      · obtain ⟨e, b', o1, o2, o3, o4⟩ := opI_ev hb l
        have eT : tornM m (l :: ls) b had = if e = 0 then tornM m ls b' (had + 1) else tornM m ls b' had := by
          show (if had < m then (if l.length = 3 then (match opI b l with
            | some (e, b') => if e = 0 then tornM m ls b' (had + 1) else tornM m ls b' had
            | none => (b, had)) else tornM m ls b had) else (b, had)) = _
          rw [if_pos c, if_pos h3, o1]
        by_cases he : e = 0
        · subst he
          rw [goH_ok h3 o1] at h2 ⊢
          rw [List.length_cons] at h2
          obtain ⟨b2, i1, i2⟩ := torn_run ls m b' (had + 1) o2 (by omega) (by omega)
          refine ⟨b2, by rw [eT, if_pos rfl]; exact i1, ?_⟩
          rw [show m - had = (m - (had + 1)) + 1 by omega, List.take_succ_cons]
          show ((stepM b (stpI l)).bind fun r => if r.1 = 0 then runH r.2 _ else none) = _
          rw [o4 rfl, Option.bind_some, if_pos rfl]; exact i2
        · rw [goH_no h3 o1 he] at h2 ⊢
          rw [o3 he] at eT
          obtain ⟨b2, i1, i2⟩ := torn_run ls m b had hb h1 h2
          exact ⟨b2, by rw [eT, if_neg he]; exact i1, i2⟩
      · rw [goH_skip h3] at h2 ⊢
        obtain ⟨b2, i1, i2⟩ := torn_run ls m b had hb h1 h2
        refine ⟨b2, ?_, i2⟩
        show (if had < m then (if l.length = 3 then _ else tornM m ls b had) else (b, had)) = _
        rw [if_pos c, if_neg h3]; exact i1
    · have : m = had := by omega
      subst this
      exact ⟨b, torn_stop c, by rw [Nat.sub_self, List.take_zero]; rfl⟩
theorem torn_facts (steps : List (List Int)) {n : Nat} (hn : n ≤ (goH (steps.take 70) newB).2.2.1.size) : ∃ bo m, m = (((goH (steps.take 70) newB).2.2.1.data.toList).take n).count 10 ∧ mOpen ((goH (steps.take 70) newB).2.2.1.extract 0 n) = some (0, (m : Int), bo) ∧
    tornM m (steps.take 70) newB 0 = (bo, m) ∧ BInv bo ∧ bo.2.1.size ≤ n ∧ m ≤ n := by
  obtain ⟨g1, g2⟩ := goH_run (steps.take 70) newB new_inv
  generalize hH : (goH (steps.take 70) newB).1 = h at *
  generalize hB : (goH (steps.take 70) newB).2 = b at *
  obtain ⟨i1, i2, i3⟩ := run_inv h new_inv g1
  have he : b.2.1.data.toList = txtL h := by rw [i3]; rfl
  have hlen : (txtL h).length = b.2.1.size := by rw [← he, bytes_len]
  obtain ⟨k, tl, k1, k2, k3, k4, k5⟩ := torn_split h n (run_okS h new_inv g1) (by omega)
  obtain ⟨bo, j1, j2⟩ := torn_run (steps.take 70) k newB 0 new_inv (Nat.zero_le _) (by rw [hH]; omega)
  rw [hH, Nat.sub_zero] at j2
  obtain ⟨q1, q2, q3⟩ := run_inv _ new_inv j2
  have hx : (b.2.1.extract 0 n).data.toList = txtL (h.take k) ++ tl := by
    rw [← k2, ← he]
    simp [ByteArray.data_extract]
  have hm : bo.2.2 = (k : Int) := by
    rw [q2, List.length_take]
    have : newB.2.2 = 0 := rfl
    omega
  have hsz : b.2.1.size ≤ 2000 := by
    have := i1.many1
    have hn0 : newB.2.2 = 0 := rfl
    rw [← hlen, txtL_len]; omega
  refine ⟨bo, k, by rw [he, k4], ?_, j1, q1, ?_, ?_⟩
  · rw [← hm]
    exact open_run j2 k3 hx (by rw [ByteArray.size_extract]; omega)
  · have : bo.2.1.data.toList = txtL (h.take k) := by rw [q3]; rfl
    have := congrArg List.length this
    rw [bytes_len] at this
    omega
  · rw [← k4]
    have := List.count_le_length (a := (10 : UInt8)) (l := (txtL h).take n)
    rw [List.length_take] at this; omega
end Go.Proofs.YtecllcpjjllogaaGreatDoor
