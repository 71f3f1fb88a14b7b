import Derived.KernelRfl
/- plain model of bruijn.Ring -/
set_option linter.all false
set_option maxRecDepth 100000
namespace Go.Proofs.YtnfijblmigjlhaaDoor.Pl
def putL (f : Nat → List Int × List Int → List Int × List Int) (t : Nat) : Nat → Nat → List Int × List Int → List Int × List Int
  | 0, _, st => st
  | i+1, k, st => putL f t i (k+1) (f t (st.1.set t (k : Int), st.2))
def putM (s l : Nat) : Nat → Nat → Nat → List Int × List Int → List Int × List Int
  | 0, _, p, st => if l % p = 0 then (st.1, st.2 ++ (st.1.drop 1).take p) else st
  | m+1, t, p, st =>
    let st1 := putM s l m (t+1) p (st.1.set t (st.1.getD (t-p) 0), st.2)
    let x := (st1.1.getD (t-p) 0).toNat
    putL (fun q st => putM s l m (t+1) q st) t (s - (x+1)) (x+1) st1
def ringM (s l : Nat) : List Int := (putM s l l 1 1 (List.replicate (l+1) 0, [])).2
/-- the words stay in range -/
def InR (s l : Nat) (w : List Int) : Prop := w.length = l + 1 ∧ ∀ x ∈ w, 0 ≤ x ∧ x < s
theorem InR.set {s l : Nat} {w : List Int} (h : InR s l w) {t : Nat} {x : Int} (hx : 0 ≤ x ∧ x < s) : InR s l (w.set t x) :=
  ⟨by simp [h.1], fun y hy => by
    rcases List.mem_or_eq_of_mem_set hy with h1 | rfl
    · exact h.2 y h1
    · exact hx⟩
theorem InR.at_ {s l : Nat} {w : List Int} (h : InR s l w) {t : Nat} (ht : t ≤ l) : 0 ≤ w.getD t 0 ∧ w.getD t 0 < s ∧ w[t]? = some (w.getD t 0) := by
  have hl : t < w.length := by have := h.1; omega
  have e : w.getD t 0 = w[t] := by simp [List.getD, hl]
  rw [e]
  exact ⟨(h.2 _ (List.getElem_mem hl)).1, (h.2 _ (List.getElem_mem hl)).2, List.getElem?_eq_getElem hl⟩
theorem putL_ok {s l : Nat} {f : Nat → List Int × List Int → List Int × List Int} {t D : Nat}
    (hf : ∀ st : List Int × List Int, InR s l st.1 → InR s l (f t st).1 ∧ (f t st).2.length ≤ st.2.length + D) :
    ∀ (i k : Nat) (st : List Int × List Int), InR s l st.1 → k + i ≤ s → InR s l (putL f t i k st).1 ∧ (putL f t i k st).2.length ≤ st.2.length + i * D := by
  intro i
  induction i with
  | zero => intro k st h _; exact ⟨h, by simp [putL]⟩
  | succ i ih =>
    intro k st h hk
    have h1 := hf (st.1.set t (k : Int), st.2) (h.set (by omega))
    have h2 := ih (k+1) _ h1.1 (by omega)
    refine ⟨h2.1, ?_⟩
    have e : (i + 1) * D = i * D + D := Nat.succ_mul i D
    have := h1.2; have := h2.2
    simp only [putL] at *
    omega
theorem put_ok (s l : Nat) : ∀ (m t p : Nat) (st : List Int × List Int), InR s l st.1 → l ≤ 6 → s ≤ 3 → t + m = l + 1 → p ≤ t → 1 ≤ p →
    InR s l (putM s l m t p st).1 ∧ (putM s l m t p st).2.length ≤ st.2.length + 7 * 3 ^ m := by
  intro m
  induction m with
  | zero =>
    intro t p st h hl hs htl hpt hp1
    unfold putM
    split
    · refine ⟨h, ?_⟩
      simp
      omega
    · exact ⟨h, by omega⟩
  | succ m ih =>
    intro t p st h hl hs htl hpt hp1
    have hx := h.at_ (t := t - p) (by omega)
    have h1 := ih (t+1) p (st.1.set t (st.1.getD (t-p) 0), st.2) (h.set ⟨hx.1, hx.2.1⟩) hl hs (by omega) (by omega) hp1
    have hx2 := h1.1.at_ (t := t - p) (by omega)
    have h2 := putL_ok (f := fun q st => putM s l m (t+1) q st) (t := t) (D := 7 * 3 ^ m) (fun st' h' => ih (t+1) t st' h' hl hs (by omega) (by omega) (by omega))
      (s - (((putM s l m (t+1) p (st.1.set t (st.1.getD (t-p) 0), st.2)).1.getD (t-p) 0).toNat + 1)) (((putM s l m (t+1) p (st.1.set t (st.1.getD (t-p) 0), st.2)).1.getD (t-p) 0).toNat + 1) _ h1.1 (by omega)
    refine ⟨h2.1, ?_⟩
    have e1 := h1.2; have e2 := h2.2
    show (putL _ _ _ _ _).2.length ≤ _
    generalize hd : (s - (((putM s l m (t+1) p (st.1.set t (st.1.getD (t-p) 0), st.2)).1.getD (t-p) 0).toNat + 1)) = c at *
    have hc : c ≤ 2 := by omega
    have e3 : c * (7 * 3 ^ m) ≤ 2 * (7 * 3 ^ m) := Nat.mul_le_mul_right _ hc
    have e4 : 3 ^ (m + 1) = 3 ^ m * 3 := Nat.pow_succ 3 m
    simp only at e1
    omega
def okB (s l : Nat) : Bool := decide (1 ≤ s) && decide (s ≤ 3) && decide (1 ≤ l) && decide (l ≤ 6) && decide (s ^ l ≤ 100)
def allB (f : Nat → Nat → Bool) : Bool := (List.range 4).all fun s => (List.range 7).all fun l => !okB s l || f s l
theorem allB_at {f : Nat → Nat → Bool} (h : allB f = true) {s l : Nat} (hs : s ≤ 3) (hl : l ≤ 6) (ho : okB s l = true) : f s l = true := by
  unfold allB at h
  rw [List.all_eq_true] at h
  have := h s (by simp; omega)
  rw [List.all_eq_true] at this
  have := this l (by simp; omega)
  simpa [ho] using this
def subw (m : List Int) (i l : Nat) : List Int := (List.range l).map fun k => m.getD ((i + k) % m.length) 0
/-- the ring is as long as there are words, its words are all different, its signs in range -/
def chkOnce (s l : Nat) : Bool := (ringM s l).length == s ^ l && (ringM s l).all (fun x => decide (0 ≤ x) && decide (x < s)) &&
  (List.range (s^l)).all fun i => (List.range i).all fun j => subw (ringM s l) i l != subw (ringM s l) j l
theorem once_all : allB chkOnce = true := by decide +kernel
def chkLeast (s l : Nat) : Bool := if s == 1 then ringM s l == [0] else decide (2 * l ≤ (ringM s l).length) && (List.range l).all fun i => (ringM s l)[i]? == some 0 && (ringM s l)[(ringM s l).length - 1 - i]? == some ((s:Int)-1)
theorem least_all : allB chkLeast = true := by decide +kernel
def findM (r word : List Int) : Option Nat := (List.range r.length).find? fun i => subw r i word.length == word
theorem ring_pos_all : allB (fun s l => decide (0 < (ringM s l).length) && decide ((ringM s l).length ≤ 100)) = true := by decide +kernel
theorem subw_succ (m : List Int) (i k : Nat) : subw m i (k+1) = subw m i k ++ [m.getD ((i + k) % m.length) 0] := by
  simp [subw, List.range_succ]
theorem subw_len (m : List Int) (i k : Nat) : (subw m i k).length = k := by simp [subw]
end Go.Proofs.YtnfijblmigjlhaaDoor.Pl
