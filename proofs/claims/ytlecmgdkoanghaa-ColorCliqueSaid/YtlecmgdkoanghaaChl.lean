import Derived.Test.YtlecmgdkoanghaaChi
/- plain: the least number of colours with a line or a point less -/
set_option linter.all false
set_option maxRecDepth 100000
namespace Go.Proofs.Ytlecmgdkoanghaa
open Go.RowKit Go.Shelf Pl
theorem Proper.ne {a : Nat → Nat → Bool} {m k : Nat} {f : Nat → Nat} (h : Proper a m k f) (hs : ∀ i j, a i j = a j i) {u v : Nat} (hu : u < k) (hv : v < k) (huv : u ≠ v) (e : a u v = true) : f u ≠ f v := by
  rcases Nat.lt_or_gt_of_ne huv with h1 | h1
  · exact (h v hv).2 u h1 (by rw [hs]; exact e)
  · exact fun q => (h u hu).2 v h1 e q.symm
theorem Proper.mk' {a : Nat → Nat → Bool} {m k : Nat} {f : Nat → Nat} (h : ∀ u < k, f u < m) (h2 : ∀ u v, u < k → v < k → u ≠ v → a u v = true → f u ≠ f v) : Proper a m k f :=
  fun i hi => ⟨h i hi, fun j hj e he => h2 i j hi (by omega) (by omega) e he.symm⟩
theorem chi_le {a : Nat → Nat → Bool} {m k : Nat} (hk : 1 ≤ k) (hm : 1 ≤ m) (f : Nat → Nat) (h : Proper a m k f) : chi a k ≤ m := by
  obtain ⟨_, _, _, h4⟩ := chi_spec a hk
  refine Nat.le_of_not_lt fun hlt => ?_
  have := h4 m hm hlt
  rw [(can_iff a m k).2 ⟨f, h⟩] at this; cases this
theorem chi_has (a : Nat → Nat → Bool) {k : Nat} (hk : 1 ≤ k) : ∃ f, Proper a (chi a k) k f := (can_iff _ _ _).1 (chi_spec a hk).1
theorem chi_edge {a a' : Nat → Nat → Bool} {k p : Nat} (hk : 1 ≤ k) (hs : ∀ i j, a i j = a j i) (hs' : ∀ i j, a' i j = a' j i) (sub : ∀ u v, a' u v = true → a u v = true)
    (back : ∀ u v, a u v = true → a' u v = true ∨ u = p ∨ v = p) : chi a' k ≤ chi a k ∧ chi a k ≤ chi a' k + 1 := by
  constructor
  · obtain ⟨f, hf⟩ := chi_has a hk
    exact chi_le hk (chi_spec a hk).2.1 f (Proper.mk' (fun u hu => (hf u hu).1) fun u v hu hv huv e => hf.ne hs hu hv huv (sub u v e))
  · obtain ⟨f, hf⟩ := chi_has a' hk
    refine chi_le hk (by omega) (fun u => if u = p then chi a' k else f u) (Proper.mk' (fun u hu => ?_) fun u v hu hv huv e => ?_)
    · have := (hf u hu).1
      split <;> omega
    · have h1 := (hf u hu).1
      have h2 := (hf v hv).1
      by_cases eu : u = p
      · rw [if_pos eu, if_neg (by omega)]; omega
      · by_cases ev : v = p
        · rw [if_neg eu, if_pos ev]; omega
        · rw [if_neg eu, if_neg ev]
          rcases back u v e with q | q | q
          · exact hf.ne hs' hu hv huv q
          · exact absurd q eu
          · exact absurd q ev
theorem chi_point {a a' : Nat → Nat → Bool} {k i : Nat} (hk : 2 ≤ k) (hi : i < k) (hs : ∀ i j, a i j = a j i) (hs' : ∀ i j, a' i j = a' j i) (e : ∀ u v, a' u v = a (upN i u) (upN i v)) : chi a' (k-1) ≤ chi a k ∧ chi a k ≤ chi a' (k-1) + 1 := by
  constructor
  · obtain ⟨f, hf⟩ := chi_has a (k := k) (by omega)
    refine chi_le (by omega) (chi_spec a (k := k) (by omega)).2.1 (fun u => f (upN i u)) (Proper.mk' (fun u hu => ?_) fun u v hu hv huv h => ?_)
    · exact (hf _ (by unfold upN; split <;> omega)).1
    · rw [e] at h
      exact hf.ne hs (by unfold upN; split <;> omega) (by unfold upN; split <;> omega) (fun q => huv (by rw [← dn_up (i := i) (u := u), q, dn_up])) h
  · obtain ⟨f, hf⟩ := chi_has a' (k := k-1) (by omega)
    refine chi_le (by omega) (by omega) (fun u => if u = i then chi a' (k-1) else f (dnN i u)) (Proper.mk' (fun u hu => ?_) fun u v hu hv huv h => ?_)
    · by_cases eu : u = i
      · rw [if_pos eu]; omega
      · rw [if_neg eu]
        have := (hf (dnN i u) (by unfold dnN; split <;> omega)).1
        omega
    · have hb : ∀ x, x < k → x ≠ i → f (dnN i x) < chi a' (k-1) := fun x hx hxi => (hf _ (by unfold dnN; split <;> omega)).1
      by_cases eu : u = i
      · have := hb v hv (by omega)
        rw [if_pos eu, if_neg (by omega)]; omega
      · by_cases ev : v = i
        · have := hb u hu eu
          rw [if_neg eu, if_pos ev]; omega
        · rw [if_neg eu, if_neg ev]
          refine hf.ne hs' (by unfold dnN; split <;> omega) (by unfold dnN; split <;> omega) (fun q => huv (by rw [← up_dn eu, q, up_dn ev])) ?_
          rw [e, up_dn eu, up_dn ev]; exact h
theorem chi_congr {a b : Nat → Nat → Bool} (k : Nat) (h : a = b) : chi a k = chi b k := by rw [h]
/-- what color.Least gives -/
theorem least_ev {k : Nat} {l : List (Int × Int)} (h1 : 1 ≤ k) (h8 : k ≤ 8) (h24 : l.length ≤ 24) (hin : InL k l) (hne : ∀ p ∈ l, p.1 ≠ p.2) :
    color_Least 300 (k : Int) l = some (((chi (aL l) k : Nat) : Int), 0) := by
  rw [color_Least_ev (⟨wf8 h8, by unfold maxLen; omega⟩) (errG_ok h1 h8 h24 hin hne) h1 h8 hin (by omega)]
  rw [chi_congr k (show adj (besM k l) = aL l from by funext i j; exact adj_besL hin i j)]
theorem least_bad {n : Int} {l : List (Int × Int)} (hg : good n l) (he : errG n l ≠ 0) : color_Least 300 n l = some (0, errG n l) := by
  unfold color_Least
  rw [mCheck_ev hg, Option.bind_some, if_pos (bne_iff_ne.2 he)]
end Go.Proofs.Ytlecmgdkoanghaa
