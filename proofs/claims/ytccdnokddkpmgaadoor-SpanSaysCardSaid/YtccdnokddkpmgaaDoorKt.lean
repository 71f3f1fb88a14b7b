import Derived.Test.YtccdnokddkpmgaaDoorKb
import Derived.Test.YtccdnokddkpmgaaDoorP4
import Derived.Test.YtccdnokddkpmgaaDoorFwT
import Derived.Test.YtccdnokddkpmgaaDoorBSt
/- Kruskal: whatever lines hang all together cost as much -/
set_option linter.all false
set_option maxRecDepth 100000
namespace Go.Proofs.YtccdnokddkpmgaaDoor
open Go.RowKit Pl
section
variable {l : List (Int × Int × Int)} {T : List Nat} {k : Nat}
/-- the masks tell what hangs together -/
def Iv (l : List (Int × Int × Int)) (k : Nat) (T : List Nat) (S : St) : Prop := S.1.length = k ∧ ∀ v, v < k → ∀ u, u < k → ((S.1.getD v 0).testBit u = true ↔ Cn l T v u)
theorem Cn.lt (hin : InC k l) (hT : ∀ x ∈ T, x < l.length) {a b : Nat} (h : Cn l T a b) (ha : a < k) : b < k := by
  induction h with
  | refl => exact ha
  | step _ hi hj ih =>
    have hi' := hT _ hi
    have he := hin _ (List.getElem_mem hi')
    unfold pA pB at hj
    have hg : ∀ (z : Nat) (hz : z < l.length), l.getD z (0, 0, 0) = l[z] := fun z hz => by simp [List.getD, hz]
    rw [hg _ hi'] at hj
    omega
/-- one line more -/
theorem Cn.more {i : Nat} {a b : Nat} : Cn l (T ++ [i]) a b ↔ Cn l T a b ∨ (Cn l T a (pA l i) ∧ Cn l T (pB l i) b) ∨ (Cn l T a (pB l i) ∧ Cn l T (pA l i) b) := by
  constructor
  · intro h
    induction h with
    | refl => exact .inl (.refl _)
    | @step b c j _ hj hl ih =>
      rcases List.mem_append.1 hj with hj | hj
      · have hs : ∀ {x}, Cn l T x b → Cn l T x c := fun hx => .step hx hj hl
        rcases ih with q | ⟨q1, q2⟩ | ⟨q1, q2⟩
        · exact .inl (hs q)
        · exact .inr (.inl ⟨q1, hs q2⟩)
        · exact .inr (.inr ⟨q1, hs q2⟩)
      · rw [List.mem_singleton.1 hj] at hl
        rcases hl with ⟨e1, e2⟩ | ⟨e1, e2⟩
        · subst e1; subst e2
          rcases ih with q | ⟨q1, q2⟩ | ⟨q1, q2⟩
          · exact .inr (.inl ⟨q, .refl _⟩)
          · exact .inr (.inl ⟨q1, .refl _⟩)
          · exact .inl q1
        · subst e1; subst e2
          rcases ih with q | ⟨q1, q2⟩ | ⟨q1, q2⟩
          · exact .inr (.inr ⟨q, .refl _⟩)
          · exact .inl q1
          · exact .inr (.inr ⟨q1, .refl _⟩)
  · have hm : ∀ x ∈ T, x ∈ T ++ [i] := fun x hx => List.mem_append_left _ hx
    have hl : Cn l (T ++ [i]) (pA l i) (pB l i) := Cn.line (List.mem_append_right _ (List.mem_singleton.2 rfl))
    rintro (q | ⟨q1, q2⟩ | ⟨q1, q2⟩)
    · exact q.mono hm
    · exact ((q1.mono hm).trans hl).trans (q2.mono hm)
    · exact ((q1.mono hm).trans hl.symm).trans (q2.mono hm)
theorem iv_step (hk : k ≤ 8) (hin : InC k l) {S : St} {i m j : Nat} (hi : i < l.length) (hok : okSt k m j S) (h : Iv l k T S) : Iv l k (T ++ [i]) (krS l S i) := by
  have hp := Nat.pow_le_pow_right (n := 2) (by omega) hk
  have he := hin _ (List.getElem_mem hi)
  have hgi : l.getD i (0, 0, 0) = l[i] := by simp [List.getD, hi]
  have hA : pA l i < k := by unfold pA; rw [hgi]; omega
  have hB : pB l i < k := by unfold pB; rw [hgi]; omega
  refine ⟨?_, fun v hv u hu => ?_⟩
  · unfold krS; split
    · exact h.1
    · show (setAll _ _ _).length = k
      rw [setAll_len]; exact h.1
  · rw [Cn.more]
    by_cases c : (S.1.getD (pA l i) 0).testBit (pB l i) = true
    · have hAB := (h.2 _ hA _ hB).1 c
      unfold krS; rw [if_pos c, h.2 v hv u hu]
      constructor
      · exact .inl
      · rintro (q | ⟨q1, q2⟩ | ⟨q1, q2⟩)
        · exact q
        · exact (q1.trans hAB).trans q2
        · exact (q1.trans hAB.symm).trans q2
    · unfold krS; rw [if_neg c]
      show ((setAll S.1 _ _).getD v 0).testBit u = true ↔ _
      rw [setAll_at _ _ _ _ (by rw [h.1]; exact hv)]
      have hor : S.1.getD (pA l i) 0 ||| S.1.getD (pB l i) 0 < 2 ^ k := Nat.or_lt_two_pow (hok.2.1 _) (hok.2.1 _)
      have hbits : ∀ x, x < k → ((S.1.getD (pA l i) 0 ||| S.1.getD (pB l i) 0).testBit x = true ↔ Cn l T (pA l i) x ∨ Cn l T (pB l i) x) := fun x hx => by
        rw [Nat.testBit_or, Bool.or_eq_true, h.2 _ hA x hx, h.2 _ hB x hx]
      split
      · rename_i hc
        rw [mem_memb (by omega), hbits v hv] at hc
        rw [hbits u hu]
        constructor
        · intro q
          rcases hc with hc | hc <;> rcases q with q | q
          · exact .inl (hc.symm.trans q)
          · exact .inr (.inl ⟨hc.symm, q⟩)
          · exact .inr (.inr ⟨hc.symm, q⟩)
          · exact .inl (hc.symm.trans q)
        · rintro (q | ⟨_, q⟩ | ⟨_, q⟩)
          · rcases hc with hc | hc
            · exact .inl (hc.trans q)
            · exact .inr (hc.trans q)
          · exact .inr q
          · exact .inl q
      · rename_i hc
        rw [mem_memb (by omega), hbits v hv] at hc
        rw [h.2 v hv u hu]
        constructor
        · exact .inl
        · rintro (q | ⟨q, _⟩ | ⟨q, _⟩)
          · exact q
          · exact absurd (.inl q.symm) hc
          · exact absurd (.inr q.symm) hc
/-! ### how many parts there are -/
def rep (S : St) (v : Nat) : Bool := (List.range v).all fun u => !(S.1.getD u 0).testBit v
def comps (k : Nat) (S : St) : Nat := ((List.range k).filter (rep S)).length
theorem rep_iff {S : St} (h : Iv l k T S) {v : Nat} (hv : v < k) : rep S v = true ↔ ∀ u, u < v → ¬ Cn l T u v := by
  unfold rep
  rw [List.all_eq_true]
  constructor
  · intro q u hu hc
    have := q u (List.mem_range.2 hu)
    rw [(h.2 u (by omega) v hv).2 hc] at this; cases this
  · intro q u hu
    have hu := List.mem_range.1 hu
    cases e : (S.1.getD u 0).testBit v
    · rfl
    · exact absurd ((h.2 u (by omega) v hv).1 e) (q u hu)
/-- the least point of a part -/
theorem least_rep {S : St} (h : Iv l k T S) (hin : InC k l) (hT : ∀ x ∈ T, x < l.length) {q : Nat} (hq : q < k) : ∃ a, a ≤ q ∧ Cn l T a q ∧ rep S a = true := by
  induction q using Nat.strongRecOn with
  | _ q ih =>
    by_cases c : ∃ u, u < q ∧ Cn l T u q
    · obtain ⟨u, u1, u2⟩ := c
      obtain ⟨a, a1, a2, a3⟩ := ih u u1 (by omega)
      exact ⟨a, by omega, a2.trans u2, a3⟩
    · exact ⟨q, Nat.le_refl _, .refl _, (rep_iff h hq).2 fun u hu hc => c ⟨u, hu, hc⟩⟩
theorem filter_one {p q : Nat → Bool} {m : Nat} : ∀ (xs : List Nat), xs.Nodup → m ∈ xs → p m = true → q m = false → (∀ x ∈ xs, x ≠ m → q x = p x) → (xs.filter q).length + 1 = (xs.filter p).length
  | x :: xs, hn, hm, hp, hq, h => by
    obtain ⟨n1, n2⟩ := List.nodup_cons.1 hn
    by_cases e : x = m
    · subst e
      have : xs.filter q = xs.filter p := List.filter_congr fun y hy => h y (List.mem_cons_of_mem _ hy) fun e => n1 (e ▸ hy)
      rw [List.filter_cons_of_neg (by rw [hq]; decide), List.filter_cons_of_pos hp, this, List.length_cons]
    · have hx := h x List.mem_cons_self e
      have ih := filter_one xs n2 ((List.mem_cons.1 hm).resolve_left fun q => e q.symm) hp hq fun y hy => h y (List.mem_cons_of_mem _ hy)
      cases e2 : p x
      · rw [List.filter_cons_of_neg (by rw [hx, e2]; decide), List.filter_cons_of_neg (by rw [e2]; decide)]; exact ih
      · rw [List.filter_cons_of_pos (by rw [hx, e2]), List.filter_cons_of_pos e2, List.length_cons, List.length_cons]; omega
/-- a line that is taken makes one part of two -/
theorem comps_step (hk : k ≤ 8) (hin : InC k l) (hT : ∀ x ∈ T, x < l.length) {S : St} {i m j : Nat} (hi : i < l.length) (hok : okSt k m j S) (h : Iv l k T S) (hn : ¬ (S.1.getD (pA l i) 0).testBit (pB l i) = true) : comps k (krS l S i) + 1 = comps k S := by
  have h' := iv_step hk hin hi hok h
  have he := hin _ (List.getElem_mem hi)
  have hgi : l.getD i (0, 0, 0) = l[i] := by simp [List.getD, hi]
  have hA : pA l i < k := by unfold pA; rw [hgi]; omega
  have hB : pB l i < k := by unfold pB; rw [hgi]; omega
  have hnc : ¬ Cn l T (pA l i) (pB l i) := fun q => hn ((h.2 _ hA _ hB).2 q)
  obtain ⟨a, a1, a2, a3⟩ := least_rep h hin hT hA
  obtain ⟨b, b1, b2, b3⟩ := least_rep h hin hT hB
  have ha := (rep_iff h (by omega)).1 a3
  have hb := (rep_iff h (by omega)).1 b3
  have hne : a ≠ b := fun e => by subst e; exact hnc (a2.symm.trans b2)
  have one : ∀ v, v < k → rep S v = true → Cn l T (pA l i) v → v = a := fun v hv hr hc => by
    rcases Nat.lt_trichotomy v a with q | q | q
    · exact absurd (hc.symm.trans a2.symm) (ha v q)
    · exact q
    · exact absurd (a2.trans hc) ((rep_iff h hv).1 hr a q)
  have two : ∀ v, v < k → rep S v = true → Cn l T (pB l i) v → v = b := fun v hv hr hc => by
    rcases Nat.lt_trichotomy v b with q | q | q
    · exact absurd (hc.symm.trans b2.symm) (hb v q)
    · exact q
    · exact absurd (b2.trans hc) ((rep_iff h hv).1 hr b q)
  have main : ∀ m', m' = max a b → comps k (krS l S i) + 1 = comps k S := fun m' hm' => by
    unfold comps
    refine filter_one (m := m') (List.range k) List.nodup_range (List.mem_range.2 (by omega)) ?_ ?_ fun v hv hvm => ?_
    · rcases Nat.le_total a b with q | q
      · rw [hm', Nat.max_eq_right q]; exact b3
      · rw [hm', Nat.max_eq_left q]; exact a3
    · cases e : rep (krS l S i) m'
      · rfl
      · exfalso
        have hr := (rep_iff h' (v := m') (by omega)).1 e
        rcases Nat.lt_or_gt_of_ne hne with q | q
        · rw [hm', Nat.max_eq_right (by omega)] at hr
          exact hr a q (Cn.more.2 (.inr (.inl ⟨a2, b2.symm⟩)))
        · rw [hm', Nat.max_eq_left (by omega)] at hr
          exact hr b q (Cn.more.2 (.inr (.inr ⟨b2, a2.symm⟩)))
    · have hv := List.mem_range.1 hv
      rw [Bool.eq_iff_iff, rep_iff h' hv]
      constructor
      · intro q
        exact (rep_iff h hv).2 fun u hu hc => q u hu (Cn.more.2 (.inl hc))
      · intro q u hu hc
        rcases Cn.more.1 hc with w | ⟨w1, w2⟩ | ⟨w1, w2⟩
        · exact (rep_iff h hv).1 q u hu w
        · have hvb := two v hv q w2
          have : b < a := by omega
          exact ha u (by omega) (w1.trans a2.symm)
        · have hva := one v hv q w2
          have : a < b := by omega
          exact hb u (by omega) (w1.trans b2.symm)
  exact main _ rfl
theorem comps_le (hk : k ≤ 8) (hin : InC k l) (hT : ∀ x ∈ T, x < l.length) {S : St} {i m j : Nat} (hi : i < l.length) (hok : okSt k m j S) (h : Iv l k T S) : comps k S ≤ comps k (krS l S i) + 1 := by
  by_cases c : (S.1.getD (pA l i) 0).testBit (pB l i) = true
  · have : krS l S i = S := by unfold krS; rw [if_pos c]
    rw [this]; omega
  · have := comps_step hk hin hT hi hok h c; omega
theorem iv_fold (hk : k ≤ 8) (hin : InC k l) : ∀ (P T : List Nat) (j : Nat) (S : St), (∀ x ∈ P, x < l.length) → (∀ x ∈ T, x < l.length) → okSt k l.length j S → Iv l k T S →
    Iv l k (T ++ P) (P.foldl (krS l) S) ∧ okSt k l.length (j + P.length) (P.foldl (krS l) S) ∧ comps k S ≤ comps k (P.foldl (krS l) S) + P.length
  | [], T, j, S, _, _, h1, h2 => ⟨by rw [List.append_nil]; exact h2, h1, by simp⟩
  | x :: P, T, j, S, hx, hT, h1, h2 => by
    have hxl := hx x List.mem_cons_self
    obtain ⟨q1, q2, q3⟩ := iv_fold hk hin P (T ++ [x]) (j+1) (krS l S x) (fun y hy => hx y (List.mem_cons_of_mem _ hy)) (fun y hy => (List.mem_append.1 hy).elim (hT y) fun q => by rw [List.mem_singleton.1 q]; exact hxl) (okSt_step hk hin hxl h1) (iv_step hk hin hxl h1 h2)
    have := comps_le hk hin hT hxl h1 h2
    rw [List.append_assoc] at q1
    refine ⟨q1, ?_, ?_⟩
    · rw [List.length_cons, show j + (P.length + 1) = j + 1 + P.length by omega]; exact q2
    · rw [List.length_cons, List.foldl_cons]; omega
theorem iv0 (hk : k ≤ 8) : Iv l k [] (st0 k l.length) := ⟨by simp [st0], fun v hv u hu => by
  have e : (st0 k l.length).1.getD v 0 = 2 ^ v := by simp [st0, List.getD, hv]
  rw [e, Nat.testBit_two_pow, decide_eq_true_eq]
  constructor
  · intro q; subst q; exact .refl _
  · intro h; exact (Cn.alone (fun i hi => by cases hi) h).symm⟩
end
end Go.Proofs.YtccdnokddkpmgaaDoor
/- Kruskal's theorem, plain -/
set_option linter.all false
set_option maxRecDepth 100000
namespace Go.Proofs.YtccdnokddkpmgaaDoor
open Go.RowKit Pl
/-! ### sums over a row in which costs rise -/
def sumL (f : Nat → Int) : List Nat → Int
  | [] => 0
  | i :: l => f i + sumL f l
theorem sumL_app (f : Nat → Int) : ∀ a b : List Nat, sumL f (a ++ b) = sumL f a + sumL f b
  | [], b => by simp [sumL]
  | x :: a, b => by rw [List.cons_append]; simp only [sumL]; rw [sumL_app f a b]; omega
def cnt (p : Nat → Bool) (l : List Nat) : Nat := (l.filter p).length
/-- of which fewer stand in each end of the row, that costs less -/
theorem abel (w : Nat → Int) (x y : Nat → Bool) : ∀ (o : List Nat), (∀ i ∈ o, 0 ≤ w i) → o.Pairwise (fun a b => w a ≤ w b) → (∀ t, cnt x (o.drop t) ≤ cnt y (o.drop t)) →
    ∀ c : Int, 0 ≤ c → (∀ i ∈ o, c ≤ w i) → sumL (fun i => if x i = true then w i else 0) o - c * (cnt x o : Int) ≤ sumL (fun i => if y i = true then w i else 0) o - c * (cnt y o : Int)
  | [], _, _, _, c, _, _ => by simp [sumL, cnt]
  | i :: o, h, hp, hc, c, h0, hcw => by
    obtain ⟨p1, p2⟩ := List.pairwise_cons.1 hp
    have w0 := h i List.mem_cons_self
    have wc := hcw i List.mem_cons_self
    have ih := abel w x y o (fun j hj => h j (List.mem_cons_of_mem _ hj)) p2 (fun t => by have := hc (t+1); rwa [List.drop_succ_cons] at this) (w i) w0 p1
    have hd0 := hc 0
    have hd1 := hc 1
    rw [List.drop_zero] at hd0
    rw [List.drop_succ_cons, List.drop_zero] at hd1
    obtain ⟨d, hd⟩ : ∃ d : Nat, cnt y o = cnt x o + d := ⟨cnt y o - cnt x o, by omega⟩
    have e1 : w i * ((cnt y o : Nat) : Int) = w i * (cnt x o : Int) + w i * (d : Int) := by rw [hd, Int.natCast_add, Int.mul_add]
    have e2 : c * ((cnt y o : Nat) : Int) = c * (cnt x o : Int) + c * (d : Int) := by rw [hd, Int.natCast_add, Int.mul_add]
    obtain ⟨g, hg⟩ : ∃ g : Nat, w i = c + g := ⟨(w i - c).toNat, by omega⟩
    have e3 : w i * (d : Int) = c * (d : Int) + (g : Int) * (d : Int) := by rw [hg, Int.add_mul]
    have gd : 0 ≤ (g : Int) * (d : Int) := Int.mul_nonneg (by omega) (by omega)
    have one : ∀ n : Nat, c * ((n + 1 : Nat) : Int) = c * (n : Int) + c := fun n => by rw [Int.natCast_add, Int.mul_add]; simp
    rw [e1] at ih
    simp only [sumL]
    cases ex : x i <;> cases ey : y i
    · have a1 : cnt x (i :: o) = cnt x o := by unfold cnt; rw [List.filter_cons_of_neg (by rw [ex]; decide)]
      have a2 : cnt y (i :: o) = cnt y o := by unfold cnt; rw [List.filter_cons_of_neg (by rw [ey]; decide)]
      rw [a1, a2, e2]
      simp only [Bool.false_eq_true, if_false]; omega
    · have a1 : cnt x (i :: o) = cnt x o := by unfold cnt; rw [List.filter_cons_of_neg (by rw [ex]; decide)]
      have a2 : cnt y (i :: o) = cnt y o + 1 := by unfold cnt; rw [List.filter_cons_of_pos ey, List.length_cons]
      rw [a1, a2, one, e2]
      simp only [Bool.false_eq_true, if_false, if_true]; omega
    · have a1 : cnt x (i :: o) = cnt x o + 1 := by unfold cnt; rw [List.filter_cons_of_pos ex, List.length_cons]
      have a2 : cnt y (i :: o) = cnt y o := by unfold cnt; rw [List.filter_cons_of_neg (by rw [ey]; decide)]
      obtain ⟨d', hd'⟩ : ∃ d', d = d' + 1 := ⟨d - 1, by omega⟩
      have e4 : (g : Int) * (d : Int) = (g : Int) * (d' : Int) + (g : Int) := by rw [hd', Int.natCast_add, Int.mul_add]; simp
      have gd' : 0 ≤ (g : Int) * (d' : Int) := Int.mul_nonneg (by omega) (by omega)
      rw [a1, a2, one, e2]
      simp only [Bool.false_eq_true, if_false, if_true]; omega
    · have a1 : cnt x (i :: o) = cnt x o + 1 := by unfold cnt; rw [List.filter_cons_of_pos ex, List.length_cons]
      have a2 : cnt y (i :: o) = cnt y o + 1 := by unfold cnt; rw [List.filter_cons_of_pos ey, List.length_cons]
      rw [a1, a2, one, one, e2]
      simp only [if_true]; omega
section
variable {l : List (Int × Int × Int)} {k : Nat}
/-- is line i taken, after those in T? -/
def tk? (l : List (Int × Int × Int)) (S : St) (i : Nat) : Bool := !(S.1.getD (pA l i) 0).testBit (pB l i)
/-- what is taken, and what it costs, by the lines in their order -/
theorem taken_row (hk : k ≤ 8) (hin : InC k l) : ∀ (P T : List Nat) (j : Nat) (S : St), (∀ x ∈ P, x < l.length) → (∀ x ∈ T, x < l.length) → P.Nodup → (∀ x ∈ P, S.2.1.getD x false = false) → okSt k l.length j S → Iv l k T S →
    (P.foldl (krS l) S).2.2 = S.2.2 + sumL (fun i => if (P.foldl (krS l) S).2.1.getD i false = true then cs l i else 0) P ∧
    (∀ x, x ∉ P → (P.foldl (krS l) S).2.1.getD x false = S.2.1.getD x false) ∧
    ∀ t, comps k ((P.take t).foldl (krS l) S) = comps k (P.foldl (krS l) S) + cnt (fun i => (P.foldl (krS l) S).2.1.getD i false) (P.drop t)
  | [], T, j, S, _, _, _, _, _, _ => ⟨by simp [sumL], fun x _ => rfl, fun t => by simp [cnt]⟩
  | x :: P, T, j, S, hx, hT, hn, hf, h1, h2 => by
    obtain ⟨n1, n2⟩ := List.nodup_cons.1 hn
    have hxl := hx x List.mem_cons_self
    have hfx := hf x List.mem_cons_self
    have hsl : S.2.1.length = l.length := h1.2.2.1
    have hk1 : (krS l S x).2.1.getD x false = tk? l S x ∧ (krS l S x).2.2 = S.2.2 + (if tk? l S x = true then cs l x else 0) ∧ (∀ y, y ≠ x → (krS l S x).2.1.getD y false = S.2.1.getD y false) ∧ comps k S = comps k (krS l S x) + (if tk? l S x = true then 1 else 0) := by
      unfold tk?
      by_cases c : (S.1.getD (pA l x) 0).testBit (pB l x) = true
      · have e : krS l S x = S := by unfold krS; rw [if_pos c]
        rw [e, c]
        exact ⟨hfx, by simp, fun y _ => rfl, by simp⟩
      · have hc := comps_step hk hin hT hxl h1 h2 c
        have e : krS l S x = (setAll S.1 (memb (S.1.getD (pA l x) 0 ||| S.1.getD (pB l x) 0)) (S.1.getD (pA l x) 0 ||| S.1.getD (pB l x) 0), S.2.1.set x true, S.2.2 + cs l x) := by unfold krS; rw [if_neg c]
        have cf : (S.1.getD (pA l x) 0).testBit (pB l x) = false := by simpa using c
        rw [cf]
        refine ⟨?_, ?_, fun y hy => ?_, ?_⟩
        · rw [e]; simp [List.getD, hsl, hxl]
        · rw [e]; simp
        · rw [e]
          show (S.2.1.set x true).getD y false = _
          rw [List.getD_eq_getElem?_getD, List.getElem?_set_ne (Ne.symm hy), ← List.getD_eq_getElem?_getD]
        · simp; omega
    obtain ⟨k1, k2, k3, k4⟩ := hk1
    obtain ⟨q1, q2, q3⟩ := taken_row hk hin P (T ++ [x]) (j+1) (krS l S x) (fun y hy => hx y (List.mem_cons_of_mem _ hy)) (fun y hy => (List.mem_append.1 hy).elim (hT y) fun q => by rw [List.mem_singleton.1 q]; exact hxl) n2
      (fun y hy => by rw [k3 y (fun e => n1 (e ▸ hy))]; exact hf y (List.mem_cons_of_mem _ hy)) (okSt_step hk hin hxl h1) (iv_step hk hin hxl h1 h2)
    have hfin : (P.foldl (krS l) (krS l S x)).2.1.getD x false = tk? l S x := by rw [q2 x n1, k1]
    refine ⟨?_, fun y hy => ?_, fun t => ?_⟩
    · rw [List.foldl_cons, q1, k2]
      simp only [sumL]
      rw [hfin]; omega
    · rw [List.foldl_cons, q2 y (fun q => hy (List.mem_cons_of_mem _ q)), k3 y (fun e => hy (by rw [e]; exact List.mem_cons_self))]
    · rw [List.foldl_cons]
      cases t with
      | zero =>
        have q30 := q3 0
        rw [List.take_zero, List.drop_zero, List.foldl_nil] at q30
        rw [List.take_zero, List.drop_zero]
        show comps k S = _
        rw [k4, q30]
        unfold cnt
        cases e : tk? l S x
        · rw [List.filter_cons_of_neg (by rw [hfin, e]; decide)]; simp
        · rw [List.filter_cons_of_pos (by rw [hfin, e]), List.length_cons]; simp; omega
      | succ t =>
        rw [List.take_succ_cons, List.drop_succ_cons, List.foldl_cons]
        exact q3 t
/-- Kruskal: whatever lines hang all together cost as much -/
theorem kruskal (hk : k ≤ 8) (hin : InC k l) {ord : List Nat} (hn : ord.Nodup) (hord : ∀ x, x ∈ ord ↔ x < l.length) (hp : ord.Pairwise fun a b => cs l a ≤ cs l b) (y : Nat → Bool)
    (hcon : ∀ v, v < k → Cn l ((List.range l.length).filter y) 0 v) (hk1 : 1 ≤ k) :
    (ord.foldl (krS l) (st0 k l.length)).2.2 ≤ sumL (fun i => if y i = true then cs l i else 0) ord := by
  obtain ⟨R, hR⟩ : ∃ R, ord.foldl (krS l) (st0 k l.length) = R := ⟨_, rfl⟩
  have hlt : ∀ x ∈ ord, x < l.length := fun x hx => (hord x).1 hx
  obtain ⟨q1, _, q3⟩ := taken_row hk hin ord [] 0 (st0 k l.length) hlt (fun x h => by cases h) hn (fun x hx => by
    have := hlt x hx
    simp [st0, List.getD, this]) (ok0 hk) (iv0 hk)
  rw [hR] at q1 q3
  have hcost : ∀ i ∈ ord, 0 ≤ cs l i := fun i hi => by
    have h1 := hlt i hi
    have he := hin _ (List.getElem_mem h1)
    unfold cs
    have hg : l.getD i (0, 0, 0) = l[i] := by simp [List.getD, h1]
    rw [hg]; omega
  have hmain := abel (cs l) (fun i => R.2.1.getD i false) y ord hcost hp (fun t => ?_) 0 (Int.le_refl _) hcost
  · have : (st0 k l.length).2.2 = 0 := rfl
    rw [this] at q1
    rw [hR, q1]
    simpa using hmain
  · -- of the lines behind place t as many are needed
    have h3 := q3 t
    have hPt : ∀ x ∈ ord.take t, x < l.length := fun x hx => hlt x (List.mem_of_mem_take hx)
    have hQt : ∀ x ∈ (ord.drop t).filter y, x < l.length := fun x hx => hlt x (List.mem_of_mem_drop (List.mem_filter.1 hx).1)
    obtain ⟨i1, i2, _⟩ := iv_fold hk hin (ord.take t) [] 0 (st0 k l.length) hPt (fun x h => by cases h) (ok0 hk) (iv0 hk)
    rw [List.nil_append] at i1
    obtain ⟨j1, _, j3⟩ := iv_fold hk hin ((ord.drop t).filter y) (ord.take t) _ _ hQt hPt i2 i1
    have hone : comps k (((ord.drop t).filter y).foldl (krS l) ((ord.take t).foldl (krS l) (st0 k l.length))) ≤ 1 := by
      unfold comps
      have hsub : ∀ v ∈ (List.range k).filter (rep (((ord.drop t).filter y).foldl (krS l) ((ord.take t).foldl (krS l) (st0 k l.length)))), v = 0 := fun v hv => by
        obtain ⟨v1, v2⟩ := List.mem_filter.1 hv
        have v1 := List.mem_range.1 v1
        apply Classical.byContradiction
        intro hv0
        refine (rep_iff j1 v1).1 v2 0 (by omega) ((hcon v v1).mono fun x hx => ?_)
        obtain ⟨x1, x2⟩ := List.mem_filter.1 hx
        have hxo := (hord x).2 (List.mem_range.1 x1)
        rw [← List.take_append_drop t ord] at hxo
        rcases List.mem_append.1 hxo with q | q
        · exact List.mem_append_left _ q
        · exact List.mem_append_right _ (List.mem_filter.2 ⟨q, x2⟩)
      have hnd : ((List.range k).filter (rep (((ord.drop t).filter y).foldl (krS l) ((ord.take t).foldl (krS l) (st0 k l.length))))).Nodup := List.nodup_range.filter _
      match (List.range k).filter (rep (((ord.drop t).filter y).foldl (krS l) ((ord.take t).foldl (krS l) (st0 k l.length)))), hsub, hnd with
      | [], _, _ => simp
      | [a], _, _ => simp
      | a :: b :: r, h, hnd =>
        exfalso
        have ha := h a (by simp)
        have hb := h b (by simp)
        have := (List.nodup_cons.1 hnd).1
        exact this (by rw [ha, ← hb]; exact List.mem_cons_self)
    have hpos : 1 ≤ comps k R := by
      unfold comps
      have h0 : rep R 0 = true := rfl
      have : 0 ∈ (List.range k).filter (rep R) := List.mem_filter.2 ⟨List.mem_range.2 hk1, h0⟩
      exact List.length_pos_of_mem this
    show cnt (fun i => R.2.1.getD i false) (ord.drop t) ≤ ((ord.drop t).filter y).length
    omega
end
end Go.Proofs.YtccdnokddkpmgaaDoor
/- SpanKruskal: the chosen lines are a tree -/
set_option linter.all false
set_option maxRecDepth 100000
namespace Go.Proofs.YtccdnokddkpmgaaDoor
open Go.RowKit Pl
section
variable {k : Nat} {l : List (Int × Int × Int)}
/-! ### the document's Costs -/
theorem costs_L1 (n : Int) (hn : 1 ≤ n ∧ n ≤ 8) (l : List Cost) (hl : l.length ≤ 24) : ∀ g t, l.length < g + t → t ≤ l.length →
    ∃ z, R3_Costs_L1 300 n l g (t : Int) = some (if errCs n (l.drop t) = 0 then .inl z else .inr (errCs n (l.drop t)))
  | 0, t, h, _ => by omega
  | g+1, t, h, ht => by
    rw [R3_Costs_L1_s]
    by_cases hlt : t < l.length
    · rw [if_pos (by omega), ix_nat hlt, List.drop_eq_getElem_cons hlt, w64n (by omega), w64 (by omega) (by omega)]
      obtain ⟨z, ih⟩ := costs_L1 n hn l hl g (t+1) (by omega) (by omega)
      push_cast at ih
      generalize l[t] = e at *
      simp only [Option.bind_some, R3_in_ev]
      unfold errCs
      refine ⟨z, ?_⟩
      by_cases h1 : 0 ≤ e.1 ∧ e.1 ≤ n - 1
      · by_cases h2 : 0 ≤ e.2.1 ∧ e.2.1 ≤ n - 1
        · by_cases h3 : 0 ≤ e.2.2 ∧ e.2.2 ≤ 20
          · rw [if_pos (decide_eq_true h1), if_pos (decide_eq_true h2), if_neg (not_not_intro (And.intro (And.intro h1 h2) h3))]
            simp only [Option.bind_some]
            rw [if_neg (by decide), if_pos (decide_eq_true h3)]
            simp only [Option.bind_some]
            rw [if_neg (by decide)]
            by_cases h4 : e.1 = e.2.1
            · rw [if_pos (by simpa using h4), if_pos h4]; simp
            · rw [if_neg (by simpa using h4), if_neg h4]; exact ih
          · rw [if_pos (decide_eq_true h1), if_pos (decide_eq_true h2), if_pos (fun h => h3 h.2)]
            simp only [Option.bind_some]
            rw [if_neg (by decide), if_neg (by simpa using h3)]
            simp
        · rw [if_pos (decide_eq_true h1), if_neg (by simpa using h2), if_pos (fun h => h2 h.1.2)]
          simp
      · rw [if_neg (by simpa using h1), if_pos (fun h => h1 h.1.1)]
        simp
    · obtain rfl : t = l.length := by omega
      rw [if_neg (by omega), List.drop_length]; exact ⟨_, rfl⟩
theorem R3_Costs_ev (n : Int) (l : List Cost) : R3_Costs 300 n l = some (errC n l) := by
  unfold R3_Costs errC
  rw [R3_in_ev, Option.bind_some]
  by_cases hn : 1 ≤ n ∧ n ≤ 8
  · rw [if_pos (by simpa using hn), if_neg (not_not_intro hn)]
    by_cases hl : 24 < l.length
    · rw [if_pos (by omega), if_pos hl]
    · obtain ⟨z, h⟩ := costs_L1 n hn l (by omega) 300 0 (by omega) (by omega)
      have h' : R3_Costs_L1 300 n l 300 0 = _ := h
      rw [if_neg (by omega), if_neg hl, h', List.drop_zero]
      by_cases e : errCs n l = 0 <;> simp [e]
  · rw [if_neg (by simpa using hn), if_pos hn]
/-! ### taken: exactly when the ends do not hang together before -/
theorem stays {b : Nat} : ∀ (Q : List Nat) (S : St), b ∉ Q → (Q.foldl (krS l) S).2.1.getD b false = S.2.1.getD b false
  | [], S, _ => rfl
  | x :: Q, S, h => by
    rw [List.foldl_cons, stays Q _ fun q => h (List.mem_cons_of_mem _ q)]
    have hx : x ≠ b := fun q => h (by rw [q]; exact List.mem_cons_self)
    unfold krS; split
    · rfl
    · show (S.2.1.set x true).getD b false = _
      rw [List.getD_eq_getElem?_getD, List.getElem?_set_ne hx, ← List.getD_eq_getElem?_getD]
theorem taken_iff (hk : k ≤ 8) (hin : InC k l) {P Q : List Nat} {b : Nat} (hP : ∀ x ∈ P, x < l.length) (hb : b < l.length) (hn : (P ++ b :: Q).Nodup) :
    ((P ++ b :: Q).foldl (krS l) (st0 k l.length)).2.1.getD b false = true ↔ ¬ Cn l P (pA l b) (pB l b) := by
  refine ⟨fun h hc => ?_, taken hk hin hP hb⟩
  obtain ⟨h1, h2, _⟩ := iv_fold hk hin P [] 0 (st0 k l.length) hP (fun x h => by cases h) (ok0 hk) (iv0 hk)
  rw [List.nil_append] at h1
  rw [List.foldl_append, List.foldl_cons] at h
  have hbQ : b ∉ Q := (List.nodup_cons.1 (List.nodup_append.1 hn).2.1).1
  have hbP : b ∉ P := fun q => (List.nodup_append.1 hn).2.2 b q b List.mem_cons_self rfl
  rw [stays Q _ hbQ] at h
  have h0 := stays (l := l) P (st0 k l.length) hbP
  have he := hin _ (List.getElem_mem hb)
  have hgb : l.getD b (0, 0, 0) = l[b] := by simp [List.getD, hb]
  have hAk : pA l b < k := by unfold pA; rw [hgb]; omega
  have hBk : pB l b < k := by unfold pB; rw [hgb]; omega
  have hbit := (h1.2 _ hAk _ hBk).2 hc
  obtain ⟨S, hS⟩ : ∃ S, P.foldl (krS l) (st0 k l.length) = S := ⟨_, rfl⟩
  rw [hS] at h h0 hbit
  have e : krS l S b = S := by unfold krS; rw [if_pos hbit]
  rw [e, h0] at h
  have : (st0 k l.length).2.1.getD b false = false := by simp [st0, List.getD, hb]
  rw [this] at h; cases h
theorem rev_ind {α : Type} {p : List α → Prop} (h0 : p []) (hs : ∀ l a, p l → p (l ++ [a])) (l : List α) : p l := by
  have key : ∀ r : List α, p r.reverse := fun r => by
    induction r with
    | nil => exact h0
    | cons a r ih => rw [List.reverse_cons]; exact hs _ _ ih
  have := key l.reverse
  rwa [List.reverse_reverse] at this
/-- the lines that are taken hang together what all do, at every time -/
theorem gen (hk : k ≤ 8) (hin : InC k l) {ord : List Nat} (hn : ord.Nodup) (hord : ∀ x ∈ ord, x < l.length) (T : List Nat)
    (hT : ∀ i ∈ ord, (ord.foldl (krS l) (st0 k l.length)).2.1.getD i false = true → i ∈ T) :
    ∀ (P Q : List Nat), ord = P ++ Q → ∀ a b, Cn l P a b → Cn l (T.filter fun x => decide (x ∈ P)) a b := by
  refine rev_ind (fun Q e a b h => h.mono fun x hx => by cases hx) fun P i ih Q e a b h => ?_
  · skip
    rw [List.append_assoc] at e
    have ih := ih _ e
    have hmono : ∀ {a b}, Cn l (T.filter fun x => decide (x ∈ P)) a b → Cn l (T.filter fun x => decide (x ∈ P ++ [i])) a b := fun h => h.mono fun x hx => by
      obtain ⟨h1, h2⟩ := List.mem_filter.1 hx
      exact List.mem_filter.2 ⟨h1, decide_eq_true (List.mem_append_left _ (of_decide_eq_true h2))⟩
    have hiO : i ∈ ord := by rw [e]; exact List.mem_append_right _ (List.mem_append_left _ (List.mem_singleton.2 rfl))
    have hPl : ∀ x ∈ P, x < l.length := fun x hx => hord x (by rw [e]; exact List.mem_append_left _ hx)
    have hiff := taken_iff (P := P) (Q := Q) hk hin hPl (hord i hiO) (by have := hn; rw [e] at this; exact this)
    have e' : P ++ i :: Q = ord := e.symm
    rw [e'] at hiff
    have hAB : Cn l (T.filter fun x => decide (x ∈ P ++ [i])) (pA l i) (pB l i) := by
      by_cases ht : (ord.foldl (krS l) (st0 k l.length)).2.1.getD i false = true
      · exact Cn.line (List.mem_filter.2 ⟨hT i hiO ht, decide_eq_true (List.mem_append_right _ (List.mem_singleton.2 rfl))⟩)
      · have : Cn l P (pA l i) (pB l i) := Classical.byContradiction fun q => ht (hiff.2 q)
        exact hmono (ih _ _ this)
    rcases Cn.more.1 h with q | ⟨q1, q2⟩ | ⟨q1, q2⟩
    · exact hmono (ih _ _ q)
    · exact (hmono (ih _ _ q1)).trans (hAB.trans (hmono (ih _ _ q2)))
    · exact (hmono (ih _ _ q1)).trans (hAB.symm.trans (hmono (ih _ _ q2)))
/-! ### the chosen lines -/
def tkl (l : List (Int × Int × Int)) (y : List Bool) : List Nat := (List.range l.length).filter fun i => y.getD i false
def ln (l : List (Int × Int × Int)) (i : Nat) : Int × Int := ((l.getD i (0, 0, 0)).1, (l.getD i (0, 0, 0)).2.1)
def chM (l : List (Int × Int × Int)) (y : List Bool) : List (Int × Int) := (tkl l y).map (ln l)
theorem drop_filter (y : List Bool) (n j : Nat) (hj : y.length ≤ j) : ((List.range' j n).filter fun i => y.getD i false) = [] := by
  rw [List.filter_eq_nil_iff]
  intro i hi
  have := (List.mem_range'_1.1 hi).1
  rw [List.getD_eq_getElem?_getD, List.getElem?_eq_none (by omega)]; simp
theorem tkl_lt {y : List Bool} {i : Nat} (h : i ∈ tkl l y) : i < l.length := List.mem_range.1 (List.mem_filter.1 h).1
theorem ln_in (hin : InC k l) {i : Nat} (hi : i < l.length) : (ln l i).1 = ((pA l i : Nat) : Int) ∧ (ln l i).2 = ((pB l i : Nat) : Int) ∧ pA l i < k ∧ pB l i < k ∧ pA l i ≠ pB l i := by
  have he := hin _ (List.getElem_mem hi)
  have hg : l.getD i (0, 0, 0) = l[i] := by simp [List.getD, hi]
  unfold ln pA pB
  rw [hg]
  refine ⟨?_, ?_, ?_, ?_, ?_⟩
  · show l[i].1 = _; omega
  · show l[i].2.1 = _; omega
  · omega
  · omega
  · omega
theorem ch_in (hin : InC k l) (y : List Bool) : InL k (chM l y) := fun p hp => by
  obtain ⟨i, hi, rfl⟩ := List.mem_map.1 hp
  obtain ⟨h1, h2, h3, h4, _⟩ := ln_in hin (tkl_lt hi)
  rw [h1, h2]; omega
theorem ch_len (y : List Bool) : (chM l y).length ≤ l.length := by
  unfold chM tkl
  rw [List.length_map]
  have := List.length_filter_le (fun i => y.getD i false) (List.range l.length)
  rwa [List.length_range] at this
theorem ch_ad (hin : InC k l) (y : List Bool) (a b : Nat) : Ad k (chM l y) a b ↔ ∃ i ∈ tkl l y, pA l i = a ∧ pB l i = b ∨ pA l i = b ∧ pB l i = a := by
  rw [ad_iff (ch_in hin y)]
  constructor
  · rintro ⟨p, hp, hh⟩
    obtain ⟨i, hi, rfl⟩ := List.mem_map.1 hp
    obtain ⟨h1, h2, _⟩ := ln_in hin (tkl_lt hi)
    rw [h1, h2] at hh
    exact ⟨i, hi, by omega⟩
  · rintro ⟨i, hi, hh⟩
    obtain ⟨h1, h2, _⟩ := ln_in hin (tkl_lt hi)
    refine ⟨ln l i, List.mem_map.2 ⟨i, hi, rfl⟩, ?_⟩
    rw [h1, h2]; omega
theorem errL_of {l' : List (Int × Int)} : (∀ p ∈ l', 0 ≤ p.1 ∧ p.1 < (k : Int) ∧ 0 ≤ p.2 ∧ p.2 < (k : Int)) → (∀ p ∈ l', p.1 ≠ p.2) → errLines (k : Int) l' = 0 := by
  induction l' with
  | nil => intro _ _; rfl
  | cons p l' ih =>
    intro h1 h2
    have := h1 p List.mem_cons_self
    unfold errLines
    rw [if_neg (by omega), if_neg (h2 p List.mem_cons_self)]
    exact ih (fun q hq => h1 q (List.mem_cons_of_mem _ hq)) fun q hq => h2 q (List.mem_cons_of_mem _ hq)
theorem ch_err (h1 : 1 ≤ k) (hk : k ≤ 8) (h24 : l.length ≤ 24) (hin : InC k l) (y : List Bool) : errG (k : Int) (chM l y) = 0 := by
  have := ch_len (l := l) y
  unfold errG
  rw [if_neg (by omega), if_neg (by omega)]
  refine errL_of (ch_in hin y) fun p hp => ?_
  obtain ⟨i, hi, rfl⟩ := List.mem_map.1 hp
  obtain ⟨q1, q2, _, _, q5⟩ := ln_in hin (tkl_lt hi)
  rw [q1, q2]; omega
theorem ch_good (hk : k ≤ 8) (h24 : l.length ≤ 24) (y : List Bool) : good (k : Int) (chM l y) := by
  have := ch_len (l := l) y
  refine ⟨?_, by unfold maxLen; omega⟩
  have h1 : IntKind.i64.min = -9223372036854775808 := by decide
  have h2 : IntKind.i64.max = 9223372036854775807 := by decide
  simp only [Lit.wf]; exact decide_eq_true (by omega)
theorem ch_conn (hin : InC k l) (y : List Bool) : Conn k (chM l y) ↔ ∀ v, v < k → Cn l (tkl l y) 0 v := by
  constructor
  · intro h v hv
    refine h (fun v => Cn l (tkl l y) 0 v) (.refl 0) (fun i j hi hij => ?_) v hv
    obtain ⟨x, hx, hh⟩ := (ch_ad hin y i j).1 hij
    exact .step hi hx hh
  · intro h P h0 hs v hv
    have key : ∀ {a b}, Cn l (tkl l y) a b → P a → P b := by
      intro a b hc
      induction hc with
      | refl => exact id
      | step _ hi hj ih => exact fun ha => hs _ _ (ih ha) ((ch_ad hin y _ _).2 ⟨_, hi, hj⟩)
    exact key (h v hv) h0
end
end Go.Proofs.YtccdnokddkpmgaaDoor
/- SpanKruskal -/
set_option linter.all false
set_option maxRecDepth 100000
namespace Go.Proofs.YtccdnokddkpmgaaDoor
open Go.RowKit Pl
section
variable {k : Nat} {l : List (Int × Int × Int)}
theorem comps_one {T : List Nat} {S : St} (h : Iv l k T S) (hk1 : 1 ≤ k) (hc : ∀ v, v < k → Cn l T 0 v) : comps k S = 1 := by
  obtain ⟨n, rfl⟩ : ∃ n, k = n + 1 := ⟨k - 1, by omega⟩
  unfold comps
  rw [List.range_succ_eq_map, List.filter_cons_of_pos rfl, List.length_cons]
  have : (((List.range n).map Nat.succ).filter (rep S)) = [] := by
    rw [List.filter_eq_nil_iff]
    intro v hv hr
    obtain ⟨x, hx, rfl⟩ := List.mem_map.1 hv
    have hx := List.mem_range.1 hx
    exact (rep_iff h (by omega)).1 hr 0 (by omega) (hc _ (by omega))
  rw [this]; rfl
theorem comps_zero : comps k (st0 k l.length) = k := by
  unfold comps
  rw [List.filter_eq_self.2, List.length_range]
  intro v hv
  have hv := List.mem_range.1 hv
  unfold rep
  rw [List.all_eq_true]
  intro u hu
  have hu := List.mem_range.1 hu
  have e : (st0 k l.length).1.getD u 0 = 2 ^ u := by simp [st0, List.getD, show u < k by omega]
  rw [e, Nat.testBit_two_pow, decide_eq_false (by omega)]; rfl
theorem ord_perm {ord : List Nat} (hn : ord.Nodup) (hord : ∀ x, x ∈ ord ↔ x < l.length) : ord.Perm (List.range l.length) :=
  (List.perm_ext_iff_of_nodup hn List.nodup_range).2 fun x => by rw [hord, List.mem_range]
theorem sumL_perm (f : Nat → Int) {a b : List Nat} (h : a.Perm b) : sumL f a = sumL f b := by
  induction h with
  | nil => rfl
  | cons x _ ih => simp only [sumL]; rw [ih]
  | swap x y l => simp only [sumL]; omega
  | trans _ _ h1 h2 => rw [h1, h2]
/-- all hang together: then the taken lines are a tree -/
theorem all_cn (hk : k ≤ 8) (hin : InC k l) {ord : List Nat} (hn : ord.Nodup) (hord : ∀ x, x ∈ ord ↔ x < l.length) (hfull : (ord.foldl (krS l) (st0 k l.length)).1.getD 0 0 = 2 ^ k - 1) (h1 : 1 ≤ k) :
    Iv l k ord (ord.foldl (krS l) (st0 k l.length)) ∧ (∀ v, v < k → Cn l ord 0 v) := by
  obtain ⟨i1, i2, _⟩ := iv_fold hk hin ord [] 0 (st0 k l.length) (fun x hx => (hord x).1 hx) (fun x h => by cases h) (ok0 hk) (iv0 hk)
  rw [List.nil_append] at i1
  refine ⟨i1, fun v hv => (i1.2 0 (by omega) v hv).1 ?_⟩
  rw [hfull, full_bit]; exact decide_eq_true hv
theorem span_tree (h1 : 1 ≤ k) (hk : k ≤ 8) (h24 : l.length ≤ 24) (hin : InC k l) {ord : List Nat} (hn : ord.Nodup) (hord : ∀ x, x ∈ ord ↔ x < l.length) (hfull : (ord.foldl (krS l) (st0 k l.length)).1.getD 0 0 = 2 ^ k - 1) :
    Good k (chM l (ord.foldl (krS l) (st0 k l.length)).2.1) := by
  have hlt : ∀ x ∈ ord, x < l.length := fun x hx => (hord x).1 hx
  obtain ⟨iv, hc⟩ := all_cn hk hin hn hord hfull h1
  have hT : ∀ i ∈ ord, (ord.foldl (krS l) (st0 k l.length)).2.1.getD i false = true → i ∈ tkl l (ord.foldl (krS l) (st0 k l.length)).2.1 := fun i hi h => List.mem_filter.2 ⟨List.mem_range.2 (hlt i hi), h⟩
  have hgen := gen hk hin hn hlt _ hT ord [] (by simp)
  obtain ⟨_, _, q3⟩ := taken_row hk hin ord [] 0 (st0 k l.length) hlt (fun x h => by cases h) hn (fun x hx => by
    have := hlt x hx
    simp [st0, List.getD, this]) (ok0 hk) (iv0 hk)
  have q := q3 0
  rw [List.take_zero, List.drop_zero, List.foldl_nil, comps_zero, comps_one iv h1 hc] at q
  have hlen : (chM l (ord.foldl (krS l) (st0 k l.length)).2.1).length = cnt (fun i => (ord.foldl (krS l) (st0 k l.length)).2.1.getD i false) ord := by
    unfold chM tkl cnt
    rw [List.length_map]
    exact ((ord_perm hn hord).symm.filter _).length_eq
  have herr := ch_err h1 hk h24 hin (ord.foldl (krS l) (st0 k l.length)).2.1
  refine ⟨ch_good hk h24 _, herr, h1, hk, ch_in hin _, fun p hp => ?_, by omega, (ch_conn hin _).2 fun v hv => (hgen _ _ (hc v hv)).mono fun x hx => (List.mem_filter.1 hx).1⟩
  obtain ⟨i, hi, rfl⟩ := List.mem_map.1 hp
  obtain ⟨p1, p2, _, _, p5⟩ := ln_in hin (tkl_lt hi)
  rw [p1, p2]; omega
theorem good_errT {l' : List (Int × Int)} (G : Good k l') : errT (k : Int) l' = 0 := by
  unfold errT
  rw [if_neg (by rw [G.err]; simp), Int.toNat_natCast, if_pos ⟨G.len, G.conn⟩]
/-- who stands before i in the order -/
theorem before_iff {ord P Q : List Nat} {i : Nat} (hn : ord.Nodup) (hp : ord.Pairwise fun a b => cs l a < cs l b ∨ (cs l a = cs l b ∧ a < b)) (e : ord = P ++ i :: Q) (x : Nat) :
    x ∈ P ↔ x ∈ ord ∧ (cs l x < cs l i ∨ (cs l x = cs l i ∧ x < i)) := by
  rw [e] at hp hn
  constructor
  · intro hx
    exact ⟨by rw [e]; exact List.mem_append_left _ hx, (List.pairwise_append.1 hp).2.2 x hx i List.mem_cons_self⟩
  · rintro ⟨hx, hc⟩
    rw [e] at hx
    rcases List.mem_append.1 hx with q | q
    · exact q
    · exfalso
      rcases List.mem_cons.1 q with rfl | q
      · omega
      · have := (List.pairwise_cons.1 (List.pairwise_append.1 hp).2.1).1 x q
        omega
/-! ### the law's loops -/
end
end Go.Proofs.YtccdnokddkpmgaaDoor
/- SpanNeck -/
set_option linter.all false
set_option maxRecDepth 100000
namespace Go.Proofs.YtccdnokddkpmgaaDoor
open Go.RowKit Pl
/-- two that are joined, one on each side of the step from v to p: it is that step -/
theorem Tr.cross {k : Nat} {A : Nat → Nat → Prop} {d : Nat → Nat → Nat} (T : Tr k A d) {v p x y : Nat} (hv : v < k) (hA : A x y) (hx : T.up x v p) (hy : ¬ T.up y v p) : x = p ∧ y = v := by
  obtain ⟨hxk, hyk⟩ := T.lt _ _ hA
  have hpk := T.up_lt hx
  have h1 := hx.2
  have h2 := T.far hyk hx.1 hy
  have s1 := T.step v y x hv (T.sym _ _ hA)
  have s2 := T.step p x y hpk hA
  have e1 := T.symd hv hxk; have e2 := T.symd hv hyk; have e3 := T.symd hpk hxk; have e4 := T.symd hpk hyk
  have hup : T.up v x y := ⟨T.sym _ _ hA, by omega⟩
  by_cases e : x = p
  · subst e
    rw [T.zero x hxk] at h1
    have hq := hup.2
    exact ⟨rfl, T.eq_of_zero hv hyk (by omega)⟩
  · exfalso
    obtain ⟨z, hz⟩ := T.up_ex hpk hxk e
    have hzk := T.up_lt hz
    have h3 := T.tri hv hpk hzk
    have h4 := T.one hx.1
    have e5 := T.symd hpk hv
    have h5 := hz.2
    have h6 := T.step v z x hv hz.1
    have : z = y := T.uniq v z y x hv hz.1 hup.1 (by omega) hup.2
    subst this
    omega
section
variable {k : Nat} {l : List (Int × Int × Int)}
def joins (l : List (Int × Int × Int)) (i x y : Nat) : Prop := pA l i = x ∧ pB l i = y ∨ pA l i = y ∧ pB l i = x
/-- who goes from v to r by lines of a tree goes by every step of the way -/
theorem walk_cross (hin : InC k l) {y : List Bool} (G : Good k (chM l y)) {T' : List Nat} (hT : ∀ i ∈ T', i ∈ tkl l y) {v p : Nat} (hv : v < k) : ∀ {c : Nat}, Cn l T' v c →
    (¬ (tr_of G).up c v p) ∨ ∃ i ∈ T', joins l i v p := by
  intro c h
  induction h with
  | refl => left; intro h; have := h.2; rw [(tr_of G).zero _ hv] at this; omega
  | @step b c i _ hi hj ih =>
    rcases ih with q | q
    · by_cases hc : (tr_of G).up c v p
      · right
        have hA : Ad k (chM l y) c b := (ch_ad hin y c b).2 ⟨i, hT i hi, hj.symm⟩
        obtain ⟨e1, e2⟩ := (tr_of G).cross hv hA hc q
        subst e1; subst e2
        exact ⟨i, hi, hj⟩
      · exact .inl hc
    · exact .inr q
theorem way_lines (hin : InC k l) {y : List Bool} (G : Good k (chM l y)) {T' : List Nat} (hT : ∀ i ∈ T', i ∈ tkl l y) {r : Nat} (hr : r < k) {v : Nat} {w : List Int} (hw : (tr_of G).Way r v w) : v < k → Cn l T' v r →
    ∀ (j : Nat) (h : j + 1 < w.length), ∃ (x z i : Nat), w[j] = (x : Int) ∧ w[j+1] = (z : Int) ∧ i ∈ T' ∧ joins l i x z := by
  induction hw with
  | root => intro _ _ j h; simp at h
  | @step v u w hu hw ih =>
    intro hv hc j h
    obtain ⟨i, hi, hj⟩ := (walk_cross hin G hT hv hc).resolve_left (not_not_intro hu)
    have huk := (tr_of G).up_lt hu
    have hc' : Cn l T' u r := (Cn.step (.refl u) hi (hj.elim (fun q => .inr ⟨q.1, q.2⟩) fun q => .inl ⟨q.1, q.2⟩)).trans hc
    cases j with
    | zero =>
      refine ⟨v, u, i, rfl, ?_, hi, hj⟩
      cases hw <;> rfl
    | succ j =>
      obtain ⟨x, z, i', h1, h2, h3, h4⟩ := ih huk hc' j (by rw [List.length_cons] at h; omega)
      exact ⟨x, z, i', by simpa using h1, by simpa using h2, h3, h4⟩
/-- of two lines with the same ends one is not taken -/
theorem one_line (hk : k ≤ 8) (hin : InC k l) {ord : List Nat} (hn : ord.Nodup) (hord : ∀ x, x ∈ ord ↔ x < l.length) {i i' x z : Nat} (hi : i ∈ tkl l (ord.foldl (krS l) (st0 k l.length)).2.1) (hi' : i' ∈ tkl l (ord.foldl (krS l) (st0 k l.length)).2.1)
    (h : joins l i x z) (h' : joins l i' x z) : i = i' := by
  have key : ∀ i i', i ∈ tkl l (ord.foldl (krS l) (st0 k l.length)).2.1 → i' ∈ tkl l (ord.foldl (krS l) (st0 k l.length)).2.1 → joins l i x z → joins l i' x z → ∀ P Q, ord = P ++ i' :: Q → i ∉ P := by
    intro i i' hi hi' h h' P Q e hm
    have ht := (List.mem_filter.1 hi').2
    have hb := tkl_lt hi'
    have hP : ∀ x ∈ P, x < l.length := fun x hx => (hord x).1 (by rw [e]; exact List.mem_append_left _ hx)
    have hiff := taken_iff (P := P) (Q := Q) hk hin hP hb (by rw [← e]; exact hn)
    rw [← e] at hiff
    refine hiff.1 ht (Cn.step (.refl _) hm ?_)
    unfold joins at h h'; omega
  apply Classical.byContradiction
  intro hne
  obtain ⟨P, Q, e⟩ := List.append_of_mem ((hord i').2 (tkl_lt hi'))
  obtain ⟨P2, Q2, e2⟩ := List.append_of_mem ((hord i).2 (tkl_lt hi))
  have h1 := key i i' hi hi' h h' P Q e
  have h2 := key i' i hi' hi h' h P2 Q2 e2
  have m1 : i ∈ P ++ i' :: Q := by rw [← e, e2]; simp
  have m2 : i ∈ Q := by
    rcases List.mem_append.1 m1 with q | q
    · exact absurd q h1
    · exact (List.mem_cons.1 q).resolve_left hne
  obtain ⟨Q3, Q4, e3⟩ := List.append_of_mem m2
  have e4 : ord = (P ++ i' :: Q3) ++ i :: Q4 := by rw [e, e3]; simp
  exact key i' i hi' hi h' h _ _ e4 (List.mem_append_right _ List.mem_cons_self)
/-! ### Neck -/
def chp (l : List (Int × Int × Int)) (m : Int) : List Nat := (List.range l.length).filter fun i => decide (cs l i ≤ m)
theorem chp_lt {m : Int} {i : Nat} (h : i ∈ chp l m) : i < l.length := List.mem_range.1 (List.mem_filter.1 h).1
theorem nk_L2 (m : Int) (h24 : l.length ≤ 24) : ∀ (g j : Nat) (v : List (Int × Int)), l.length < j + g → j ≤ l.length → v.length ≤ j →
    span_Neck_L2 300 l m g (j : Int) v = some (v ++ ((List.range' j (l.length - j)).filter fun i => decide (cs l i ≤ m)).map (ln l))
  | 0, j, v, h, hj, _ => by omega
  | g+1, j, v, h, hj, hv => by
    rw [span_Neck_L2_s]
    by_cases c : j < l.length
    · have hil : ix l (j : Int) = some (l.getD j (0, 0, 0)) := ix_at (0, 0, 0) c
      rw [if_pos (by omega), hil, Option.bind_some, w64n (by omega)]
      rw [show l.length - j = (l.length - (j+1)) + 1 by omega, List.range'_succ]
      have hcs : cs l j = (l.getD j (0, 0, 0)).2.2 := rfl
      rw [← hcs]
      by_cases e : cs l j ≤ m
      · have ha : app v ((l.getD j (0, 0, 0)).1, (l.getD j (0, 0, 0)).2.1) = some (v ++ [ln l j]) := by unfold app; rw [if_pos (by omega)]; rfl
        rw [if_pos e, List.filter_cons_of_pos (p := fun i => decide (cs l i ≤ m)) (decide_eq_true e), ha, Option.bind_some, nk_L2 m h24 g (j+1) (v ++ [ln l j]) (by omega) (by omega) (by rw [List.length_append]; simp; omega), List.map_cons, List.append_assoc]; rfl
      · rw [if_neg e, List.filter_cons_of_neg (p := fun i => decide (cs l i ≤ m)) (by simpa using e)]
        exact nk_L2 m h24 g (j+1) v (by omega) (by omega) (by omega)
    · have : j = l.length := by omega
      subst this
      rw [if_neg (by omega), Nat.sub_self]; simp
theorem T_in (hin : InC k l) {T : List Nat} (hT : ∀ i ∈ T, i < l.length) : InL k (T.map (ln l)) := fun p hp => by
  obtain ⟨i, hi, rfl⟩ := List.mem_map.1 hp
  obtain ⟨h1, h2, h3, h4, _⟩ := ln_in hin (hT i hi)
  rw [h1, h2]; omega
theorem T_ad (hin : InC k l) {T : List Nat} (hT : ∀ i ∈ T, i < l.length) (a b : Nat) : Ad k (T.map (ln l)) a b ↔ ∃ i ∈ T, joins l i a b := by
  rw [ad_iff (T_in hin hT)]
  unfold joins
  constructor
  · rintro ⟨p, hp, hh⟩
    obtain ⟨i, hi, rfl⟩ := List.mem_map.1 hp
    obtain ⟨h1, h2, _⟩ := ln_in hin (hT i hi)
    rw [h1, h2] at hh
    exact ⟨i, hi, by omega⟩
  · rintro ⟨i, hi, hh⟩
    obtain ⟨h1, h2, _⟩ := ln_in hin (hT i hi)
    refine ⟨ln l i, List.mem_map.2 ⟨i, hi, rfl⟩, ?_⟩
    rw [h1, h2]; omega
theorem T_err (h1 : 1 ≤ k) (hk : k ≤ 8) (hin : InC k l) {T : List Nat} (hT : ∀ i ∈ T, i < l.length) (hl : T.length ≤ 24) : errG (k : Int) (T.map (ln l)) = 0 := by
  unfold errG
  rw [if_neg (by omega), if_neg (by rw [List.length_map]; omega)]
  refine errL_of (T_in hin hT) fun p hp => ?_
  obtain ⟨i, hi, rfl⟩ := List.mem_map.1 hp
  obtain ⟨q1, q2, _, _, q5⟩ := ln_in hin (hT i hi)
  rw [q1, q2]; omega
theorem good_small (hk : k ≤ 8) {l' : List (Int × Int)} (h : l'.length ≤ 24) : good (k : Int) l' := by
  refine ⟨?_, by unfold maxLen; omega⟩
  have h1 : IntKind.i64.min = -9223372036854775808 := by decide
  have h2 : IntKind.i64.max = 9223372036854775807 := by decide
  simp only [Lit.wf]; exact decide_eq_true (by omega)
theorem chp_len (m : Int) : (chp l m).length ≤ l.length := by
  have := List.length_filter_le (fun i => decide (cs l i ≤ m)) (List.range l.length)
  rwa [List.length_range] at this
theorem nk_L1 (h1 : 1 ≤ k) (hk : k ≤ 8) (h24 : l.length ≤ 24) (hin : InC k l) {a b : Nat} (ha : a < k) (hb : b < k) (hab : Cn l (chp l 20) a b) : ∀ (g j : Nat), 21 < j + g → j ≤ 20 → (∀ m : Nat, m < j → ¬ Cn l (chp l m) a b) →
    ∃ c : Nat, span_Neck_L1 300 (k : Int) l (a : Int) (b : Int) g (j : Int) = some (.inr ((c : Int), 0)) ∧ c ≤ 20 ∧ Cn l (chp l c) a b ∧ ∀ m : Nat, m < c → ¬ Cn l (chp l m) a b
  | 0, j, h, hj, _ => by omega
  | g+1, j, h, hj, hI => by
    have hT : ∀ i ∈ chp l (j : Int), i < l.length := fun i hi => chp_lt hi
    have hTl := chp_len (l := l) (j : Int)
    rw [span_Neck_L1_s, if_pos (by omega)]
    have e2 := nk_L2 (j : Int) h24 300 0 [] (by omega) (Nat.zero_le _) (Nat.zero_le _)
    rw [List.nil_append, Nat.sub_zero, ← List.range_eq_range'] at e2
    rw [show span_Neck_L2 300 l (j : Int) 300 0 [] = some ((chp l (j : Int)).map (ln l)) from e2, Option.bind_some]
    have hg : good (k : Int) ((chp l (j : Int)).map (ln l)) := good_small hk (by rw [List.length_map]; omega)
    obtain ⟨R, r1, r2, r3, r4, r5⟩ := reach_full (a := a) (T_in hin hT) (by omega) ha
    have hp := Nat.pow_le_pow_right (n := 2) (by omega) hk
    have hHas : sHas R (b : Int) = some (R.testBit b) := by unfold sHas; rw [if_pos ⟨by omega, by omega, by omega⟩, Int.toNat_natCast]
    rw [mBeside_ev hg (T_err h1 hk hin hT (by omega)), Option.bind_some, sBelow_ev (by omega), Option.bind_some, r1, Option.bind_some, hHas, Option.bind_some]
    have hiff : R.testBit b = true ↔ Cn l (chp l (j : Int)) a b := by
      constructor
      · intro h
        refine r5 (fun x => Cn l (chp l (j : Int)) a x) (.refl a) (fun x z hx hxz => ?_) b h
        obtain ⟨i, hi, hh⟩ := (T_ad hin hT x z).1 hxz
        exact .step hx hi hh
      · intro h
        have key : ∀ {x z}, Cn l (chp l (j : Int)) x z → R.testBit x = true → R.testBit z = true := by
          intro x z hc
          induction hc with
          | refl => exact id
          | step _ hi hj ih => exact fun hx => r4 _ _ (ih hx) ((T_ad hin hT _ _).2 ⟨_, hi, hj⟩)
        exact key h r3
    by_cases c : Cn l (chp l (j : Int)) a b
    · rw [if_pos (hiff.2 c)]
      exact ⟨j, rfl, hj, c, hI⟩
    · rw [if_neg (fun q => c (hiff.1 q)), w64n (by omega)]
      have hj20 : j ≠ 20 := fun e => by subst e; exact c hab
      exact nk_L1 h1 hk h24 hin ha hb hab g (j+1) (by omega) (by omega) fun m hm => by
        by_cases e : m = j
        · subst e; exact c
        · exact hI m (by omega)
theorem chp_all (hin : InC k l) : ∀ i, i < l.length → i ∈ chp l 20 := fun i hi => by
  refine List.mem_filter.2 ⟨List.mem_range.2 hi, decide_eq_true ?_⟩
  have he := hin _ (List.getElem_mem hi)
  have hg : l.getD i (0, 0, 0) = l[i] := by simp [List.getD, hi]
  unfold cs; rw [hg]; omega
theorem neck_ev (h1 : 1 ≤ k) (hk : k ≤ 8) (h24 : l.length ≤ 24) (hin : InC k l) (hch : span_Check 300 (k : Int) l = some 0) {a b : Nat} (ha : a < k) (hb : b < k) (hab : Cn l (chp l 20) a b) :
    ∃ c : Nat, span_Neck 300 (k : Int) l (a : Int) (b : Int) = some ((c : Int), 0) ∧ c ≤ 20 ∧ Cn l (chp l c) a b ∧ ∀ m : Nat, m < c → ¬ Cn l (chp l m) a b := by
  obtain ⟨c, c1, c2, c3, c4⟩ := nk_L1 h1 hk h24 hin ha hb hab 300 0 (by omega) (by omega) fun m hm => by omega
  refine ⟨c, ?_, c2, c3, c4⟩
  unfold span_Neck
  rw [hch, Option.bind_some, if_neg (by decide), w64 (by omega) (by omega), core_All_ev 0 _ (by simp) (by simp), Option.bind_some]
  have hal : allIn [(a : Int), (b : Int)] 0 ((k : Int) - 1) = true := by
    simp [allIn]; omega
  rw [hal, if_pos rfl, show span_Neck_L1 300 (k : Int) l (a : Int) (b : Int) 300 0 = _ from c1, Option.bind_some]
/-! ### the law's loops -/
def jn (l : List (Int × Int × Int)) (w : List Int) (i j : Nat) : Prop := (l.getD i (0, 0, 0)).1 = w.getD j 0 ∧ (l.getD i (0, 0, 0)).2.1 = w.getD (j-1) 0 ∨ (l.getD i (0, 0, 0)).2.1 = w.getD j 0 ∧ (l.getD i (0, 0, 0)).1 = w.getD (j-1) 0
theorem ne_cond (f : Bool) (a b c p q m : Int) : (((some f).bind fun y16 => if y16 = true then (((some p).bind fun y18 => if (a == y18) = true then (some q).bind fun y19 => if (b == y19) = true then some true else some false else some false).bind fun b17 => if b17 = true then some true else (some p).bind fun y20 => if (b == y20) = true then (some q).bind fun y21 => if (a == y21) = true then some true else some false else some false) else some false).bind fun b15 => if b15 = true then if m < c then some true else some false else some false) = some (decide (f = true ∧ (a = p ∧ b = q ∨ b = p ∧ a = q) ∧ m < c)) := by
  cases f <;> by_cases h1 : a = p <;> by_cases h2 : b = q <;> by_cases h3 : b = p <;> by_cases h4 : a = q <;> by_cases h5 : m < c <;> simp [h1, h2, h3, h4, h5] <;> simp_all
theorem jn_joins (hin : InC k l) {w : List Int} {i j x z : Nat} (hi : i < l.length) (hx : w.getD (j-1) 0 = (x : Int)) (hz : w.getD j 0 = (z : Int)) : jn l w i j ↔ joins l i x z := by
  obtain ⟨h1, h2, _⟩ := ln_in hin hi
  have h1' : (l.getD i (0, 0, 0)).1 = ((pA l i : Nat) : Int) := h1
  have h2' : (l.getD i (0, 0, 0)).2.1 = ((pB l i : Nat) : Int) := h2
  unfold jn joins
  rw [hx, hz, h1', h2']; omega
end
end Go.Proofs.YtccdnokddkpmgaaDoor
