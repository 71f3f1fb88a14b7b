import Derived.Test.YtgihnflaikmakaaDoorF1
import Derived.Test.YtgihnflaikmakaaDoorEv2
/- the plain law of menger.find -/
set_option linter.all false
set_option maxRecDepth 100000
namespace Go.Proofs.YtgihnflaikmakaaDoor
open Go.RowKit Pl
def rm (R : List (List Int)) (i j : Nat) : Int := (R.getD i []).getD j 0
def Dim (k : Nat) (R : List (List Int)) : Prop := R.length = k ∧ ∀ i < k, (R.getD i []).length = k
def upd (R : List (List Int)) (i j : Nat) (d : Int) : List (List Int) := R.set i ((R.getD i []).set j (rm R i j + d))
theorem upd_dim {k i j : Nat} {R : List (List Int)} {d : Int} (h : Dim k R) (hi : i < k) : Dim k (upd R i j d) := by
  refine ⟨by unfold upd; rw [List.length_set]; exact h.1, fun x hx => ?_⟩
  unfold upd
  rw [getD_set _ _ _ _ _ (by rw [h.1]; exact hi)]
  split
  · rw [List.length_set]; exact h.2 i hi
  · exact h.2 x hx
theorem rm_upd {k i j : Nat} {R : List (List Int)} (h : Dim k R) (hi : i < k) (hj : j < k) (d : Int) (x y : Nat) : rm (upd R i j d) x y = rm R x y + if x = i ∧ y = j then d else 0 := by
  unfold upd
  show (((R.set i _).getD x []).getD y 0) = _
  rw [getD_set _ _ _ _ _ (by rw [h.1]; exact hi)]
  by_cases e : x = i
  · subst e
    rw [if_pos rfl, getD_set _ _ _ _ _ (by rw [h.2 x hi]; exact hj)]
    by_cases e2 : y = j
    · subst e2; simp [rm]
    · simp [e2, rm]
  · simp [e, rm]
theorem upd_ev {α : Type} {k i j : Nat} {R : List (List Int)} (h : Dim k R) (hi : i < k) (hj : j < k) (w : Int → Int) (d : Int) (hw : w (rm R i j) = rm R i j + d) {K : List (List Int) → Option α} :
    ((ix R (i : Int)).bind fun y8 => (ix y8 (j : Int)).bind fun y9 => (ix R (i : Int)).bind fun y5 => (st y5 (j : Int) (w y9)).bind fun y6 => (st R (i : Int) y6).bind K) = K (upd R i j d) := by
  have h1 : i < R.length := by rw [h.1]; exact hi
  have h2 : j < (R.getD i []).length := by rw [h.2 i hi]; exact hj
  rw [ix_at [] h1, Option.bind_some, ix_at 0 h2, Option.bind_some, Option.bind_some, st_nat h2, Option.bind_some, st_nat h1, Option.bind_some]
  have : (R.getD i []).getD j 0 = rm R i j := rfl
  rw [this, hw]; rfl
/-! ### sums -/
def sm (f : Nat → Int) : Nat → Int
  | 0 => 0
  | k+1 => sm f k + f k
theorem sm_add (f g : Nat → Int) : ∀ k, sm (fun i => f i + g i) k = sm f k + sm g k
  | 0 => rfl
  | k+1 => by unfold sm; rw [sm_add f g k]; omega
theorem sm_congr {f g : Nat → Int} : ∀ {k : Nat}, (∀ i < k, f i = g i) → sm f k = sm g k
  | 0, _ => rfl
  | k+1, h => by unfold sm; rw [sm_congr fun i hi => h i (by omega), h k (by omega)]
theorem sm_zero : ∀ k, sm (fun _ => 0) k = 0
  | 0 => rfl
  | k+1 => by unfold sm; rw [sm_zero k]; rfl
theorem sm_one (u : Nat) (c : Int) : ∀ k, u < k → sm (fun i => if i = u then c else 0) k = c
  | 0, h => by omega
  | k+1, h => by
    unfold sm
    by_cases e : u = k
    · subst e
      have : sm (fun i => if i = u then c else 0) u = 0 := (sm_congr (g := fun _ => 0) fun i hi => if_neg (Nat.ne_of_lt hi)).trans (sm_zero u)
      rw [this, if_pos rfl]; omega
    · rw [sm_one u c k (by omega), if_neg (by omega)]; omega
theorem sm_nonneg {f : Nat → Int} : ∀ {k : Nat}, (∀ i < k, 0 ≤ f i) → 0 ≤ sm f k
  | 0, _ => Int.le_refl _
  | k+1, h => by unfold sm; have := sm_nonneg (k := k) fun i hi => h i (by omega); have := h k (by omega); omega
theorem sm_pos {f : Nat → Int} {k : Nat} (h : ∀ i < k, 0 ≤ f i) (hz : sm f k = 0) : ∀ i < k, f i = 0 := by
  induction k with
  | zero => intro i hi; omega
  | succ k ih =>
    unfold sm at hz
    have h1 := sm_nonneg (f := f) (k := k) fun i hi => h i (by omega)
    have h2 := h k (by omega)
    intro i hi
    by_cases e : i = k
    · subst e; omega
    · exact ih (fun i hi => h i (by omega)) (by omega) i (by omega)
/-- the room that leads out of a set -/
def cutR (k : Nat) (R : List (List Int)) (S : Nat → Bool) : Int := sm (fun i => sm (fun j => if S i && !S j then rm R i j else 0) k) k
theorem cutR_upd {k u v : Nat} {R : List (List Int)} (h : Dim k R) (hu : u < k) (hv : v < k) (d : Int) (S : Nat → Bool) : cutR k (upd R u v d) S = cutR k R S + if S u && !S v then d else 0 := by
  unfold cutR
  have e : ∀ i < k, sm (fun j => if S i && !S j then rm (upd R u v d) i j else 0) k = sm (fun j => if S i && !S j then rm R i j else 0) k + (if i = u then (if S u && !S v then d else 0) else 0) := by
    intro i _
    by_cases hi : i = u
    · subst hi
      rw [if_pos rfl, ← sm_one v (if S i && !S v then d else 0) k hv, ← sm_add]
      refine sm_congr fun j _ => ?_
      rw [rm_upd h hu hv]
      by_cases hj : j = v
      · subst hj; simp; split <;> simp
      · simp [hj]
    · rw [if_neg hi, Int.add_zero]
      refine sm_congr fun j _ => ?_
      rw [rm_upd h hu hv]; simp [hi]
  rw [sm_congr e, sm_add, sm_one u _ k hu]
theorem cutR_nonneg {k : Nat} {R : List (List Int)} (h : ∀ i < k, ∀ j < k, 0 ≤ rm R i j) (S : Nat → Bool) : 0 ≤ cutR k R S :=
  sm_nonneg fun i hi => sm_nonneg fun j hj => by
    split
    · exact h i hi j hj
    · exact Int.le_refl _
theorem cutR_zero {k : Nat} {R : List (List Int)} (h : ∀ i < k, ∀ j < k, 0 ≤ rm R i j) {S : Nat → Bool} (hz : cutR k R S = 0) : ∀ i < k, ∀ j < k, S i = true → S j = false → rm R i j = 0 := by
  intro i hi j hj h1 h2
  have hn : ∀ i < k, ∀ j < k, 0 ≤ (if S i && !S j then rm R i j else 0) := fun i hi j hj => by
    split
    · exact h i hi j hj
    · exact Int.le_refl _
  have a := sm_pos (fun i hi => sm_nonneg fun j hj => hn i hi j hj) hz i hi
  have b := sm_pos (fun j hj => hn i hi j hj) a j hj
  simpa [h1, h2] using b
theorem cutR_closed {k : Nat} {R : List (List Int)} {S : Nat → Bool} (h : ∀ i < k, ∀ j < k, S i = true → S j = false → rm R i j = 0) : cutR k R S = 0 := by
  unfold cutR
  refine (sm_congr (g := fun _ => 0) fun i hi => (sm_congr (g := fun _ => 0) fun j hj => ?_).trans (sm_zero k)).trans (sm_zero k)
  by_cases hc : (S i && !S j) = true
  · rw [if_pos hc]; simp at hc; exact h i hi j hj hc.1 hc.2
  · rw [if_neg hc]
/-- how many lines lead out of a set -/
def cut (l : List (Int × Int)) (S : Nat → Bool) : Nat := (l.filter fun p => S p.1.toNat != S p.2.toNat).length
theorem cut_le (l : List (Int × Int)) (S : Nat → Bool) : cut l S ≤ l.length := List.length_filter_le _ _
theorem cut_snoc (l : List (Int × Int)) (S : Nat → Bool) (t : Nat) (h : t < l.length) : cut (l.take (t+1)) S = cut (l.take t) S + if S l[t].1.toNat != S l[t].2.toNat then 1 else 0 := by
  unfold cut
  rw [List.take_succ_eq_append_getElem h, List.filter_append, List.length_append]
  congr 1
  simp only [List.filter_cons, List.filter_nil]
  split <;> simp_all
theorem rows0 : ∀ k : Nat, k ≤ 8 → menger_find_L1 300 (k : Int) (k : Int) 300 0 (List.replicate k []) = some (List.replicate k (List.replicate k 0)) := by decide +kernel
theorem from0 : ∀ k : Nat, k ≤ 8 → menger_find_L4 300 (k : Int) 300 0 (List.replicate k 0) = some (List.replicate k (-1)) := by decide +kernel
theorem dim0 (k : Nat) : Dim k (List.replicate k (List.replicate k 0)) := by
  refine ⟨by simp, fun i hi => ?_⟩
  simp [List.getD_eq_getElem?_getD, List.getElem?_replicate, hi]
theorem rm0 (k i j : Nat) : rm (List.replicate k (List.replicate k 0)) i j = 0 := by
  unfold rm
  simp only [List.getD_eq_getElem?_getD, List.getElem?_replicate]
  split
  · simp only [Option.getD_some, List.getElem?_replicate]; split <;> rfl
  · simp
theorem fill (l : List (Int × Int)) (k : Nat) (hin : InL k l) (hne : ∀ p ∈ l, p.1 ≠ p.2) (hl : l.length ≤ 24) : ∀ g t R, l.length < g + t → t ≤ l.length → Dim k R → (∀ i j, 0 ≤ rm R i j ∧ rm R i j ≤ t) → (∀ S, cutR k R S = cut (l.take t) S) →
    ∃ R', menger_find_L2 300 l g (t : Int) R = some R' ∧ Dim k R' ∧ (∀ i j, 0 ≤ rm R' i j ∧ rm R' i j ≤ 24) ∧ ∀ S, cutR k R' S = cut l S
  | 0, t, R, h, ht, _, _, _ => by omega
  | g+1, t, R, h, ht, hD, hb, hc => by
    rw [menger_find_L2_s]
    by_cases hlt : t < l.length
    · obtain ⟨a, b, ea, eb, ha, hb'⟩ := hin.at_ hlt
      have hab : a ≠ b := by have := hne _ (List.getElem_mem hlt); rw [ea, eb] at this; omega
      rw [if_pos (by omega), ix_nat hlt, Option.bind_some, ea, eb, w64n (by omega)]
      rw [upd_ev hD ha hb' (fun z => wrap64 (z + 1)) 1 (by have := hb a b; exact w64 (by omega) (by omega))]
      have hD1 : Dim k (upd R a b 1) := upd_dim hD ha
      have r1 : rm (upd R a b 1) b a = rm R b a := by rw [rm_upd hD ha hb', if_neg (by omega)]; omega
      rw [upd_ev hD1 hb' ha (fun z => wrap64 (z + 1)) 1 (by have := hb b a; rw [r1]; exact w64 (by omega) (by omega))]
      refine fill l k hin hne hl g (t+1) _ (by omega) (by omega) (upd_dim hD1 hb') (fun i j => ?_) (fun S => ?_)
      · rw [rm_upd hD1 hb' ha, rm_upd hD ha hb']
        have := hb i j
        by_cases h1 : i = a ∧ j = b
        · have h2 : ¬ (i = b ∧ j = a) := by omega
          simp only [h1, h2]; simp only [h1] at this; simp [hab]; omega
        · by_cases h2 : i = b ∧ j = a
          · rw [if_neg h1, if_pos h2]; omega
          · rw [if_neg h1, if_neg h2]; omega
      · rw [cutR_upd hD1 hb' ha, cutR_upd hD ha hb', hc S, cut_snoc l S t hlt, ea, eb, Int.toNat_natCast, Int.toNat_natCast]
        cases S a <;> cases S b <;> simp
    · obtain rfl : t = l.length := by omega
      rw [if_neg (by omega)]
      refine ⟨R, rfl, hD, fun i j => by have := hb i j; omega, fun S => by rw [hc S, List.take_length]⟩
/-! ### the search for a way -/
/-- how many elements are so -/
def cn (p : Int → Bool) (l : List Int) : Nat := (l.filter p).length
theorem cn_set (p : Int → Bool) : ∀ (l : List Int) (j : Nat) (x : Int), j < l.length → cn p (l.set j x) + (if p (l.getD j 0) then 1 else 0) = cn p l + (if p x then 1 else 0)
  | [], j, x, h => by simp at h
  | y :: l, 0, x, h => by
    unfold cn; simp only [List.set_cons_zero, List.filter_cons, List.getD_cons_zero]
    by_cases h1 : p x = true <;> by_cases h2 : p y = true <;> simp [h1, h2] <;> omega
  | y :: l, j+1, x, h => by
    have ih := cn_set p l j x (by simpa using h)
    unfold cn at ih ⊢; simp only [List.set_cons_succ, List.filter_cons, List.getD_cons_succ]
    by_cases h2 : p y = true
    · simp only [if_pos h2, List.length_cons]; omega
    · simp only [if_neg h2]; omega
/-- how many are reached, and how many are not -/
def rc (f : List Int) : Nat := cn (fun x => decide (0 ≤ x)) f
def un (f : List Int) : Nat := cn (fun x => decide (x < 0)) f
structure Bfs (k a : Nat) (R : List (List Int)) (f : List Int) (d : Nat → Nat) : Prop where
  len : f.length = k
  fa : f.getD a 0 = (a : Int)
  val : ∀ i < k, f.getD i 0 < 0 ∨ ∃ p : Nat, p < k ∧ f.getD i 0 = (p : Int) ∧ (i ≠ a → 0 ≤ f.getD p 0 ∧ 0 < rm R p i ∧ d p < d i)
  dk : ∀ i < k, 0 ≤ f.getD i 0 → d i + 1 ≤ rc f
theorem Bfs.add {k a : Nat} {R : List (List Int)} {f : List Int} {d : Nat → Nat} (h : Bfs k a R f d) {t j : Nat} (ht : t < k) (hj : j < k) (hrt : 0 ≤ f.getD t 0) (hf : f.getD j 0 < 0) (hr : 0 < rm R t j) :
    Bfs k a R (f.set j (t : Int)) (fun x => if x = j then d t + 1 else d x) := by
  have hjl : j < f.length := by rw [h.len]; exact hj
  have hja : a ≠ j := by intro e; subst e; rw [h.fa] at hf; omega
  have hjt : t ≠ j := by intro e; subst e; omega
  have hrc : rc (f.set j (t : Int)) = rc f + 1 := by
    have := cn_set (fun x => decide (0 ≤ x)) f j (t : Int) hjl
    have e1 : ¬ 0 ≤ f.getD j 0 := by omega
    have e2 : (0 : Int) ≤ (t : Int) := by omega
    simp only [e1, e2, decide_false, decide_true, if_true] at this
    unfold rc; simpa using this
  refine ⟨by rw [List.length_set]; exact h.len, by rw [getD_set _ _ _ _ _ hjl, if_neg hja]; exact h.fa, fun i hi => ?_, fun i hi hri => ?_⟩
  · rw [getD_set _ _ _ _ _ hjl]
    by_cases e : i = j
    · subst e
      rw [if_pos rfl]
      refine .inr ⟨t, ht, rfl, fun _ => ⟨?_, hr, ?_⟩⟩
      · rw [getD_set _ _ _ _ _ hjl, if_neg hjt]; exact hrt
      · simp [hjt]
    · rw [if_neg e]
      rcases h.val i hi with h1 | ⟨p, hp, e1, h1⟩
      · exact .inl h1
      · refine .inr ⟨p, hp, e1, fun hia => ?_⟩
        obtain ⟨q1, q2, q3⟩ := h1 hia
        have hpj : p ≠ j := by intro e; subst e; omega
        refine ⟨by rw [getD_set _ _ _ _ _ hjl, if_neg hpj]; exact q1, q2, by simpa [e, hpj] using q3⟩
  · rw [getD_set _ _ _ _ _ hjl] at hri
    rw [hrc]
    by_cases e : i = j
    · subst e
      have := h.dk t ht hrt
      simp; omega
    · rw [if_neg e] at hri
      have := h.dk i hi hri
      simp [e]; omega
theorem reach_set {f : List Int} {j t : Nat} (hj : j < f.length) {x : Nat} (h : 0 ≤ f.getD x 0) : 0 ≤ (f.set j (t : Int)).getD x 0 := by
  rw [getD_set _ _ _ _ _ hj]; split
  · omega
  · exact h
theorem bfs6 {k a : Nat} {R : List (List Int)} (hk : k ≤ 8) (hD : Dim k R) {t0 : Nat} (ht : t0 < k) : ∀ g j f ts d, k < g + j → j ≤ k → Bfs k a R f d → 0 ≤ f.getD t0 0 → ts.length + un f ≤ 50 →
    (∀ x ∈ ts, ∃ t : Nat, t < k ∧ x = (t : Int) ∧ 0 ≤ f.getD t 0) →
    (∀ i < k, i ≠ t0 → 0 ≤ f.getD i 0 → (i : Int) ∈ ts ∨ ∀ y < k, 0 < rm R i y → 0 ≤ f.getD y 0) →
    (∀ y < j, 0 < rm R t0 y → 0 ≤ f.getD y 0) →
    ∃ f' ts' d', menger_find_L6 300 (k : Int) R g (j : Int) f ((t0 : Int) :: ts) = some (f', (t0 : Int) :: ts') ∧ Bfs k a R f' d' ∧ ts'.length + un f' = ts.length + un f ∧
      (∀ x ∈ ts', ∃ t : Nat, t < k ∧ x = (t : Int) ∧ 0 ≤ f'.getD t 0) ∧
      (∀ i < k, i ≠ t0 → 0 ≤ f'.getD i 0 → (i : Int) ∈ ts' ∨ ∀ y < k, 0 < rm R i y → 0 ≤ f'.getD y 0) ∧
      (∀ y < k, 0 < rm R t0 y → 0 ≤ f'.getD y 0)
  | 0, j, f, ts, d, h, _, _, _, _, _, _, _ => by omega
  | g+1, j, f, ts, d, h, hj, hB, hr0, hu, hQ, hC, hT => by
    rw [menger_find_L6_s]
    by_cases hlt : j < k
    · have hjl : j < f.length := by rw [hB.len]; exact hlt
      have h0 : ix ((t0 : Int) :: ts) 0 = some (t0 : Int) := rfl
      have hrow : ix R (t0 : Int) = some (R.getD t0 []) := ix_at [] (by rw [hD.1]; exact ht)
      have hel : ix (R.getD t0 []) (j : Int) = some (rm R t0 j) := ix_at 0 (by rw [hD.2 t0 ht]; exact hlt)
      rw [if_pos (by omega), ix_at 0 hjl, Option.bind_some, w64n (by omega)]
      simp only [h0, hrow, hel, Option.bind_some]
      by_cases hf : f.getD j 0 < 0
      · rw [if_pos hf]
        by_cases hr : 0 < rm R t0 j
        · rw [if_pos hr]
          have hun : un f = un (f.set j (t0 : Int)) + 1 := by
            have := cn_set (fun x => decide (x < 0)) f j (t0 : Int) hjl
            have e2 : ¬ (t0 : Int) < 0 := by omega
            simp only [hf, e2, decide_false, decide_true, if_true] at this
            unfold un; simpa using this.symm
          have happ : app ((t0 : Int) :: ts) (j : Int) = some ((t0 : Int) :: (ts ++ [(j : Int)])) := by
            unfold app; rw [if_pos (by simp; omega)]; rfl
          simp only [Option.bind_some, if_true, st_nat hjl, happ]
          have hjt : t0 ≠ j := by intro e; subst e; omega
          obtain ⟨f', ts', d', e1, e2, e3, e4, e5, e6⟩ := bfs6 hk hD ht g (j+1) (f.set j (t0 : Int)) (ts ++ [(j : Int)]) _ (by omega) (by omega) (hB.add ht hlt hr0 hf hr) (reach_set hjl hr0) (by rw [List.length_append, List.length_singleton]; omega)
            (fun x hx => by
              rcases List.mem_append.1 hx with hx | hx
              · obtain ⟨t, q1, q2, q3⟩ := hQ x hx; exact ⟨t, q1, q2, reach_set hjl q3⟩
              · refine ⟨j, hlt, by simpa using hx, ?_⟩
                rw [getD_set _ _ _ _ _ hjl, if_pos rfl]; omega)
            (fun i hi hit hri => by
              by_cases eij : i = j
              · subst eij; exact .inl (by simp)
              · rw [getD_set _ _ _ _ _ hjl, if_neg eij] at hri
                rcases hC i hi hit hri with q | q
                · exact .inl (List.mem_append_left _ q)
                · exact .inr fun y hy hry => reach_set hjl (q y hy hry))
            (fun y hy hry => by
              by_cases eyj : y = j
              · subst eyj; rw [getD_set _ _ _ _ _ hjl, if_pos rfl]; omega
              · exact reach_set hjl (hT y (by omega) hry))
          refine ⟨f', ts', d', e1, e2, ?_, e4, e5, e6⟩
          rw [e3, List.length_append, List.length_singleton]; omega
        · rw [if_neg hr]
          simp only [Option.bind_some, Bool.false_eq_true, if_false]
          exact bfs6 hk hD ht g (j+1) f ts d (by omega) (by omega) hB hr0 hu hQ hC (fun y hy hry => by
            by_cases eyj : y = j
            · subst eyj; exact absurd hry hr
            · exact hT y (by omega) hry)
      · rw [if_neg hf]
        simp only [Option.bind_some, Bool.false_eq_true, if_false]
        exact bfs6 hk hD ht g (j+1) f ts d (by omega) (by omega) hB hr0 hu hQ hC (fun y hy hry => by
          by_cases eyj : y = j
          · subst eyj; omega
          · exact hT y (by omega) hry)
    · obtain rfl : j = k := by omega
      rw [if_neg (by omega)]
      exact ⟨f, ts, d, rfl, hB, rfl, hQ, hC, hT⟩
theorem bfs5 {k a : Nat} {R : List (List Int)} (hk : k ≤ 8) (hD : Dim k R) : ∀ g f td d, td.length + un f < g → td.length + un f ≤ 50 → Bfs k a R f d →
    (∀ x ∈ td, ∃ t : Nat, t < k ∧ x = (t : Int) ∧ 0 ≤ f.getD t 0) →
    (∀ i < k, 0 ≤ f.getD i 0 → (i : Int) ∈ td ∨ ∀ y < k, 0 < rm R i y → 0 ≤ f.getD y 0) →
    ∃ f' d', menger_find_L5 300 (k : Int) R g f td = some (f', []) ∧ Bfs k a R f' d' ∧ ∀ i < k, 0 ≤ f'.getD i 0 → ∀ y < k, 0 < rm R i y → 0 ≤ f'.getD y 0
  | 0, f, td, d, h, _, _, _, _ => by omega
  | g+1, f, [], d, h, hu, hB, hQ, hC => by
    rw [menger_find_L5_s, if_neg (by simp)]
    exact ⟨f, d, rfl, hB, fun i hi hri => (hC i hi hri).resolve_left (by simp)⟩
  | g+1, f, x :: ts, d, h, hu, hB, hQ, hC => by
    obtain ⟨t0, ht, rfl, hr0⟩ := hQ x List.mem_cons_self
    rw [menger_find_L5_s, if_pos (by simp)]
    rw [List.length_cons] at h hu
    obtain ⟨f', ts', d', e1, e2, e3, e4, e5, e6⟩ := bfs6 hk hD ht 300 0 f ts d (by omega) (by omega) hB hr0 (by omega) (fun x hx => hQ x (List.mem_cons_of_mem _ hx))
      (fun i hi hit hri => (hC i hi hri).imp (fun q => (List.mem_cons.1 q).resolve_left (by omega)) id) (fun y hy => by omega)
    have e1' : menger_find_L6 300 (k : Int) R 300 0 f ((t0 : Int) :: ts) = _ := e1
    rw [e1', Option.bind_some]
    have hdr : dr ((t0 : Int) :: ts') 1 = some ts' := by
      unfold dr; rw [if_pos (by simp; omega)]; rfl
    rw [hdr, Option.bind_some]
    exact bfs5 hk hD g f' ts' d' (by omega) (by omega) e2 e4 (fun i hi hri => by
      by_cases eit : i = t0
      · subst eit; exact .inr e6
      · exact e5 i hi eit hri)
/-! ### what the search has reached -/
theorem seen7 (f : List Int) (hl : f.length ≤ 8) : ∀ g j v, f.length < g + j → j ≤ f.length → v < 65536 → ∃ S, menger_find_L7 300 f g (j : Int) v = some S ∧ S < 65536 ∧ ∀ i, S.testBit i = (v.testBit i || (decide (j ≤ i) && decide (i < f.length) && decide (0 ≤ f.getD i 0)))
  | 0, j, v, h, _, _ => by omega
  | g+1, j, v, h, hj, hv => by
    rw [menger_find_L7_s]
    by_cases hlt : j < f.length
    · rw [if_pos (by omega), ix_at 0 hlt, Option.bind_some, w64n (by omega)]
      by_cases hr : 0 ≤ f.getD j 0
      · have hw : sWith v (j : Int) = some (v ||| 2 ^ j) := by unfold sWith; rw [if_pos ⟨hv, by omega, by omega⟩]; rfl
        rw [if_pos hr, hw, Option.bind_some]
        obtain ⟨S, e1, e2, e3⟩ := seen7 f hl g (j+1) (v ||| 2 ^ j) (by omega) (by omega) (Nat.or_lt_two_pow (n := 16) hv (Nat.pow_lt_pow_right (by omega) (by omega)))
        refine ⟨S, e1, e2, fun i => ?_⟩
        rw [e3, Nat.testBit_or, Nat.testBit_two_pow, Bool.or_assoc]
        congr 1
        by_cases e : j = i
        · subst e; simp only [hr, hlt, Nat.le_refl, decide_true, Bool.true_or, Bool.and_true]
        · by_cases h1 : j < i
          · have h2 : j ≤ i := by omega
            have h3 : j + 1 ≤ i := by omega
            simp [e, h2, h3]
          · have h2 : ¬ j ≤ i := by omega
            have h3 : ¬ j + 1 ≤ i := by omega
            simp [e, h2, h3]
      · rw [if_neg hr]
        obtain ⟨S, e1, e2, e3⟩ := seen7 f hl g (j+1) v (by omega) (by omega) hv
        refine ⟨S, e1, e2, fun i => ?_⟩
        rw [e3]
        congr 1
        by_cases e : j = i
        · subst e; simp only [hr, decide_false, Bool.and_false]
        · by_cases h1 : j < i
          · have h2 : j ≤ i := by omega
            have h3 : j + 1 ≤ i := by omega
            simp [h2, h3]
          · have h2 : ¬ j ≤ i := by omega
            have h3 : ¬ j + 1 ≤ i := by omega
            simp [h2, h3]
    · obtain rfl : j = f.length := by omega
      rw [if_neg (by omega)]
      refine ⟨v, rfl, hv, fun i => ?_⟩
      by_cases h1 : i < f.length
      · have h2 : ¬ f.length ≤ i := by omega
        simp [h2]
      · simp [h1]
def b2 (b : Bool) : Int := if b then 1 else 0
/-- a way is taken: its room goes the other way -/
theorem way8 {k a : Nat} {R0 : List (List Int)} {f : List Int} {d : Nat → Nat} (hB : Bfs k a R0 f d) (ha : a < k) : ∀ g R i, d i < g → i < k → 0 ≤ f.getD i 0 → Dim k R →
    (∀ x < k, ∀ y < k, 0 ≤ rm R x y ∧ rm R x y + rm R y x ≤ 48) → (∀ x < k, x ≠ a → 0 ≤ f.getD x 0 → d x ≤ d i → ∀ p : Nat, f.getD x 0 = (p : Int) → 0 < rm R p x) →
    ∃ R', menger_find_L8 300 (a : Int) f g R (i : Int) = some (R', (a : Int)) ∧ Dim k R' ∧ (∀ x < k, ∀ y < k, 0 ≤ rm R' x y ∧ rm R' x y + rm R' y x ≤ 48) ∧ ∀ S, cutR k R' S = cutR k R S + (b2 (S i) - b2 (S a))
  | 0, R, i, h, _, _, _, _, _ => by omega
  | g+1, R, i, h, hi, hri, hD, hb, hp => by
    rw [menger_find_L8_s]
    by_cases e : i = a
    · subst e
      rw [if_neg (by simp)]
      exact ⟨R, rfl, hD, hb, fun S => by omega⟩
    · have hne : ((i : Int) != (a : Int)) = true := by simp; omega
      rcases hB.val i hi with h1 | ⟨p, hpk, ep, h1⟩
      · omega
      obtain ⟨q1, q2, q3⟩ := h1 e
      have hil : i < f.length := by rw [hB.len]; exact hi
      have hfi : ix f (i : Int) = some (p : Int) := by rw [ix_at 0 hil, ep]
      have hpi : p ≠ i := by intro e; subst e; omega
      have hpos := hp i hi e hri (Nat.le_refl _) p ep
      rw [if_pos hne]
      simp only [hfi, Option.bind_some]
      have hbp := hb p hpk i hi
      rw [upd_ev hD hpk hi (fun z => wrap64 (z - 1)) (-1) (by have := hb i hi p hpk; exact (w64 (by omega) (by omega)).trans (by omega))]
      have hD1 : Dim k (upd R p i (-1)) := upd_dim hD hpk
      have r1 : rm (upd R p i (-1)) i p = rm R i p := by rw [rm_upd hD hpk hi, if_neg (by omega)]; omega
      rw [upd_ev hD1 hi hpk (fun z => wrap64 (z + 1)) 1 (by have := hb i hi p hpk; rw [r1]; exact w64 (by omega) (by omega))]
      have hval : ∀ x y, rm (upd (upd R p i (-1)) i p 1) x y = rm R x y + (if x = p ∧ y = i then -1 else 0) + (if x = i ∧ y = p then 1 else 0) := fun x y => by rw [rm_upd hD1 hi hpk, rm_upd hD hpk hi]
      obtain ⟨R', e1, e2, e3, e4⟩ := way8 hB ha g (upd (upd R p i (-1)) i p 1) p (by omega) hpk q1 (upd_dim hD1 hi) (fun x hx y hy => by
          rw [hval, hval]
          have c1 := hb x hx y hy
          have c2 := hb y hy x hx
          by_cases c3 : x = p ∧ y = i
          · obtain ⟨rfl, rfl⟩ := c3
            simp [hpi, hpi.symm]; omega
          · by_cases c4 : x = i ∧ y = p
            · obtain ⟨rfl, rfl⟩ := c4
              simp [hpi, hpi.symm]; omega
            · have c5 : ¬ (y = i ∧ x = p) := fun h => c3 ⟨h.2, h.1⟩
              have c6 : ¬ (y = p ∧ x = i) := fun h => c4 ⟨h.2, h.1⟩
              rw [if_neg c3, if_neg c4, if_neg c5, if_neg c6]; omega) (fun x hx hxa hrx hdx p' ep' => by
          rw [hval]
          have c1 := hp x hx hxa hrx (by omega) p' ep'
          have c3 : ¬ (p' = p ∧ x = i) := by rintro ⟨_, rfl⟩; omega
          rw [if_neg c3]
          split <;> omega)
      refine ⟨R', e1, e2, e3, fun S => ?_⟩
      rw [e4, cutR_upd hD1 hi hpk, cutR_upd hD hpk hi]
      unfold b2
      cases S p <;> cases S i <;> cases S a <;> simp <;> omega
/-- what find finds: the side is the least of those that as few lines as may be lead away from -/
structure Found (k : Nat) (l : List (Int × Int)) (a b : Nat) (m S : Nat) : Prop where
  lt : S < 65536
  below : ∀ i, S.testBit i = true → i < k
  has : S.testBit a = true
  hasnt : S.testBit b = false
  many : cut l (fun i => S.testBit i) = m
  least : ∀ T : Nat → Bool, T a = true → T b = false → m ≤ cut l T ∧ (cut l T = m → ∀ i, S.testBit i = true → T i = true)
theorem rounds {k a b : Nat} {l : List (Int × Int)} (hk : k ≤ 8) (ha : a < k) (hb : b < k) (hab : a ≠ b) (hl : l.length ≤ 24) : ∀ g R many, cut l (fun i => i == a) < g + many → Dim k R → (∀ x < k, ∀ y < k, 0 ≤ rm R x y ∧ rm R x y + rm R y x ≤ 48) →
    (∀ S : Nat → Bool, cutR k R S = cut l S + (many : Int) * (b2 (S b) - b2 (S a))) →
    ∃ m S, menger_find_L3 300 (k : Int) (a : Int) (b : Int) g R (many : Int) = some (.inr (((m : Nat) : Int), S)) ∧ Found k l a b m S
  | 0, R, many, h, hD, hbd, hc => by
    exfalso
    have h1 := hc (fun i => i == a)
    have h2 := cutR_nonneg (fun i hi j hj => (hbd i hi j hj).1) (fun i => i == a)
    have e : (b == a) = false := by simp; omega
    simp [b2, e] at h1
    omega
  | g+1, R, many, h, hD, hbd, hc => by
    have hmany : many ≤ 24 := by
      have h1 := hc (fun i => i == a)
      have h2 := cutR_nonneg (fun i hi j hj => (hbd i hi j hj).1) (fun i => i == a)
      have e : (b == a) = false := by simp; omega
      have := cut_le l (fun i => i == a)
      simp [b2, e] at h1
      omega
    have hmk : mkI (k : Int) = some (List.replicate k 0) := by unfold mkI; rw [if_pos (by omega), Int.toNat_natCast]
    have hrl : (List.replicate k (-1 : Int)).length = k := by simp
    have hB0 : Bfs k a R ((List.replicate k (-1)).set a (a : Int)) (fun _ => 0) := by
      have hg : ∀ i, ((List.replicate k (-1 : Int)).set a (a : Int)).getD i 0 = if i = a then (a : Int) else if i < k then -1 else 0 := fun i => by
        rw [getD_set _ _ _ _ _ (by rw [hrl]; exact ha)]
        by_cases e : i = a
        · rw [if_pos e, if_pos e]
        · rw [if_neg e, if_neg e]
          simp only [List.getD_eq_getElem?_getD, List.getElem?_replicate]
          split <;> rfl
      refine ⟨by simp, by rw [hg, if_pos rfl], fun i hi => ?_, fun i hi hri => ?_⟩
      · rw [hg]
        by_cases e : i = a
        · subst e; rw [if_pos rfl]; exact .inr ⟨i, ha, rfl, fun h => absurd rfl h⟩
        · rw [if_neg e, if_pos hi]; exact .inl (by omega)
      · have := cn_set (fun x => decide (0 ≤ x)) (List.replicate k (-1)) a (a : Int) (by rw [hrl]; exact ha)
        have e1 : (List.replicate k (-1 : Int)).getD a 0 = -1 := by simp [List.getD_eq_getElem?_getD, List.getElem?_replicate, ha]
        have e2 : (0 : Int) ≤ (a : Int) := by omega
        rw [e1] at this
        simp only [e2, decide_true, if_true] at this
        unfold rc
        have e3 : ¬ ((0 : Int) ≤ -1) := by omega
        simp only [e3, decide_false] at this
        simp at this
        omega
    have hun : [(a : Int)].length + un ((List.replicate k (-1)).set a (a : Int)) ≤ 9 := by
      have : un ((List.replicate k (-1)).set a (a : Int)) ≤ ((List.replicate k (-1 : Int)).set a (a : Int)).length := List.length_filter_le _ _
      rw [List.length_set, hrl] at this
      simp; omega
    obtain ⟨f, d, e1, hB, hcl⟩ := bfs5 hk hD 300 _ [(a : Int)] _ (by omega) (by omega) hB0 (fun x hx => ⟨a, ha, by simpa using hx, by rw [hB0.fa]; omega⟩) (fun i hi hri => by
      left
      rcases hB0.val i hi with h1 | ⟨p, hp, ep, h1⟩
      · omega
      by_cases e : i = a
      · subst e; simp
      · exfalso
        rw [getD_set _ _ _ _ _ (by rw [hrl]; exact ha), if_neg e] at hri
        simp only [List.getD_eq_getElem?_getD, List.getElem?_replicate, hi, if_true] at hri
        simp at hri)
    rw [menger_find_L3_s, hmk, Option.bind_some, List.length_replicate, from0 k hk, Option.bind_some, st_nat (by rw [hrl]; exact ha), Option.bind_some, e1, Option.bind_some]
    have hbl : b < f.length := by rw [hB.len]; exact hb
    simp only [ix_at 0 hbl, Option.bind_some]
    by_cases hfb : f.getD b 0 < 0
    · obtain ⟨S, s1, s2, s3⟩ := seen7 f (by rw [hB.len]; exact hk) 300 0 0 (by rw [hB.len]; omega) (by omega) (by omega)
      have s1' : menger_find_L7 300 f 300 0 0 = some S := s1
      rw [if_pos hfb, s1', Option.bind_some]
      have hS : ∀ i, S.testBit i = (decide (i < k) && decide (0 ≤ f.getD i 0)) := fun i => by rw [s3, hB.len]; simp
      have ht : ∀ i, S.testBit i = true ↔ i < k ∧ 0 ≤ f.getD i 0 := fun i => by rw [hS]; simp
      have hsa : S.testBit a = true := (ht a).2 ⟨ha, by rw [hB.fa]; omega⟩
      have hsb : S.testBit b = false := by
        cases e : S.testBit b
        · rfl
        · have := ((ht b).1 e).2; omega
      have hz : cutR k R (fun i => S.testBit i) = 0 := cutR_closed fun i hi j hj h1 h2 => by
        have h3 := (ht i).1 h1
        have h4 : ¬ 0 < rm R i j := fun hr => by
          have := (ht j).2 ⟨hj, hcl i hi h3.2 j hj hr⟩
          rw [h2] at this; cases this
        have := (hbd i hi j hj).1
        omega
      have hm := hc (fun i => S.testBit i)
      rw [hz] at hm
      simp [hsa, hsb, b2] at hm
      refine ⟨many, S, rfl, s2, fun i hi => ((ht i).1 hi).1, hsa, hsb, by omega, fun T hTa hTb => ?_⟩
      have h1 := hc T
      have h2 := cutR_nonneg (fun i hi j hj => (hbd i hi j hj).1) T
      simp [hTa, hTb, b2] at h1
      refine ⟨by omega, fun he => ?_⟩
      have hz2 := cutR_zero (fun i hi j hj => (hbd i hi j hj).1) (S := T) (by omega)
      have key : ∀ n i, d i ≤ n → i < k → 0 ≤ f.getD i 0 → T i = true := by
        intro n
        induction n with
        | zero =>
          intro i hd hi hri
          rcases hB.val i hi with h1 | ⟨p, hp, ep, h1⟩
          · omega
          by_cases e : i = a
          · subst e; exact hTa
          · have := (h1 e).2.2; omega
        | succ n ih =>
          intro i hd hi hri
          rcases hB.val i hi with h1 | ⟨p, hp, ep, h1⟩
          · omega
          by_cases e : i = a
          · subst e; exact hTa
          · obtain ⟨q1, q2, q3⟩ := h1 e
            have hTp := ih p (by omega) hp q1
            cases hT : T i
            · have := hz2 p hp i hi hTp hT; omega
            · rfl
      intro i hi
      exact key _ i (Nat.le_refl _) ((ht i).1 hi).1 ((ht i).1 hi).2
    · rw [if_neg hfb]
      have hdb : d b < 300 := by
        have h1 := hB.dk b hb (by omega)
        have h2 : rc f ≤ f.length := List.length_filter_le _ _
        rw [hB.len] at h2; omega
      obtain ⟨R', r1, r2, r3, r4⟩ := way8 hB ha 300 R b hdb hb (by omega) hD hbd (fun x hx hxa hrx _ p ep => by
        rcases hB.val x hx with h1 | ⟨p', hp, ep', h1⟩
        · omega
        have : p = p' := by rw [ep] at ep'; omega
        subst this
        exact (h1 hxa).2.1)
      rw [r1, Option.bind_some, w64n (by omega)]
      refine rounds hk ha hb hab hl g R' (many+1) (by omega) r2 r3 (fun S => ?_)
      rw [r4, hc S, Int.natCast_add, Int.add_mul]
      omega
theorem find_ev {k a b : Nat} {l : List (Int × Int)} (hk : k ≤ 8) (ha : a < k) (hb : b < k) (hab : a ≠ b) (hl : l.length ≤ 24) (hin : InL k l) (hne : ∀ p ∈ l, p.1 ≠ p.2) :
    ∃ m S, menger_find 300 (k : Int) l (a : Int) (b : Int) = some (((m : Nat) : Int), S) ∧ Found k l a b m S := by
  unfold menger_find
  have hmk : mkR (k : Int) = some (List.replicate k []) := by unfold mkR; rw [if_pos (by omega), Int.toNat_natCast]
  rw [hmk, Option.bind_some, List.length_replicate, rows0 k hk, Option.bind_some]
  obtain ⟨R, e1, e2, e3, e4⟩ := fill l k hin hne hl 300 0 _ (by omega) (by omega) (dim0 k) (fun i j => by rw [rm0]; omega) (fun S => by
    rw [List.take_zero]
    exact cutR_closed fun i _ j _ _ _ => rm0 k i j)
  have e1' : menger_find_L2 300 l 300 0 (List.replicate k (List.replicate k 0)) = _ := e1
  rw [e1', Option.bind_some]
  have hcl := cut_le l (fun i => i == a)
  obtain ⟨m, S, f1, f2⟩ := rounds hk ha hb hab hl 300 R 0 (by omega) e2 (fun x _ y _ => by have := e3 x y; have := e3 y x; omega) (fun S => by rw [e4]; simp)
  have f1' : menger_find_L3 300 (k : Int) (a : Int) (b : Int) 300 R 0 = _ := f1
  rw [f1']
  exact ⟨m, S, rfl, f2⟩
end Go.Proofs.YtgihnflaikmakaaDoor
