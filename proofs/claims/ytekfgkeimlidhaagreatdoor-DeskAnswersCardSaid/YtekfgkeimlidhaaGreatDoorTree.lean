import Derived.Test.YtekfgkeimlidhaaGreatDoorEv2
import Derived.Test.YtekfgkeimlidhaaGreatDoorFrom
/- plain: what Reach and From come to -/
set_option linter.all false
set_option maxRecDepth 100000
namespace Go.Proofs.YtekfgkeimlidhaaGreatDoor
open Go.RowKit Pl
/-! ### sets -/
theorem lt_of_bits {m n : Nat} (h : ∀ j, m.testBit j = true → j < n) : m < 2 ^ n := by
  rcases Nat.lt_or_ge m (2 ^ n) with h1 | h1
  · exact h1
  · obtain ⟨i, hi, hb⟩ := Nat.exists_ge_and_testBit_of_ge_two_pow h1
    have := h i hb; omega
theorem bit_lt {m n j : Nat} (hm : m < 2 ^ n) (hb : m.testBit j = true) : j < n := by
  rcases Nat.lt_or_ge j n with h1 | h1
  · exact h1
  · rw [Nat.testBit_lt_two_pow (Nat.lt_of_lt_of_le hm (Nat.pow_le_pow_right (by omega) h1))] at hb; cases hb
theorem memb_nodup (m : Nat) : (memb m).Nodup := List.Pairwise.filter _ List.nodup_range
theorem or_pow_bit (s x j : Nat) : (s ||| 2 ^ x).testBit j = (s.testBit j || decide (j = x)) := by
  rw [Nat.testBit_or, Nat.testBit_two_pow]
  congr 1
  exact decide_eq_decide.2 ⟨fun h => h.symm, fun h => h.symm⟩
theorem sWith_ev {s x : Nat} (hs : s < 65536) (hx : x < 16) : sWith s (x : Int) = some (s ||| 2 ^ x) := by
  unfold sWith; rw [if_pos ⟨hs, by omega, by omega⟩, Int.toNat_natCast]
theorem or_pow_lt {s x : Nat} (hs : s < 65536) (hx : x < 16) : s ||| 2 ^ x < 65536 :=
  Nat.or_lt_two_pow (n := 16) hs (Nat.pow_lt_pow_right (by omega) hx)
theorem sEach_ev {m : Nat} (h : m < 65536) : sEach m = some (memb m) := by unfold sEach; rw [if_pos h]
theorem cnt3 (p q r : Nat → Bool) : ∀ l : List Nat, (∀ x ∈ l, p x = (q x || r x) ∧ (q x && r x) = false) → (l.filter p).length = (l.filter q).length + (l.filter r).length
  | [], _ => rfl
  | x :: l, h => by
    have ih := cnt3 p q r l (fun y hy => h y (List.mem_cons_of_mem _ hy))
    obtain ⟨h1, h2⟩ := h x List.mem_cons_self
    rw [List.filter_cons, List.filter_cons, List.filter_cons, h1]
    cases hq : q x <;> cases hr : r x <;> simp [hq, hr] at h2 ⊢ <;> omega
/-! ### adjacency -/
def Ad (k : Nat) (l : List (Int × Int)) (i j : Nat) : Prop := ((besM k l).getD i 0).testBit j = true
theorem ad_iff {k : Nat} {l : List (Int × Int)} (h : InL k l) (i j : Nat) : Ad k l i j ↔ (∃ p ∈ l, (p.1 = (i : Int) ∧ p.2 = (j : Int)) ∨ (p.1 = (j : Int) ∧ p.2 = (i : Int))) := by
  unfold Ad
  rw [besM_bit h, Bool.or_eq_true, List.any_eq_true, List.any_eq_true]
  constructor
  · rintro (⟨p, hp, hh⟩ | ⟨p, hp, hh⟩)
    · have := h p hp; simp at hh; exact ⟨p, hp, .inl (by omega)⟩
    · have := h p hp; simp at hh; exact ⟨p, hp, .inr (by omega)⟩
  · rintro ⟨p, hp, hh | hh⟩
    · exact .inl ⟨p, hp, by simp; omega⟩
    · exact .inr ⟨p, hp, by simp; omega⟩
theorem ad_sym {k : Nat} {l : List (Int × Int)} (h : InL k l) {i j : Nat} (ha : Ad k l i j) : Ad k l j i := by
  rw [ad_iff h] at ha ⊢
  obtain ⟨p, hp, hh⟩ := ha
  exact ⟨p, hp, hh.symm⟩
theorem ad_lt {k : Nat} {l : List (Int × Int)} (h : InL k l) {i j : Nat} (ha : Ad k l i j) : i < k ∧ j < k := by
  rw [ad_iff h] at ha
  obtain ⟨p, hp, hh⟩ := ha
  have := h p hp; omega
/-- how far the points are from one -/
structure Far (k : Nat) (A : Nat → Nat → Prop) (a : Nat) (o : List Int) : Prop where
  len : o.length = k
  low : ∀ j, j < k → -1 ≤ o.getD j 0
  start : o.getD a 0 = 0
  step : ∀ i j, i < k → 0 ≤ o.getD i 0 → A i j → 0 ≤ o.getD j 0 ∧ o.getD j 0 ≤ o.getD i 0 + 1
  down : ∀ j, j < k → 0 ≤ o.getD j 0 → j = a ∨ ∃ i, i < k ∧ A i j ∧ 0 ≤ o.getD i 0 ∧ o.getD j 0 = o.getD i 0 + 1
end Go.Proofs.YtekfgkeimlidhaaGreatDoor
/- plain: trees -/
set_option linter.all false
set_option maxRecDepth 100000
namespace Go.Proofs.YtekfgkeimlidhaaGreatDoor
open Go.RowKit Pl
/-- points, whom each one is beside, and how far they are from each other: a tree -/
structure Tr (k : Nat) (A : Nat → Nat → Prop) (d : Nat → Nat → Nat) : Prop where
  sym : ∀ u v, A u v → A v u
  lt : ∀ u v, A u v → u < k ∧ v < k
  zero : ∀ a, a < k → d a a = 0
  step : ∀ a u v, a < k → A u v → d a v ≤ d a u + 1
  down : ∀ a v, a < k → v < k → v ≠ a → ∃ u, A u v ∧ d a v = d a u + 1
  uniq : ∀ a u u' v, a < k → A u v → A u' v → d a v = d a u + 1 → d a v = d a u' + 1 → u = u'
  diff : ∀ a u v, a < k → A u v → d a u ≠ d a v
namespace Tr
variable {k : Nat} {A : Nat → Nat → Prop} {d : Nat → Nat → Nat} (T : Tr k A d)
include T
theorem eq_of_zero {a v : Nat} (ha : a < k) (hv : v < k) (h : d a v = 0) : v = a := by
  by_cases e : v = a
  · exact e
  · obtain ⟨u, _, h2⟩ := T.down a v ha hv e; omega
theorem tri {a b : Nat} (ha : a < k) (hb : b < k) : ∀ {c : Nat}, c < k → d a c ≤ d a b + d b c := by
  have key : ∀ n c, d b c = n → c < k → d a c ≤ d a b + n := by
    intro n
    induction n with
    | zero => intro c h hc; have := T.eq_of_zero hb hc h; subst this; exact Nat.le_refl _
    | succ n ih =>
      intro c h hc
      have hne : c ≠ b := fun e => by subst e; rw [T.zero c hc] at h; omega
      obtain ⟨u, h1, h2⟩ := T.down b c hb hc hne
      have h3 := ih u (by omega) (T.lt _ _ h1).1
      have h4 := T.step a u c ha h1
      omega
  intro c hc
  exact key _ c rfl hc
theorem one {u v : Nat} (h : A u v) : d u v = 1 := by
  obtain ⟨hu, hv⟩ := T.lt _ _ h
  have h1 := T.step u u v hu h
  have h2 := T.diff u u v hu h
  rw [T.zero u hu] at h1 h2
  omega
theorem symd {a b : Nat} (ha : a < k) (hb : b < k) : d a b = d b a := by
  have key : ∀ n a b, a < k → b < k → d a b = n → d b a ≤ n := by
    intro n
    induction n with
    | zero => intro a b ha hb h; have := T.eq_of_zero ha hb h; subst this; rw [h]; exact Nat.le_refl _
    | succ n ih =>
      intro a b ha hb h
      have hne : b ≠ a := fun e => by subst e; rw [T.zero b hb] at h; omega
      obtain ⟨u, h1, h2⟩ := T.down a b ha hb hne
      have h3 := ih a u ha (T.lt _ _ h1).1 (by omega)
      have h4 := T.tri (a := b) (b := u) hb (T.lt _ _ h1).1 ha (c := a)
      have h5 := T.one (T.sym _ _ h1)
      omega
  have := key _ a b ha hb rfl
  have := key _ b a hb ha rfl
  omega
/-- one nearer -/
def up (_ : Tr k A d) (r v u : Nat) : Prop := A u v ∧ d r v = d r u + 1
theorem up_ex {r v : Nat} (hr : r < k) (hv : v < k) (h : v ≠ r) : ∃ u, T.up r v u := T.down r v hr hv h
theorem up_lt {r v u : Nat} (h : T.up r v u) : u < k := (T.lt _ _ h.1).1
theorem up_ne {r v u : Nat} (hr : r < k) (h : T.up r v u) : v ≠ r := fun e => by subst e; have := h.2; rw [T.zero v hr] at this; omega
/-- a neighbour that is not the nearer one is farther -/
theorem far {a u v : Nat} (ha : a < k) (h : A u v) (hn : ¬ T.up a v u) : d a u = d a v + 1 := by
  have h1 := T.diff a u v ha h
  have h2 := T.step a u v ha h
  have h3 := T.step a v u ha (T.sym _ _ h)
  have : ¬ (d a v = d a u + 1) := fun e => hn ⟨h, e⟩
  omega
/-- where the ways to a and to r part, one is between them -/
theorem between {a r : Nat} (ha : a < k) (hr : r < k) : ∀ n v p, d v r = n → v < k → T.up r v p → ¬ T.up a v p → d a r = d a v + d v r := by
  intro n
  induction n with
  | zero => intro v p h hv hp _; have := T.eq_of_zero hv hr h; exact absurd this.symm (T.up_ne hr hp)
  | succ n ih =>
    intro v p h hv hp hn
    have h1 := T.far ha hp.1 hn
    have hpk := T.up_lt hp
    have h2 : d r v = d r p + 1 := hp.2
    have h3 := T.symd hr hv
    have h4 := T.symd hr hpk
    by_cases e : p = r
    · subst e; rw [T.zero p hr] at h2; omega
    · obtain ⟨q, hq⟩ := T.up_ex hr hpk e
      have hqv : q ≠ v := fun e => by subst e; have := hq.2; omega
      have hvp : T.up a p v := ⟨T.sym _ _ hp.1, h1⟩
      have := ih p q (by omega) hpk hq (fun hh => hqv (T.uniq a q v p ha hh.1 hvp.1 hh.2 hvp.2))
      omega
/-- one that is not between them goes the same way to both -/
theorem same {a r v p : Nat} (ha : a < k) (hr : r < k) (hv : v < k) (hn : d a r ≠ d a v + d v r) (hp : T.up r v p) : T.up a v p := by
  by_cases h : T.up a v p
  · exact h
  · exact absurd (T.between ha hr _ v p rfl hv hp h) hn
/-- between a and b -/
def btw (_ : Tr k A d) (a b v : Nat) : Prop := v < k ∧ d a b = d a v + d v b
theorem btw_l {a b : Nat} (ha : a < k) (hb : b < k) : T.btw a b a := ⟨ha, by rw [T.zero a ha]; omega⟩
theorem btw_r {a b : Nat} (ha : a < k) (hb : b < k) : T.btw a b b := ⟨hb, by rw [T.zero b hb]; omega⟩
theorem btw_sym {a b v : Nat} (ha : a < k) (hb : b < k) (h : T.btw a b v) : T.btw b a v :=
  ⟨h.1, by rw [T.symd hb ha, T.symd hb h.1, T.symd h.1 ha]; have := h.2; omega⟩
/-- the next one on the way to b -/
theorem btw_up {a b v w : Nat} (ha : a < k) (hb : b < k) (h : T.btw a b v) (hw : T.up b v w) : T.btw a b w ∧ T.up a w v := by
  have hwk := T.up_lt hw
  have h1 := T.step a v w ha (T.sym _ _ hw.1)
  have h2 := T.tri (a := a) (b := w) ha hwk hb
  have h3 := hw.2
  rw [T.symd hb h.1, T.symd hb hwk] at h3
  have h4 := h.2
  have h5 := T.symd hwk hb
  exact ⟨⟨hwk, by omega⟩, T.sym _ _ hw.1, by omega⟩
/-- who is as far on the way is the same -/
theorem on_uniq {a b : Nat} (ha : a < k) (hb : b < k) : ∀ n v v', d v b = n → d v' b = n → T.btw a b v → T.btw a b v' → v = v' := by
  intro n
  induction n with
  | zero =>
    intro v v' h h' hv hv'
    rw [← T.eq_of_zero hv.1 hb h]
    exact T.eq_of_zero hv'.1 hb h'
  | succ n ih =>
    intro v v' h h' hv hv'
    have hne : v ≠ b := fun e => by subst e; rw [T.zero v hb] at h; omega
    have hne' : v' ≠ b := fun e => by subst e; rw [T.zero v' hb] at h'; omega
    obtain ⟨w, hw⟩ := T.up_ex hb hv.1 hne
    obtain ⟨w', hw'⟩ := T.up_ex hb hv'.1 hne'
    obtain ⟨b1, u1⟩ := T.btw_up ha hb hv hw
    obtain ⟨b2, u2⟩ := T.btw_up ha hb hv' hw'
    have q1 := hw.2; have q2 := hw'.2
    rw [T.symd hb hv.1, T.symd hb b1.1] at q1
    rw [T.symd hb hv'.1, T.symd hb b2.1] at q2
    have e := ih w w' (by omega) (by omega) b1 b2
    subst e
    exact T.uniq a v v' w ha u1.1 u2.1 u1.2 u2.2
/-- the way from v to r, both with it -/
inductive Way (r : Nat) : Nat → List Int → Prop
  | root : Way r r [(r : Int)]
  | step {v u : Nat} {l : List Int} : T.up r v u → Way r u l → Way r v ((v : Int) :: l)
theorem way_ex {r : Nat} (hr : r < k) : ∀ n v, d r v = n → v < k → ∃ l, T.Way r v l ∧ l.length = n + 1 := by
  intro n
  induction n with
  | zero => intro v h hv; rw [T.eq_of_zero hr hv h]; exact ⟨_, .root, rfl⟩
  | succ n ih =>
    intro v h hv
    have hne : v ≠ r := fun e => by subst e; rw [T.zero v hr] at h; omega
    obtain ⟨u, hu⟩ := T.up_ex hr hv hne
    obtain ⟨l, h1, h2⟩ := ih u (by have := hu.2; omega) (T.up_lt hu)
    exact ⟨_, .step hu h1, by rw [List.length_cons, h2]⟩
theorem way_len {r v : Nat} {l : List Int} (hr : r < k) (h : T.Way r v l) : l.length = d r v + 1 := by
  induction h with
  | root => rw [T.zero r hr]; rfl
  | step hu _ ih => rw [List.length_cons, ih, hu.2]
theorem way_det {r v : Nat} {l l' : List Int} (hr : r < k) (h : T.Way r v l) (h' : T.Way r v l') : l = l' := by
  induction h generalizing l' with
  | root =>
    cases h' with
    | root => rfl
    | step hu _ => exact absurd rfl (T.up_ne hr hu)
  | @step v u l hu _ ih =>
    cases h' with
    | root => exact absurd rfl (T.up_ne hr hu)
    | @step _ u' l' hu' h' =>
      have := T.uniq r u u' v hr hu.1 hu'.1 hu.2 hu'.2
      subst this
      rw [ih h']
/-- who is on the way is between -/
theorem way_mem {r v : Nat} {l : List Int} (hr : r < k) (hv : v < k) (h : T.Way r v l) : ∀ x : Int, x ∈ l ↔ ∃ i : Nat, x = i ∧ T.btw v r i := by
  induction h with
  | root =>
    intro x
    rw [List.mem_singleton]
    constructor
    · rintro rfl; exact ⟨r, rfl, T.btw_l hr hr⟩
    · rintro ⟨i, rfl, hi⟩
      have := hi.2
      rw [T.zero r hr] at this
      rw [T.eq_of_zero hr hi.1 (by omega)]
  | @step v u l hu hw ih =>
    intro x
    have huk := T.up_lt hu
    have e1 := T.symd hr hv
    have e2 := T.symd hr huk
    have e3 := hu.2
    rw [List.mem_cons, ih huk]
    constructor
    · rintro (rfl | ⟨i, rfl, hi⟩)
      · exact ⟨v, rfl, T.btw_l hv hr⟩
      · refine ⟨i, rfl, hi.1, ?_⟩
        have h1 := T.tri (a := v) (b := i) hv hi.1 hr
        have h2 := T.tri (a := v) (b := u) hv huk hi.1
        have h3 := T.one (T.sym _ _ hu.1)
        have h4 := hi.2
        omega
    · rintro ⟨i, rfl, hi⟩
      by_cases e : i = v
      · exact .inl (by rw [e])
      · right
        refine ⟨i, rfl, hi.1, ?_⟩
        -- the step from v towards i
        obtain ⟨w, hw1⟩ := T.up_ex hi.1 hv (Ne.symm e)
        have hb : T.btw r v i := T.btw_sym hv hr hi
        have hwk := T.up_lt hw1
        have h1 := hw1.2
        have h2 := T.tri (a := w) (b := i) hwk hi.1 hr
        have h3 := T.symd hi.1 hv
        have h4 := T.symd hi.1 hwk
        have h5 := hi.2
        have h6 := T.step r w v hr hw1.1
        have h7 := T.symd hr hwk
        have h8 : T.up r v w := ⟨hw1.1, by omega⟩
        have := T.uniq r w u v hr h8.1 hu.1 h8.2 hu.2
        subst this
        omega
/-- the way, at a place -/
theorem way_at {r v : Nat} {l : List Int} (hr : r < k) (hv : v < k) (h : T.Way r v l) : ∀ j : Nat, j < l.length → ∃ i : Nat, l[j]? = some (i : Int) ∧ T.btw v r i ∧ d r i + j = d r v := by
  induction h with
  | root => intro j hj; simp at hj; subst hj; exact ⟨r, rfl, T.btw_l hr hr, by omega⟩
  | @step v u l hu hw ih =>
    intro j hj
    have huk := T.up_lt hu
    cases j with
    | zero => exact ⟨v, rfl, T.btw_l hv hr, by omega⟩
    | succ j =>
      obtain ⟨i, h1, h2, h3⟩ := ih huk j (by rw [List.length_cons] at hj; omega)
      have hm : (i : Int) ∈ l := List.mem_of_getElem? h1
      obtain ⟨i', e, hi'⟩ := (T.way_mem hr hv (.step hu hw) (i : Int)).1 (List.mem_cons_of_mem _ hm)
      have : i = i' := by omega
      subst this
      exact ⟨i, by simpa using h1, hi', by have := hu.2; omega⟩
/-- turned -/
theorem way_rev {a b : Nat} {l l' : List Int} (ha : a < k) (hb : b < k) (h : T.Way b a l) (h' : T.Way a b l') : l.reverse = l' := by
  have n1 := T.way_len hb h
  have n2 := T.way_len ha h'
  have e := T.symd ha hb
  apply List.ext_getElem?
  intro j
  by_cases hj : j < l'.length
  · obtain ⟨i, h1, h2, h3⟩ := T.way_at ha hb h' j hj
    rw [h1, List.getElem?_reverse (by omega)]
    obtain ⟨i', q1, q2, q3⟩ := T.way_at hb ha h (l.length - 1 - j) (by omega)
    rw [q1]
    have h2' := T.btw_sym hb ha h2
    have := T.on_uniq ha hb _ i' i rfl (by rw [T.symd h2.1 hb, T.symd q2.1 hb]; have := h2'.2; have := T.symd h2.1 hb; omega) q2 h2'
    rw [this]
  · rw [List.getElem?_eq_none (by rw [List.length_reverse]; omega), List.getElem?_eq_none (by omega)]
/-- whom two hang on -/
def meet (r a b m : Nat) : Prop := T.btw a b m ∧ T.btw a r m ∧ T.btw b r m
theorem meet_uniq {r a b m m' : Nat} (hr : r < k) (ha : a < k) (hb : b < k) (h : T.meet r a b m) (h' : T.meet r a b m') : m = m' := by
  obtain ⟨p1, p2, p3⟩ := h
  obtain ⟨q1, q2, q3⟩ := h'
  refine T.on_uniq ha hb _ m m' rfl ?_ p1 q1
  have := p1.2; have := p2.2; have := p3.2; have := q1.2; have := q2.2; have := q3.2
  have := T.symd hb p1.1; have := T.symd hb q1.1
  omega
/-- going up from b until it is between a and r -/
theorem meet_up {r a b : Nat} (hr : r < k) (ha : a < k) (hb : b < k) : ∀ n v, d r v = n → T.btw b r v → T.btw a b v → ∃ m, T.meet r a b m := by
  intro n
  induction n with
  | zero =>
    intro v h h1 h2
    have := T.eq_of_zero hr h1.1 h
    subst this
    exact ⟨v, h2, T.btw_r ha hr, h1⟩
  | succ n ih =>
    intro v h h1 h2
    by_cases c : d a r = d a v + d v r
    · exact ⟨v, h2, ⟨h1.1, c⟩, h1⟩
    · have hne : v ≠ r := fun e => by subst e; rw [T.zero v hr] at h; omega
      obtain ⟨u, hu⟩ := T.up_ex hr h1.1 hne
      have hua := T.same ha hr h1.1 c hu
      exact ih u (by have := hu.2; omega) (T.btw_up hb hr h1 hu).1 (T.btw_sym hb ha (T.btw_up hb ha (T.btw_sym ha hb h2) hua).1)
theorem meet_ex {r a b : Nat} (hr : r < k) (ha : a < k) (hb : b < k) : ∃ m, T.meet r a b m :=
  T.meet_up hr ha hb _ b rfl (T.btw_l hb hr) (T.btw_r ha hb)
end Tr
end Go.Proofs.YtekfgkeimlidhaaGreatDoor
