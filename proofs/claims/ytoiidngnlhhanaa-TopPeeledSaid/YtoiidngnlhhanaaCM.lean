import Derived.Test.YtoiidngnlhhanaaCS
import Derived.Test.YtoiidngnlhhanaaApart2
/- each clique lies in one of the sets that whole finds -/
set_option linter.all false
set_option maxRecDepth 100000
namespace Go.Proofs.Ytoiidngnlhhanaa.Pl
def Clq (bes : List Nat) (K : Nat) : Prop := ∀ u v, K.testBit u = true → K.testBit v = true → u ≠ v → adj bes u v = true
/-- K with each point below i that goes with all of it -/
def grow (bes : List Nat) (K : Nat) : Nat → Nat
  | 0 => K
  | i+1 => if (List.range 16).all fun u => !(grow bes K i).testBit u || adj bes u i then grow bes K i ||| 2 ^ i else grow bes K i
theorem or_bit (K i v : Nat) : (K ||| 2 ^ i).testBit v = (K.testBit v || decide (i = v)) := by
  rw [Nat.testBit_or, Nat.testBit_two_pow]
theorem grow_lt {bes : List Nat} {K k : Nat} (hK : K < 2 ^ k) : ∀ i ≤ k, grow bes K i < 2 ^ k
  | 0, _ => hK
  | i+1, h => by
    unfold grow; split
    · exact Nat.or_lt_two_pow (grow_lt hK i (by omega)) (Nat.pow_lt_pow_right (by omega) (by omega))
    · exact grow_lt hK i (by omega)
theorem grow_sub {bes : List Nat} {K : Nat} : ∀ i v, K.testBit v = true → (grow bes K i).testBit v = true
  | 0, _, h => h
  | i+1, v, h => by
    unfold grow; split
    · rw [or_bit, grow_sub i v h]; rfl
    · exact grow_sub i v h
theorem grow_clq {bes : List Nat} (hsym : ∀ i j, adj bes i j = adj bes j i) {K k : Nat} (hk : k ≤ 16) (hK : K < 2 ^ k) (hc : Clq bes K) : ∀ i ≤ k, Clq bes (grow bes K i)
  | 0, _ => hc
  | i+1, h => by
    have ih := grow_clq hsym hk hK hc i (by omega)
    have hlt := grow_lt (bes := bes) hK i (by omega)
    unfold grow; split
    · rename_i hall
      have hall' : ∀ u, (grow bes K i).testBit u = true → adj bes u i = true := by
        intro u hu
        have hu16 : u < 16 := by
          apply Classical.byContradiction; intro hn
          have : (grow bes K i).testBit u = false := Nat.testBit_lt_two_pow (Nat.lt_of_lt_of_le hlt (Nat.pow_le_pow_right (by omega) (by omega)))
          rw [this] at hu; cases hu
        have := List.all_eq_true.1 hall u (List.mem_range.2 hu16)
        rw [hu] at this; simpa using this
      intro u v hu hv hne
      rw [or_bit, Bool.or_eq_true, decide_eq_true_eq] at hu hv
      rcases hu with hu | rfl <;> rcases hv with hv | rfl
      · exact ih u v hu hv hne
      · exact hall' u hu
      · rw [hsym]; exact hall' v hv
      · exact absurd rfl hne
    · exact ih
theorem grow_max {bes : List Nat} {K : Nat} : ∀ i v, v < i → (grow bes K i).testBit v = false → ∃ u, (grow bes K i).testBit u = true ∧ adj bes u v = false
  | 0, v, h, _ => by omega
  | i+1, v, h, hv => by
    have key : v < i → (grow bes K i).testBit v = false → ∃ u, (grow bes K (i+1)).testBit u = true ∧ adj bes u v = false := by
      intro hvi hv'
      obtain ⟨u, h1, h2⟩ := grow_max i v hvi hv'
      refine ⟨u, ?_, h2⟩
      unfold grow; split
      · rw [or_bit, h1]; rfl
      · exact h1
    by_cases hvi : v < i
    · refine key hvi ?_
      unfold grow at hv; split at hv
      · rw [or_bit, Bool.or_eq_false_iff] at hv; exact hv.1
      · exact hv
    · have hvi : v = i := by omega
      subst hvi
      unfold grow at hv; split at hv
      · rw [or_bit, Bool.or_eq_false_iff] at hv; simp at hv
      · rename_i hno
        simp only [Bool.not_eq_true, List.all_eq_false] at hno
        obtain ⟨u, _, hu⟩ := hno
        refine ⟨u, ?_, ?_⟩
        · unfold grow; split
          · rename_i hall; exact absurd hall (by simp only [Bool.not_eq_true, List.all_eq_false]; exact ⟨u, ‹_›, hu⟩)
          · cases e : (grow bes K v).testBit u
            · rw [e] at hu; simp at hu
            · rfl
        · cases e : adj bes u v
          · rfl
          · rw [e] at hu; simp at hu
theorem ones_bit (k v : Nat) : (2 ^ k - 1).testBit v = decide (v < k) := Nat.testBit_two_pow_sub_one k v
theorem clique_in (bes : List Nat) (hsym : ∀ i j, adj bes i j = adj bes j i) (hb : NoLoop bes) {k : Nat} (hk : k ≤ 8) (K : Nat) (hK : K < 2 ^ k) (hc : Clq bes K) :
    ∃ M ∈ wholeM bes 8 0 (2 ^ k - 1) 0, M < 2 ^ k ∧ ∀ v, K.testBit v = true → M.testBit v = true := by
  have hp := Nat.pow_le_pow_right (n := 2) (by omega) hk
  have hlt := grow_lt (bes := bes) hK k (Nat.le_refl _)
  refine ⟨grow bes K k, whole_complete bes hsym hb 8 0 (2 ^ k - 1) 0 _ ?_ (by omega) (by omega) ?_ ?_ ?_ ?_ ?_, hlt, grow_sub k⟩
  · have e : ∀ j ≤ 8, (memb (2 ^ j - 1)).length ≤ 8 := by decide
    exact e k hk
  · intro v _ u hu; rw [Nat.zero_testBit] at hu; cases hu
  · intro v hv; rw [Nat.zero_testBit] at hv; cases hv
  · intro v hv; right
    rw [ones_bit, decide_eq_true_eq]
    apply Classical.byContradiction; intro hn
    rw [Nat.testBit_lt_two_pow (Nat.lt_of_lt_of_le hlt (Nat.pow_le_pow_right (by omega) (by omega)))] at hv; cases hv
  · exact grow_clq hsym (by omega) hK hc k (Nat.le_refl _)
  · intro v hv hKv
    refine grow_max k v ?_ hKv
    rw [ones_bit, Nat.zero_testBit] at hv
    simpa using hv
theorem besM_sym {n : Nat} {l : List (Int × Int)} (h : InL n l) : ∀ i j, adj (besM n l) i j = adj (besM n l) j i := by
  intro i j; unfold adj
  rw [besM_bit h, besM_bit h, Bool.or_comm]
  congr 1 <;> · congr 1; funext p; rw [Bool.and_comm]
theorem others_sym {bes : List Nat} {k : Nat} (hl : bes.length = k) (hbd : ∀ m ∈ bes, m < 2 ^ k) (hs : ∀ i j, adj bes i j = adj bes j i) : ∀ i j, adj (othersM bes k) i j = adj (othersM bes k) j i := by
  have key : ∀ i j, ¬ i < k → adj (othersM bes k) j i = false := by
    intro i j hi
    unfold adj
    by_cases hj : j < k
    · rw [others_bit bes k hl j i hj]; simp [hi]
    · rw [others_out bes k hl j hj, Nat.zero_testBit]
  intro i j
  by_cases hi : i < k
  · by_cases hj : j < k
    · have := hs i j
      unfold adj at this ⊢
      rw [others_bit bes k hl i j hi, others_bit bes k hl j i hj, this]
      simp [hi, hj, eq_comm]
    · rw [key j i hj]; unfold adj; rw [others_out bes k hl j hj, Nat.zero_testBit]
  · rw [key i j hi]; unfold adj; rw [others_out bes k hl i hi, Nat.zero_testBit]
theorem memb_subset {a b : Nat} (h : ∀ v, a.testBit v = true → b.testBit v = true) : (memb a).length ≤ (memb b).length := by
  unfold memb
  induction List.range 16 with
  | nil => simp
  | cons z l ih =>
    cases hq : a.testBit z
    · cases hp : b.testBit z <;> simp [hq, hp] <;> omega
    · simp [hq, h z hq]; omega
theorem mostOf_ge {ms : List Nat} {m : Nat} (h : m ∈ ms) : (memb m).length ≤ ms.foldl (fun a m => max a (memb m).length) 0 := by
  have key : ∀ (ms : List Nat) (a : Nat), a ≤ ms.foldl (fun a m => max a (memb m).length) a ∧ ∀ m ∈ ms, (memb m).length ≤ ms.foldl (fun a m => max a (memb m).length) a := by
    intro ms
    induction ms with
    | nil => intro a; simp
    | cons x ms ih =>
      intro a
      obtain ⟨i1, i2⟩ := ih (max a (memb x).length)
      refine ⟨by simp only [List.foldl_cons]; omega, fun m hm => ?_⟩
      rcases List.mem_cons.1 hm with rfl | hm
      · simp only [List.foldl_cons]; omega
      · exact i2 m hm
  exact (key ms 0).2 m h
/-- the mask of a list -/
def maskOf (xs : List Nat) : Nat := xs.foldr (fun x m => m ||| 2 ^ x) 0
theorem maskOf_bit : ∀ (xs : List Nat) (v : Nat), (maskOf xs).testBit v = decide (v ∈ xs)
  | [], v => by simp [maskOf]
  | x :: xs, v => by
    have := maskOf_bit xs v
    unfold maskOf at this ⊢
    rw [List.foldr_cons, or_bit, this]
    rw [Bool.eq_iff_iff, Bool.or_eq_true, decide_eq_true_eq, decide_eq_true_eq, decide_eq_true_eq, List.mem_cons]
    constructor
    · rintro (h | h)
      · exact .inr h
      · exact .inl h.symm
    · rintro (h | h)
      · exact .inr h.symm
      · exact .inl h
theorem maskOf_lt {k : Nat} : ∀ {xs : List Nat}, (∀ x ∈ xs, x < k) → maskOf xs < 2 ^ k
  | [], _ => Nat.two_pow_pos k
  | x :: xs, h => by
    unfold maskOf; rw [List.foldr_cons]
    exact Nat.or_lt_two_pow (maskOf_lt fun y hy => h y (List.mem_cons_of_mem _ hy)) (Nat.pow_lt_pow_right (by omega) (h x List.mem_cons_self))
theorem nodup_len_le : ∀ {l l' : List Nat}, l.Nodup → (∀ x ∈ l, x ∈ l') → l.length ≤ l'.length
  | [], _, _, _ => by simp
  | x :: l, l', hn, h => by
    rw [List.nodup_cons] at hn
    have hx := h x List.mem_cons_self
    have h1 : ∀ y ∈ l, y ∈ l'.erase x := fun y hy => by
      have hne : y ≠ x := fun e => hn.1 (e ▸ hy)
      exact (List.mem_erase_of_ne hne).2 (h y (List.mem_cons_of_mem _ hy))
    have := nodup_len_le hn.2 h1
    rw [List.length_erase_of_mem hx] at this
    have : 0 < l'.length := List.length_pos_of_mem hx
    simp only [List.length_cons]; omega
theorem maskOf_len {xs : List Nat} (hn : xs.Nodup) (h : ∀ x ∈ xs, x < 16) : xs.length ≤ (memb (maskOf xs)).length :=
  nodup_len_le hn fun x hx => (mem_memb (maskOf_lt h)).2 (by rw [maskOf_bit]; simpa using hx)
/-- points all beside each other are no more than mostOf -/
theorem clique_most (bes : List Nat) (hsym : ∀ i j, adj bes i j = adj bes j i) (hb : NoLoop bes) {k : Nat} (hk : k ≤ 8) (xs : List Nat) (hn : xs.Nodup) (h : ∀ x ∈ xs, x < k) (hc : ∀ u ∈ xs, ∀ v ∈ xs, u ≠ v → adj bes u v = true) :
    xs.length ≤ (wholeM bes 8 0 (2 ^ k - 1) 0).foldl (fun a m => max a (memb m).length) 0 := by
  obtain ⟨M, hM, hlt, hsub⟩ := clique_in bes hsym hb hk (maskOf xs) (maskOf_lt h) (fun u v hu hv hne => hc u (by rw [maskOf_bit] at hu; simpa using hu) v (by rw [maskOf_bit] at hv; simpa using hv) hne)
  exact Nat.le_trans (maskOf_len hn fun x hx => by have := h x hx; omega) (Nat.le_trans (memb_subset hsub) (mostOf_ge hM))
/-- of six points -/
theorem ramsey6 (a : Nat → Nat → Bool) : ∃ x y z, x < y ∧ y < z ∧ z < 6 ∧ ((a x y = true ∧ a x z = true ∧ a y z = true) ∨ (a x y = false ∧ a x z = false ∧ a y z = false)) := by
  have tri : ∀ (b : Bool) (x y z : Nat), 0 < x → x < y → y < z → z < 6 → a 0 x = b → a 0 y = b → a 0 z = b → ∃ x y z, x < y ∧ y < z ∧ z < 6 ∧ ((a x y = true ∧ a x z = true ∧ a y z = true) ∨ (a x y = false ∧ a x z = false ∧ a y z = false)) := by
    intro b x y z h0 h1 h2 h3 e1 e2 e3
    by_cases f1 : a x y = b
    · exact ⟨0, x, y, h0, h1, by omega, by cases b <;> simp [*]⟩
    · by_cases f2 : a x z = b
      · exact ⟨0, x, z, h0, by omega, h3, by cases b <;> simp [*]⟩
      · by_cases f3 : a y z = b
        · exact ⟨0, y, z, by omega, h2, h3, by cases b <;> simp [*]⟩
        · exact ⟨x, y, z, h1, h2, h3, by cases b <;> simp_all⟩
  cases e1 : a 0 1 <;> cases e2 : a 0 2 <;> cases e3 : a 0 3 <;> cases e4 : a 0 4 <;> cases e5 : a 0 5
  all_goals first
    | exact tri _ 1 2 3 (by omega) (by omega) (by omega) (by omega) e1 (e2.trans (by rfl)) (e3.trans (by rfl))
    | exact tri _ 1 2 4 (by omega) (by omega) (by omega) (by omega) e1 (e2.trans (by rfl)) (e4.trans (by rfl))
    | exact tri _ 1 2 5 (by omega) (by omega) (by omega) (by omega) e1 (e2.trans (by rfl)) (e5.trans (by rfl))
    | exact tri _ 1 3 4 (by omega) (by omega) (by omega) (by omega) e1 (e3.trans (by rfl)) (e4.trans (by rfl))
    | exact tri _ 1 3 5 (by omega) (by omega) (by omega) (by omega) e1 (e3.trans (by rfl)) (e5.trans (by rfl))
    | exact tri _ 1 4 5 (by omega) (by omega) (by omega) (by omega) e1 (e4.trans (by rfl)) (e5.trans (by rfl))
    | exact tri _ 2 3 4 (by omega) (by omega) (by omega) (by omega) e2 (e3.trans (by rfl)) (e4.trans (by rfl))
    | exact tri _ 2 3 5 (by omega) (by omega) (by omega) (by omega) e2 (e3.trans (by rfl)) (e5.trans (by rfl))
    | exact tri _ 2 4 5 (by omega) (by omega) (by omega) (by omega) e2 (e4.trans (by rfl)) (e5.trans (by rfl))
    | exact tri _ 3 4 5 (by omega) (by omega) (by omega) (by omega) e3 (e4.trans (by rfl)) (e5.trans (by rfl))
end Go.Proofs.Ytoiidngnlhhanaa.Pl
