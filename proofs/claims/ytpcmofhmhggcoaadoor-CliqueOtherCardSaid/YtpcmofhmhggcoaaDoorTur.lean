import Derived.Test.YtpcmofhmhggcoaaDoorCM
/- Turan, plain -/
set_option linter.all false
set_option maxRecDepth 100000
namespace Go.Proofs.YtpcmofhmhggcoaaDoor.Pl
def sumf (f : Nat → Nat) (l : List Nat) : Nat := (l.map f).sum
theorem sumf_cons (f : Nat → Nat) (x : Nat) (l : List Nat) : sumf f (x :: l) = f x + sumf f l := by simp [sumf]
theorem sumf_split (f : Nat → Nat) (p : Nat → Bool) : ∀ l, sumf f l = sumf f (l.filter p) + sumf f (l.filter fun x => !p x)
  | [] => rfl
  | x :: l => by
    have := sumf_split f p l
    cases h : p x <;> simp [h, sumf_cons, this] <;> omega
theorem sumf_le {f : Nat → Nat} {c : Nat} : ∀ {l : List Nat}, (∀ x ∈ l, f x ≤ c) → sumf f l ≤ l.length * c
  | [], _ => by simp [sumf]
  | x :: l, h => by
    have h1 := h x List.mem_cons_self
    have h2 := sumf_le (l := l) fun y hy => h y (List.mem_cons_of_mem _ hy)
    rw [sumf_cons, List.length_cons, Nat.add_mul, Nat.one_mul]; omega
def deg (a : Nat → Nat → Bool) (ys : List Nat) (x : Nat) : Nat := (ys.filter (a x)).length
def cnt (a : Nat → Nat → Bool) (xs ys : List Nat) : Nat := sumf (deg a ys) xs
theorem deg_cons (a : Nat → Nat → Bool) (y : Nat) (ys : List Nat) (x : Nat) : deg a (y :: ys) x = (if a x y then 1 else 0) + deg a ys x := by
  unfold deg; cases h : a x y <;> simp [h]; omega
theorem deg_split (a : Nat → Nat → Bool) (p : Nat → Bool) (ys : List Nat) (x : Nat) : deg a ys x = deg a (ys.filter p) x + deg a (ys.filter fun y => !p y) x := by
  induction ys with
  | nil => rfl
  | cons y ys ih => cases h : p y <;> simp [h, deg_cons, ih] <;> omega
theorem sumf_add (f g : Nat → Nat) : ∀ l, sumf (fun x => f x + g x) l = sumf f l + sumf g l
  | [] => rfl
  | x :: l => by rw [sumf_cons, sumf_cons, sumf_cons, sumf_add f g l]; omega
theorem sumf_congr {f g : Nat → Nat} (h : ∀ x, f x = g x) (l : List Nat) : sumf f l = sumf g l := by rw [show f = g from funext h]
theorem ind_deg {a : Nat → Nat → Bool} (hs : ∀ i j, a i j = a j i) (x : Nat) : ∀ ys, sumf (fun y => if a y x then 1 else 0) ys = deg a ys x
  | [] => rfl
  | y :: ys => by rw [sumf_cons, ind_deg hs x ys, deg_cons, hs y x]
theorem sumf_one : ∀ l, sumf (fun _ => 1) l = l.length
  | [] => rfl
  | x :: l => by rw [sumf_cons, sumf_one l, List.length_cons]; omega
theorem cnt_sym {a : Nat → Nat → Bool} (hs : ∀ i j, a i j = a j i) : ∀ xs ys, cnt a xs ys = cnt a ys xs
  | [], ys => by
    unfold cnt
    have : ∀ l : List Nat, sumf (deg a []) l = 0 := fun l => by induction l with
      | nil => rfl
      | cons y l ih => rw [sumf_cons, ih]; rfl
    rw [this]; rfl
  | x :: xs, ys => by
    have ih := cnt_sym hs xs ys
    unfold cnt at ih ⊢
    rw [sumf_cons, ih, sumf_congr (fun y => deg_cons a x xs y), sumf_add, ind_deg hs]
def pc (f : Nat → Bool) : Nat → Nat
  | 0 => 0
  | b+1 => pc f b + (if f b then 1 else 0)
def tri (f : Nat → Nat → Bool) : Nat → Nat
  | 0 => 0
  | a+1 => tri f a + pc (f a) a
def tur (n r : Nat) : Nat := tri (fun a b => a % r != b % r) n
theorem tur_step : ∀ n ≤ 8, ∀ r ≤ n, 1 ≤ r → r * (r - 1) + 2 * ((n - r) * (r - 1)) + 2 * tur (n - r) r = 2 * tur n r := by decide
theorem tur_mono : ∀ n ≤ 8, ∀ r ≤ 8, 1 ≤ r → tur n r ≤ tur n (r + 1) := by decide
def CL (a : Nat → Nat → Bool) (C : List Nat) : Prop := ∀ u ∈ C, ∀ v ∈ C, u ≠ v → a u v = true
theorem filter_all {p : Nat → Bool} : ∀ {l : List Nat}, (l.filter p).length = l.length → ∀ x ∈ l, p x = true
  | [], _, x, hx => by cases hx
  | y :: l, h, x, hx => by
    have hle := List.length_filter_le p l
    cases e : p y
    · simp [e] at h; omega
    · simp [e] at h
      rcases List.mem_cons.1 hx with rfl | hx
      · exact e
      · exact filter_all (by rw [List.length_filter_eq_length_iff]; exact h) x hx
theorem turan (a : Nat → Nat → Bool) (hs : ∀ i j, a i j = a j i) (hi : ∀ i, a i i = false) : ∀ (n : Nat), n ≤ 8 → ∀ r, 1 ≤ r → r ≤ 8 → ∀ (S : List Nat), S.length = n → S.Nodup →
    (∀ C : List Nat, C.Nodup → (∀ x ∈ C, x ∈ S) → CL a C → C.length ≤ r) → cnt a S S ≤ 2 * tur n r := by
  intro n
  induction n using Nat.strongRecOn with
  | _ n ihn =>
    intro hn r
    induction r with
    | zero => intro h; omega
    | succ r ihr =>
      intro _ hr8 S hS hnd hC
      by_cases hex : ∃ C : List Nat, C.Nodup ∧ (∀ x ∈ C, x ∈ S) ∧ CL a C ∧ C.length = r + 1
      · obtain ⟨C, hCn, hCs, hCc, hCl⟩ := hex
        let p : Nat → Bool := fun x => decide (x ∈ C)
        have m1 : ∀ x, x ∈ S.filter p ↔ x ∈ S ∧ x ∈ C := fun x => by simp [p]
        have m2 : ∀ x, x ∈ S.filter (fun x => !p x) ↔ x ∈ S ∧ x ∉ C := fun x => by simp [p]
        have l1 : (S.filter p).length = r + 1 := by
          apply Nat.le_antisymm
          · rw [← hCl]; exact nodup_len_le (hnd.filter _) fun x hx => ((m1 x).1 hx).2
          · rw [← hCl]; exact nodup_len_le hCn fun x hx => (m1 x).2 ⟨hCs x hx, hx⟩
        have l12 : (S.filter p).length + (S.filter fun x => !p x).length = S.length := by
          have := sumf_split (fun _ => 1) p S
          rw [sumf_one, sumf_one, sumf_one] at this; exact this.symm
        have l2 : (S.filter fun x => !p x).length = n - (r + 1) := by omega
        have hrn : r + 1 ≤ n := by omega
        generalize hS1 : S.filter p = S1 at *
        generalize hS2 : (S.filter fun x => !p x) = S2 at *
        have c1 : CL a S1 := fun u hu v hv hne => hCc u ((m1 u).1 hu).2 v ((m1 v).1 hv).2 hne
        have nd1 : S1.Nodup := by rw [← hS1]; exact hnd.filter _
        have nd2 : S2.Nodup := by rw [← hS2]; exact hnd.filter _
        have d1 : cnt a S1 S1 ≤ (r + 1) * r := by
          rw [← l1]
          refine sumf_le fun x hx => ?_
          unfold deg
          have h1 := List.length_filter_le (a x) S1
          apply Classical.byContradiction; intro h
          have h2 : (S1.filter (a x)).length = S1.length := by omega
          have := filter_all h2 x hx
          rw [hi x] at this; cases this
        have d2 : cnt a S2 S1 ≤ (n - (r + 1)) * r := by
          rw [← l2]
          refine sumf_le fun y hy => ?_
          unfold deg
          have h1 := List.length_filter_le (a y) S1
          apply Classical.byContradiction; intro h
          have h2 : (S1.filter (a y)).length = S1.length := by omega
          have hall := filter_all h2
          have hyC := ((m2 y).1 hy).2
          have := hC (y :: S1) (List.nodup_cons.2 ⟨fun hm => hyC ((m1 y).1 hm).2, nd1⟩) (fun x hx => by
            rcases List.mem_cons.1 hx with rfl | hx
            · exact ((m2 _).1 hy).1
            · exact ((m1 x).1 hx).1) (fun u hu v hv hne => by
            rcases List.mem_cons.1 hu with e1 | h1 <;> rcases List.mem_cons.1 hv with e2 | h2
            · exact absurd (e1.trans e2.symm) hne
            · rw [e1]; exact hall v h2
            · rw [hs, e2]; exact hall u h1
            · exact c1 u h1 v h2 hne)
          rw [List.length_cons, l1] at this; omega
        have d3 := ihn (n - (r + 1)) (by omega) (by omega) (r + 1) (by omega) hr8 S2 l2 nd2 (fun C' h1 h2 h3 => hC C' h1 (fun x hx => ((m2 x).1 (h2 x hx)).1) h3)
        have hsplit : cnt a S S = cnt a S1 S1 + cnt a S2 S1 + (cnt a S2 S1 + cnt a S2 S2) := by
          have e1 : cnt a S S = cnt a S S1 + cnt a S S2 := by
            unfold cnt
            rw [sumf_congr (fun x => deg_split a p S x), sumf_add, hS1, hS2]
          have e2 : ∀ T, cnt a S T = cnt a S1 T + cnt a S2 T := fun T => by
            unfold cnt; rw [sumf_split (deg a T) p S, hS1, hS2]
          rw [e1, e2 S1, e2 S2, cnt_sym hs S1 S2]
        have hst := tur_step n hn (r + 1) hrn (by omega)
        rw [Nat.add_sub_cancel] at hst
        have := d1; have := d2
        omega
      · by_cases hr0 : r = 0
        · subst hr0
          have : S = [] := by
            cases S with
            | nil => rfl
            | cons x S =>
              exact absurd ⟨[x], by simp, by simp, (by intro u hu v hv hne; simp at hu hv; omega), rfl⟩ hex
          subst this
          simp [cnt, sumf]
        · have := ihr (by omega) (by omega) S hS hnd (fun C h1 h2 h3 => by
            have := hC C h1 h2 h3
            rcases Nat.lt_or_ge C.length (r + 1) with h | h
            · omega
            · exact absurd ⟨C, h1, h2, h3, by omega⟩ hex)
          have hm := tur_mono n hn r (by omega) (by omega)
          omega
theorem cnt_range (a : Nat → Nat → Bool) (hs : ∀ i j, a i j = a j i) (hi : ∀ i, a i i = false) : ∀ n, cnt a (List.range n) (List.range n) = 2 * tri a n
  | 0 => rfl
  | n+1 => by
    have ih := cnt_range a hs hi n
    have dpc : ∀ m, deg a (List.range m) n = pc (a n) m := by
      intro m
      induction m with
      | zero => rfl
      | succ m ihm =>
        rw [List.range_succ]
        unfold deg at ihm ⊢
        rw [List.filter_append, List.length_append, ihm]
        cases h : a n m <;> simp [h, pc]
    have snoc : ∀ (f : Nat → Nat) (l : List Nat) (x : Nat), sumf f (l ++ [x]) = sumf f l + f x := fun f l x => by simp [sumf]
    have e : cnt a (List.range (n+1)) (List.range (n+1)) = cnt a (List.range n) (List.range n) + cnt a (List.range n) [n] + deg a (List.range n) n + deg a [n] n := by
      have dsn : ∀ x, deg a (List.range n ++ [n]) x = deg a (List.range n) x + deg a [n] x := fun x => by unfold deg; rw [List.filter_append, List.length_append]
      rw [List.range_succ]
      unfold cnt
      rw [snoc, sumf_congr dsn, sumf_add, dsn]; omega
    have e2 : cnt a (List.range n) [n] = deg a (List.range n) n := by
      rw [cnt_sym hs]; simp [cnt, sumf]
    have e3 : deg a [n] n = 0 := by simp [deg, hi]
    rw [e, e2, e3, dpc, ih, tri]; omega
theorem turan_range {a : Nat → Nat → Bool} (hs : ∀ i j, a i j = a j i) (hi : ∀ i, a i i = false) {n r : Nat} (hn : n ≤ 8) (h1 : 1 ≤ r) (h8 : r ≤ 8)
    (hC : ∀ C : List Nat, C.Nodup → (∀ x ∈ C, x < n) → CL a C → C.length ≤ r) : tri a n ≤ tur n r := by
  have := turan a hs hi n hn r h1 h8 (List.range n) (by simp) List.nodup_range (fun C h1 h2 h3 => hC C h1 (fun x hx => List.mem_range.1 (h2 x hx)) h3)
  rw [cnt_range a hs hi] at this; omega
end Go.Proofs.YtpcmofhmhggcoaaDoor.Pl
