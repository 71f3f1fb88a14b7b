import Derived.Test.YtabkmceajgpdjaaDoorAl
/- tournaments, plain -/
set_option linter.all false
set_option maxRecDepth 100000
namespace Go.Proofs.YtabkmceajgpdjaaDoor.To
/-- of each two points below k one beats the other one -/
structure Tn (k : Nat) (b : Nat → Nat → Bool) : Prop where
  irr : ∀ x, b x x = false
  lt : ∀ x y, b x y = true → x < k ∧ y < k
  one : ∀ x y, x < k → y < k → x ≠ y → b x y = !b y x
theorem Tn.no {k : Nat} {b : Nat → Nat → Bool} (h : Tn k b) {x y : Nat} (hx : x < k) (hy : y < k) (hne : x ≠ y) (e : b x y = false) : b y x = true := by
  have := h.one x y hx hy hne
  rw [e] at this
  cases c : b y x
  · rw [c] at this; cases this
  · rfl
theorem Tn.asym {k : Nat} {b : Nat → Nat → Bool} (h : Tn k b) {x y : Nat} (e : b x y = true) : b y x = false := by
  obtain ⟨hx, hy⟩ := h.lt x y e
  have hne : x ≠ y := fun q => by subst q; rw [h.irr] at e; cases e
  have := h.one x y hx hy hne
  rw [e] at this
  cases c : b y x
  · rfl
  · rw [c] at this; cases this
/-! ### the row -/
def put (p : Nat → Bool) (x : Nat) : List Nat → List Nat
  | [] => [x]
  | y :: r => if p y = true then x :: y :: r else y :: put p x r
theorem put_eq (p : Nat → Bool) (x : Nat) : ∀ out : List Nat, put p x out = out.take (out.findIdx p) ++ x :: out.drop (out.findIdx p)
  | [] => rfl
  | y :: r => by
    rw [put, List.findIdx_cons]
    cases e : p y
    · rw [if_neg (by decide), put_eq p x r]; rfl
    · rw [if_pos rfl]; rfl
theorem put_perm (p : Nat → Bool) (x : Nat) : ∀ out : List Nat, (put p x out).Perm (x :: out)
  | [] => .refl _
  | y :: r => by
    rw [put]
    cases e : p y
    · rw [if_neg (by decide)]; exact ((put_perm p x r).cons y).trans (.swap _ _ _)
    · rw [if_pos rfl]
/-- each one beats the next one -/
def Ch (b : Nat → Nat → Bool) : List Nat → Prop
  | [] => True
  | [_] => True
  | x :: y :: r => b x y = true ∧ Ch b (y :: r)
theorem put_ch {b : Nat → Nat → Bool} {x : Nat} : ∀ {l : List Nat}, Ch b l → (∀ y ∈ l, b x y = false → b y x = true) → Ch b (put (b x) x l)
  | [], _, _ => trivial
  | [y], _, h => by
    rw [put]
    cases e : b x y
    · rw [if_neg (by decide)]; exact ⟨h y List.mem_cons_self e, trivial⟩
    · rw [if_pos rfl]; exact ⟨e, trivial⟩
  | y :: z :: r, hc, h => by
    rw [put]
    cases e : b x y
    · rw [if_neg (by decide)]
      have ih := put_ch (x := x) hc.2 (fun w hw => h w (List.mem_cons_of_mem _ hw))
      rw [put] at ih ⊢
      cases e2 : b x z
      · rw [e2, if_neg (by decide)] at ih
        rw [if_neg (by decide)]; exact ⟨hc.1, ih⟩
      · rw [e2, if_pos rfl] at ih
        rw [if_pos rfl]; exact ⟨h y List.mem_cons_self e, ih⟩
    · rw [if_pos rfl]; exact ⟨e, hc⟩
def rowT (b : Nat → Nat → Bool) : Nat → List Nat
  | 0 => []
  | i+1 => put (b i) i (rowT b i)
theorem rowT_perm (b : Nat → Nat → Bool) : ∀ i, (rowT b i).Perm (List.range i)
  | 0 => .refl _
  | i+1 => by
    rw [rowT, List.range_succ]
    exact (put_perm _ _ _).trans (((rowT_perm b i).cons i).trans (List.perm_append_singleton _ _).symm)
theorem rowT_ch {k : Nat} {b : Nat → Nat → Bool} (h : Tn k b) : ∀ i, i ≤ k → Ch b (rowT b i)
  | 0, _ => trivial
  | i+1, hi => by
    rw [rowT]
    refine put_ch (rowT_ch h i (by omega)) fun y hy e => ?_
    have := List.mem_range.1 ((rowT_perm b i).mem_iff.1 hy)
    exact h.no (by omega) (by omega) (by omega) e
theorem Ch.at {b : Nat → Nat → Bool} : ∀ {l : List Nat}, Ch b l → ∀ i, i + 1 < l.length → b (l.getD i 0) (l.getD (i+1) 0) = true
  | [], _, i, h => by simp at h
  | [_], _, i, h => by simp at h
  | x :: y :: r, hc, 0, _ => hc.1
  | x :: y :: r, hc, i+1, h => by
    have := Ch.at hc.2 i (by simpa using h)
    simpa using this
/-! ### kings -/
theorem filter_lt {p q : Nat → Bool} : ∀ (l : List Nat), (∀ x ∈ l, p x = true → q x = true) → (∃ x ∈ l, q x = true ∧ p x = false) → (l.filter p).length < (l.filter q).length
  | [], _, h => by obtain ⟨x, hx, _⟩ := h; cases hx
  | y :: l, h1, h2 => by
    have hle : ∀ l : List Nat, (∀ x ∈ l, p x = true → q x = true) → (l.filter p).length ≤ (l.filter q).length := by
      intro l
      induction l with
      | nil => intro _; exact Nat.le_refl _
      | cons z l ih =>
        intro h
        have := ih (fun x hx => h x (List.mem_cons_of_mem _ hx))
        have hz := h z List.mem_cons_self
        cases hp : p z
        · cases hq : q z <;> simp [hq, hp] <;> omega
        · simp [hp, hz hp]; omega
    have hl := hle l (fun x hx => h1 x (List.mem_cons_of_mem _ hx))
    have hy := h1 y List.mem_cons_self
    by_cases hex : q y = true ∧ p y = false
    · simp [hex.1, hex.2]; omega
    · have hrec := filter_lt l (fun x hx => h1 x (List.mem_cons_of_mem _ hx)) (by
        obtain ⟨x, hx, hp⟩ := h2
        rcases List.mem_cons.1 hx with rfl | h
        · exact absurd hp hex
        · exact ⟨x, h, hp⟩)
      cases hp : p y
      · cases hq : q y
        · simp [hq, hp]; omega
        · exact absurd ⟨hq, hp⟩ hex
      · simp [hp, hy hp]; omega
theorem exists_max (f : Nat → Nat) : ∀ (l : List Nat), l ≠ [] → ∃ v ∈ l, ∀ u ∈ l, f u ≤ f v
  | [], h => absurd rfl h
  | [x], _ => ⟨x, List.mem_cons_self, fun u hu => by rw [List.mem_singleton.1 hu]; exact Nat.le_refl _⟩
  | x :: y :: l, _ => by
    obtain ⟨v, hv, h⟩ := exists_max f (y :: l) (by simp)
    by_cases c : f x ≤ f v
    · refine ⟨v, List.mem_cons_of_mem _ hv, fun u hu => ?_⟩
      rcases List.mem_cons.1 hu with rfl | hu
      · exact c
      · exact h u hu
    · refine ⟨x, List.mem_cons_self, fun u hu => ?_⟩
      rcases List.mem_cons.1 hu with rfl | hu
      · exact Nat.le_refl _
      · have := h u hu; omega
/-- who beats most within S comes to all of S in two steps -/
theorem king_in {k : Nat} {b : Nat → Nat → Bool} (h : Tn k b) (S : List Nat) (hS : ∀ x ∈ S, x < k) {w : Nat} (hw : w ∈ S) (hmax : ∀ u ∈ S, (S.filter (b u)).length ≤ (S.filter (b w)).length) :
    ∀ u ∈ S, u = w ∨ b w u = true ∨ ∃ x ∈ S, b w x = true ∧ b x u = true := by
  intro u hu
  apply Classical.byContradiction
  intro hno
  have hne : u ≠ w := fun e => hno (.inl e)
  have h1 : b w u = false := by
    cases e : b w u
    · rfl
    · exact absurd (.inr (.inl e)) hno
  have h2 : b u w = true := h.no (hS w hw) (hS u hu) (fun e => hne e.symm) h1
  have := filter_lt (p := b w) (q := b u) S (fun x hx hwx => by
    cases e : b u x
    · have hxu : x ≠ u := fun q => by rw [q, h1] at hwx; cases hwx
      exact absurd (.inr (.inr ⟨x, hx, hwx, h.no (hS u hu) (hS x hx) (fun q => hxu q.symm) e⟩)) hno
    · rfl) ⟨w, hw, h2, h.irr w⟩
  have := hmax u hu
  omega
def King (k : Nat) (b : Nat → Nat → Bool) (v : Nat) : Prop := v < k ∧ ∀ u, u < k → u = v ∨ b v u = true ∨ ∃ x, b v x = true ∧ b x u = true
theorem king_max {k : Nat} {b : Nat → Nat → Bool} (h : Tn k b) {w : Nat} (hw : w < k) (hmax : ∀ u, u < k → ((List.range k).filter (b u)).length ≤ ((List.range k).filter (b w)).length) : King k b w := by
  refine ⟨hw, fun u hu => ?_⟩
  rcases king_in h (List.range k) (fun x hx => List.mem_range.1 hx) (List.mem_range.2 hw) (fun u hu => hmax u (List.mem_range.1 hu)) u (List.mem_range.2 hu) with e | e | ⟨x, _, e1, e2⟩
  · exact .inl e
  · exact .inr (.inl e)
  · exact .inr (.inr ⟨x, e1, e2⟩)
/-- who is beaten is beaten by a king -/
theorem king_over {k : Nat} {b : Nat → Nat → Bool} (h : Tn k b) {v u : Nat} (hb : b u v = true) : ∃ w, King k b w ∧ b w v = true := by
  obtain ⟨hu, hv⟩ := h.lt u v hb
  have hS : ∀ x ∈ (List.range k).filter (fun x => b x v), x < k ∧ b x v = true := fun x hx => by
    have := List.mem_filter.1 hx; exact ⟨List.mem_range.1 this.1, this.2⟩
  obtain ⟨w, hw, hmax⟩ := exists_max (fun u => (((List.range k).filter (fun x => b x v)).filter (b u)).length) ((List.range k).filter (fun x => b x v)) (by
    intro e
    have : u ∈ (List.range k).filter (fun x => b x v) := List.mem_filter.2 ⟨List.mem_range.2 hu, hb⟩
    rw [e] at this; cases this)
  refine ⟨w, ⟨(hS w hw).1, fun y hy => ?_⟩, (hS w hw).2⟩
  by_cases e : y = v
  · subst e; exact .inr (.inl (hS w hw).2)
  · cases c : b y v
    · exact .inr (.inr ⟨v, (hS w hw).2, h.no hy hv e c⟩)
    · rcases king_in h _ (fun x hx => (hS x hx).1) hw hmax y (List.mem_filter.2 ⟨List.mem_range.2 hy, c⟩) with e | e | ⟨x, _, e1, e2⟩
      · exact .inl e
      · exact .inr (.inl e)
      · exact .inr (.inr ⟨x, e1, e2⟩)
theorem king_only {k : Nat} {b : Nat → Nat → Bool} (h : Tn k b) {v : Nat} (hv : v < k) (hno : ∀ u, b u v = false) : ∀ w, King k b w ↔ w = v := by
  intro w
  constructor
  · rintro ⟨hw, hk⟩
    rcases hk v hv with e | e | ⟨x, _, e⟩
    · exact e.symm
    · rw [hno] at e; cases e
    · rw [hno] at e; cases e
  · rintro rfl
    refine ⟨hv, fun u hu => ?_⟩
    by_cases e : u = w
    · exact .inl e
    · exact .inr (.inl (h.no hu hv e (hno u)))
theorem score_le {k : Nat} {b : Nat → Nat → Bool} (h : Tn k b) {v : Nat} (hv : v < k) : ((List.range k).filter (b v)).length + 1 ≤ k := by
  have := filter_lt (p := b v) (q := fun _ => true) (List.range k) (fun _ _ _ => rfl) ⟨v, List.mem_range.2 hv, rfl, h.irr v⟩
  rw [show (List.range k).filter (fun _ => true) = List.range k from List.filter_eq_self.2 (by simp), List.length_range] at this
  omega
theorem score_top {k : Nat} {b : Nat → Nat → Bool} (h : Tn k b) {v : Nat} (hv : v < k) : ((List.range k).filter (b v)).length + 1 = k ↔ ∀ u, b u v = false := by
  constructor
  · intro e u
    cases c : b u v
    · rfl
    · exfalso
      obtain ⟨hu, _⟩ := h.lt u v c
      have hne : u ≠ v := fun q => by subst q; rw [h.irr] at c; cases c
      have h1 := filter_lt (p := b v) (q := fun x => decide (x ≠ v)) (List.range k) (fun x _ hx => by
        rw [decide_eq_true_eq]; intro q; subst q; rw [h.irr] at hx; cases hx) ⟨u, List.mem_range.2 hu, decide_eq_true hne, h.asym c⟩
      have h2 := filter_lt (p := fun x => decide (x ≠ v)) (q := fun _ => true) (List.range k) (fun _ _ _ => rfl) ⟨v, List.mem_range.2 hv, rfl, by simp⟩
      rw [show (List.range k).filter (fun _ => true) = List.range k from List.filter_eq_self.2 (by simp), List.length_range] at h2
      omega
  · intro hno
    have hle := score_le h hv
    apply Classical.byContradiction
    intro hne
    have h2 : (List.range k).length ≤ (v :: (List.range k).filter (b v)).length := by
      refine nodup_len_le List.nodup_range fun x hx => ?_
      by_cases e : x = v
      · rw [e]; exact List.mem_cons_self
      · exact List.mem_cons_of_mem _ (List.mem_filter.2 ⟨hx, h.no (List.mem_range.1 hx) hv e (hno x)⟩)
    rw [List.length_range, List.length_cons] at h2
    omega
end Go.Proofs.YtabkmceajgpdjaaDoor.To
