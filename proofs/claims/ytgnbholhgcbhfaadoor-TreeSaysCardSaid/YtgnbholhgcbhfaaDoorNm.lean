import Derived.Test.YtgnbholhgcbhfaaDoorTree
/- plain: the names of trees -/
set_option linter.all false
set_option maxRecDepth 100000
namespace Go.Proofs.YtgnbholhgcbhfaaDoor
namespace Nm
abbrev Str := List UInt8
abbrev srt (l : List Str) : List Str := l.mergeSort fun x y => decide (x ≤ y)
theorem le_trans' (a b c : Str) : decide (a ≤ b) = true → decide (b ≤ c) = true → decide (a ≤ c) = true := fun h1 h2 => decide_eq_true (List.le_trans (of_decide_eq_true h1) (of_decide_eq_true h2))
theorem le_total' (a b : Str) : (decide (a ≤ b) || decide (b ≤ a)) = true := by
  rcases List.le_total a b with h | h <;> simp [h]
theorem srt_sorted (l : List Str) : (srt l).Pairwise fun x y => x ≤ y := (List.pairwise_mergeSort le_trans' le_total' l).imp of_decide_eq_true
theorem srt_perm (l : List Str) : (srt l).Perm l := List.mergeSort_perm _ _
theorem sorted_eq {a b : List Str} (h : a.Perm b) (ha : a.Pairwise fun x y => x ≤ y) (hb : b.Pairwise fun x y => x ≤ y) : a = b :=
  List.Perm.eq_of_pairwise (fun x y _ _ h1 h2 => List.le_antisymm h1 h2) ha hb h
theorem srt_congr {a b : List Str} (h : a.Perm b) : srt a = srt b := sorted_eq ((srt_perm a).trans (h.trans (srt_perm b).symm)) (srt_sorted a) (srt_sorted b)
/-! ### names -/
/-- who hangs on a point, but for the one that one comes from -/
def ch (k : Nat) (adj : Nat → Nat → Bool) (at_ : Nat) (f : Int) : List Nat := (List.range k).filter fun c => adj at_ c && decide ((c : Int) ≠ f)
def nm (k : Nat) (adj : Nat → Nat → Bool) : Nat → Nat → Int → Str
  | 0, _, _ => [40, 41]
  | n+1, a, f => 40 :: ((srt ((ch k adj a f).map fun c => nm k adj n c a)).flatten ++ [41])
def vs (k : Nat) (adj : Nat → Nat → Bool) : Nat → Nat → Int → List Nat
  | 0, a, _ => [a]
  | n+1, a, f => a :: ((ch k adj a f).map fun c => vs k adj n c a).flatten
theorem flatten_len_perm {a b : List Str} (h : a.Perm b) : a.flatten.length = b.flatten.length := (List.Perm.flatten h).length_eq
theorem flatten_cnt_perm {a b : List Str} (h : a.Perm b) (x : UInt8) : a.flatten.count x = b.flatten.count x := (List.Perm.flatten h).count_eq x
theorem nm_len (k : Nat) (adj : Nat → Nat → Bool) : ∀ n a f, (nm k adj n a f).length = 2 * (vs k adj n a f).length
  | 0, _, _ => rfl
  | n+1, a, f => by
    have h : ∀ C : List Nat, ((C.map fun c => nm k adj n c a).flatten).length = 2 * ((C.map fun c => vs k adj n c a).flatten).length := by
      intro C
      induction C with
      | nil => rfl
      | cons c C ih => simp only [List.map_cons, List.flatten_cons, List.length_append, nm_len k adj n c a, ih]; omega
    unfold nm vs
    simp only [List.length_cons, List.length_append, List.length_nil, flatten_len_perm (srt_perm _), h]; omega
theorem nm_cnt (k : Nat) (adj : Nat → Nat → Bool) : ∀ n a f, (nm k adj n a f).count 40 = (vs k adj n a f).length
  | 0, _, _ => rfl
  | n+1, a, f => by
    have h : ∀ C : List Nat, ((C.map fun c => nm k adj n c a).flatten).count 40 = ((C.map fun c => vs k adj n c a).flatten).length := by
      intro C
      induction C with
      | nil => rfl
      | cons c C ih => simp only [List.map_cons, List.flatten_cons, List.length_append, List.count_append, nm_cnt k adj n c a, ih]
    unfold nm vs
    rw [List.count_cons_self, List.count_append, flatten_cnt_perm (srt_perm _), h, List.length_cons]; simp
/-! ### a name's end is known -/
def ht : Str → Int
  | [] => 0
  | x :: l => (if x = 40 then 1 else -1) + ht l
theorem ht_app : ∀ a b : Str, ht (a ++ b) = ht a + ht b
  | [], b => by simp [ht]
  | x :: a, b => by simp only [List.cons_append, ht, ht_app a b]; omega
/-- no beginning goes below 0 -/
def Up (u : Str) : Prop := ht u = 0 ∧ ∀ a b, u = a ++ b → 0 ≤ ht a
def Irr (u : Str) : Prop := u ≠ [] ∧ ht u = 0 ∧ ∀ a b, u = a ++ b → a ≠ [] → b ≠ [] → 0 < ht a
theorem Irr.up {u : Str} (h : Irr u) : Up u := ⟨h.2.1, fun a b e => by
  by_cases ha : a = []
  · subst ha; exact Int.le_refl _
  · by_cases hb : b = []
    · subst hb; rw [List.append_nil] at e; rw [← e, h.2.1]; exact Int.le_refl _
    · have := h.2.2 a b e ha hb; omega⟩
theorem Up.app {u v : Str} (hu : Up u) (hv : Up v) : Up (u ++ v) := ⟨by rw [ht_app, hu.1, hv.1]; rfl, fun a b e => by
  rcases List.append_eq_append_iff.1 e with ⟨c, rfl, h2⟩ | ⟨c, h1, rfl⟩
  · have := hv.2 c b h2; rw [ht_app, hu.1]; omega
  · exact hu.2 a c h1⟩
theorem Up.flat : ∀ {l : List Str}, (∀ u ∈ l, Irr u) → Up l.flatten
  | [], _ => ⟨rfl, fun a b e => by
      have : a = [] := (List.append_eq_nil_iff.1 e.symm).1
      subst this; exact Int.le_refl _⟩
  | u :: l, h => by rw [List.flatten_cons]; exact (h u List.mem_cons_self).up.app (Up.flat fun v hv => h v (List.mem_cons_of_mem _ hv))
theorem irr_of {u : Str} (h : Up u) : Irr (40 :: (u ++ [41])) := by
  refine ⟨by simp, ?_, fun a b e ha hb => ?_⟩
  · show (1 : Int) + ht (u ++ [41]) = 0
    rw [ht_app, h.1]; decide
  · match a, ha with
    | x :: a, _ =>
      rw [List.cons_append] at e
      injection e with e1 e2
      subst e1
      rcases List.append_eq_append_iff.1 e2 with ⟨c, h1, h2⟩ | ⟨c, h1, h2⟩
      · -- a = u ++ c, [41] = c ++ b
        match c, h2 with
        | [], _ =>
          rw [List.append_nil] at h1
          show (0 : Int) < 1 + ht a
          rw [h1, h.1]; decide
        | y :: c, h2 =>
          rw [List.cons_append] at h2
          injection h2 with _ h3
          exact absurd (List.append_eq_nil_iff.1 h3.symm).2 hb
      · have := h.2 a c h1
        show (0 : Int) < 1 + ht a
        omega
theorem nm_irr (k : Nat) (adj : Nat → Nat → Bool) : ∀ n a f, Irr (nm k adj n a f)
  | 0, _, _ => irr_of (u := []) ⟨rfl, fun a b e => by
      have : a = [] := (List.append_eq_nil_iff.1 e.symm).1
      subst this; exact Int.le_refl _⟩
  | n+1, a, f => by
    unfold nm
    refine irr_of (Up.flat fun u hu => ?_)
    obtain ⟨c, _, rfl⟩ := List.mem_map.1 ((srt_perm _).mem_iff.1 hu)
    exact nm_irr k adj n c a
theorem irr_pre {u v a b : Str} (hu : Irr u) (hv : Irr v) (h : u ++ a = v ++ b) : u = v ∧ a = b := by
  rcases List.append_eq_append_iff.1 h with ⟨c, h1, h2⟩ | ⟨c, h1, h2⟩
  · by_cases hc : c = []
    · subst hc; rw [List.append_nil] at h1; exact ⟨h1.symm, by rw [h2]; rfl⟩
    · have := hv.2.2 u c h1 hu.1 hc
      rw [hu.2.1] at this; omega
  · by_cases hc : c = []
    · subst hc; rw [List.append_nil] at h1; exact ⟨h1, by rw [h2]; rfl⟩
    · have := hu.2.2 v c h1 hv.1 hc
      rw [hv.2.1] at this; omega
theorem flat_inj : ∀ {l m : List Str}, (∀ u ∈ l, Irr u) → (∀ u ∈ m, Irr u) → l.flatten = m.flatten → l = m
  | [], [], _, _, _ => rfl
  | [], v :: m, _, h2, e => by
    rw [List.flatten_nil, List.flatten_cons] at e
    exact absurd (List.append_eq_nil_iff.1 e.symm).1 (h2 v List.mem_cons_self).1
  | u :: l, [], h1, _, e => by
    rw [List.flatten_nil, List.flatten_cons] at e
    exact absurd (List.append_eq_nil_iff.1 e).1 (h1 u List.mem_cons_self).1
  | u :: l, v :: m, h1, h2, e => by
    rw [List.flatten_cons, List.flatten_cons] at e
    obtain ⟨rfl, e2⟩ := irr_pre (h1 u List.mem_cons_self) (h2 v List.mem_cons_self) e
    rw [flat_inj (fun x hx => h1 x (List.mem_cons_of_mem _ hx)) (fun x hx => h2 x (List.mem_cons_of_mem _ hx)) e2]
/-! ### who hangs on a point -/
section
variable {k : Nat} {A : Nat → Nat → Prop} {d : Nat → Nat → Nat} (T : Tr k A d) {adj : Nat → Nat → Bool} (hadj : ∀ x y, adj x y = true ↔ A x y)
def val (A : Nat → Nat → Prop) (f : Int) (a : Nat) : Prop := f = -1 ∨ ∃ u : Nat, f = u ∧ A u a
def Sb (k : Nat) (d : Nat → Nat → Nat) (f : Int) (a x : Nat) : Prop := x < k ∧ ∀ u : Nat, f = u → d x u = d x a + 1
include T
theorem sb_self {a : Nat} {f : Int} (ha : a < k) (hv : val A f a) : Sb k d f a a := ⟨ha, fun u hu => by
  rcases hv with h | ⟨v, h, hA⟩
  · omega
  · have : v = u := by omega
    subst this
    rw [T.zero a ha, T.one (T.sym _ _ hA)]⟩
include hadj
theorem ch_mem {a c : Nat} {f : Int} : c ∈ ch k adj a f ↔ A a c ∧ (c : Int) ≠ f := by
  unfold ch
  rw [List.mem_filter, List.mem_range, Bool.and_eq_true, hadj, decide_eq_true_iff]
  exact ⟨fun h => h.2, fun h => ⟨(T.lt _ _ h.1).2, h⟩⟩
theorem ch_val {a c : Nat} {f : Int} (h : c ∈ ch k adj a f) : c < k ∧ val A (a : Int) c := by
  have := (ch_mem T hadj).1 h
  exact ⟨(T.lt _ _ this.1).2, .inr ⟨a, rfl, this.1⟩⟩
theorem sb_ch {a x : Nat} {f : Int} (ha : a < k) (h : Sb k d f a x) (hx : x ≠ a) : ∃ c, c ∈ ch k adj a f ∧ Sb k d (a : Int) c x ∧ d a x = d c x + 1 := by
  obtain ⟨c, hc⟩ := T.up_ex h.1 ha (Ne.symm hx)
  have hck := T.up_lt hc
  refine ⟨c, (ch_mem T hadj).2 ⟨T.sym _ _ hc.1, fun e => ?_⟩, ⟨h.1, fun u hu => ?_⟩, ?_⟩
  · have := h.2 c e.symm; have := hc.2; omega
  · have : a = u := by omega
    subst this; exact hc.2
  · rw [T.symd ha h.1, T.symd hck h.1]; exact hc.2
theorem ch_sb {a x c : Nat} {f : Int} (hv : val A f a) (hc : c ∈ ch k adj a f) (h : Sb k d (a : Int) c x) : Sb k d f a x := ⟨h.1, fun u hu => by
  obtain ⟨c1, c2⟩ := (ch_mem T hadj).1 hc
  rcases hv with e | ⟨v, e, hA⟩
  · omega
  · have : v = u := by omega
    subst this
    refine T.far h.1 hA fun hup => ?_
    have := T.uniq x c v a h.1 (T.sym _ _ c1) hA (h.2 a rfl) hup.2
    omega⟩
omit hadj in
theorem sb_uniq {a c c' x : Nat} (h : Sb k d (a : Int) c x) (h' : Sb k d (a : Int) c' x) (hc : A a c) (hc' : A a c') : c = c' :=
  T.uniq x c c' a h.1 (T.sym _ _ hc) (T.sym _ _ hc') (h.2 a rfl) (h'.2 a rfl)
theorem vs_iff : ∀ n a f, a < k → val A f a → ∀ x, x ∈ vs k adj n a f ↔ Sb k d f a x ∧ d a x ≤ n
  | 0, a, f, ha, hv, x => by
    unfold vs
    rw [List.mem_singleton]
    constructor
    · rintro rfl; exact ⟨sb_self T ha hv, by rw [T.zero x ha]; exact Nat.le_refl _⟩
    · rintro ⟨h1, h2⟩; exact T.eq_of_zero ha h1.1 (by omega)
  | n+1, a, f, ha, hv, x => by
    unfold vs
    rw [List.mem_cons, List.mem_flatten]
    constructor
    · rintro (rfl | ⟨l, hl, hx⟩)
      · exact ⟨sb_self T ha hv, by rw [T.zero x ha]; exact Nat.zero_le _⟩
      · obtain ⟨c, hc, rfl⟩ := List.mem_map.1 hl
        obtain ⟨c1, c2⟩ := ch_val T hadj hc
        obtain ⟨h1, h2⟩ := (vs_iff n c a c1 c2 x).1 hx
        refine ⟨ch_sb T hadj hv hc h1, ?_⟩
        have := h1.2 a rfl
        rw [T.symd ha h1.1]; rw [T.symd c1 h1.1] at h2; omega
    · rintro ⟨h1, h2⟩
      by_cases e : x = a
      · exact .inl e
      · right
        obtain ⟨c, hc, h3, h4⟩ := sb_ch T hadj ha h1 e
        obtain ⟨c1, c2⟩ := ch_val T hadj hc
        exact ⟨_, List.mem_map.2 ⟨c, hc, rfl⟩, (vs_iff n c a c1 c2 x).2 ⟨h3, by omega⟩⟩
theorem vs_self {n a : Nat} {f : Int} (ha : a < k) (hv : val A f a) : a ∈ vs k adj n a f := (vs_iff T hadj n a f ha hv a).2 ⟨sb_self T ha hv, by rw [T.zero a ha]; exact Nat.zero_le _⟩
theorem vs_uniq {n a c c' x : Nat} (hc : A a c) (hc' : A a c') (h : x ∈ vs k adj n c a) (h' : x ∈ vs k adj n c' a) : c = c' :=
  sb_uniq T ((vs_iff T hadj n c a (T.lt _ _ hc).2 (.inr ⟨a, rfl, hc⟩) x).1 h).1 ((vs_iff T hadj n c' a (T.lt _ _ hc').2 (.inr ⟨a, rfl, hc'⟩) x).1 h').1 hc hc'
omit T hadj in
theorem nodup_flat {g : Nat → List Nat} : ∀ {C : List Nat}, C.Nodup → (∀ c ∈ C, (g c).Nodup) → (∀ c ∈ C, ∀ c' ∈ C, ∀ x, x ∈ g c → x ∈ g c' → c = c') → (C.map g).flatten.Nodup
  | [], _, _, _ => List.nodup_nil
  | c :: C, hn, h1, h2 => by
    obtain ⟨n1, n2⟩ := List.nodup_cons.1 hn
    rw [List.map_cons, List.flatten_cons, List.nodup_append]
    refine ⟨h1 c List.mem_cons_self, nodup_flat n2 (fun c' h => h1 c' (List.mem_cons_of_mem _ h)) (fun a ha b hb => h2 a (List.mem_cons_of_mem _ ha) b (List.mem_cons_of_mem _ hb)), fun x hx y hy e => ?_⟩
    subst e
    obtain ⟨l, hl, hxl⟩ := List.mem_flatten.1 hy
    obtain ⟨c', hc', rfl⟩ := List.mem_map.1 hl
    have := h2 c List.mem_cons_self c' (List.mem_cons_of_mem _ hc') x hx hxl
    exact n1 (this ▸ hc')
omit T hadj in
theorem ch_nodup (a : Nat) (f : Int) : (ch k adj a f).Nodup := List.nodup_range.filter _
theorem vs_nodup : ∀ n a f, a < k → val A f a → (vs k adj n a f).Nodup
  | 0, a, f, _, _ => by unfold vs; simp
  | n+1, a, f, ha, hv => by
    unfold vs
    rw [List.nodup_cons]
    refine ⟨fun h => ?_, nodup_flat (ch_nodup a f) (fun c hc => ?_) fun c hc c' hc' x hx hx' => vs_uniq T hadj ((ch_mem T hadj).1 hc).1 ((ch_mem T hadj).1 hc').1 hx hx'⟩
    · obtain ⟨l, hl, hx⟩ := List.mem_flatten.1 h
      obtain ⟨c, hc, rfl⟩ := List.mem_map.1 hl
      obtain ⟨c1, c2⟩ := ch_val T hadj hc
      have := ((vs_iff T hadj n c a c1 c2 a).1 hx).1.2 a rfl
      rw [T.zero a ha] at this; omega
    · obtain ⟨c1, c2⟩ := ch_val T hadj hc
      exact vs_nodup n c a c1 c2
theorem vs_root {n a : Nat} (ha : a < k) (hd : ∀ x, x < k → d a x ≤ n) : (vs k adj n a (-1)).Perm (List.range k) :=
  (List.perm_ext_iff_of_nodup (vs_nodup T hadj n a (-1) ha (.inl rfl)) List.nodup_range).2 fun x => by
    rw [vs_iff T hadj n a (-1) ha (.inl rfl) x, List.mem_range]
    exact ⟨fun h => h.1.1, fun h => ⟨⟨h, fun u hu => by omega⟩, hd x h⟩⟩
omit hadj in
/-- parts that hang on two neighbours are not beside each other -/
theorem no_cross {a c c' x y : Nat} (hc : A a c) (hc' : A a c') (hx : Sb k d (a : Int) c x) (hy : Sb k d (a : Int) c' y) (h : A x y) : c = c' := by
  have hak := (T.lt _ _ hc).1
  have key : ∀ {c c' x y : Nat}, A a c → A a c' → Sb k d (a : Int) c x → Sb k d (a : Int) c' y → A x y → d a y = d a x + 1 → c = c' := by
    intro c c' x y hc hc' hx hy h e
    have hck := (T.lt _ _ hc).2
    have h1 := T.tri hy.1 hx.1 hck
    have h2 := T.tri hy.1 hck hak
    have h3 := T.one (T.sym _ _ h)
    have h4 := T.one (T.sym _ _ hc)
    have h5 := hx.2 a rfl
    rw [T.symd hak hy.1, T.symd hak hx.1] at e
    exact sb_uniq T (x := y) ⟨hy.1, fun u hu => by
      have : a = u := by omega
      subst this; omega⟩ hy hc hc'
  have h1 := T.diff a x y hak h
  have h2 := T.step a x y hak h
  have h3 := T.step a y x hak (T.sym _ _ h)
  by_cases e : d a y = d a x + 1
  · exact key hc hc' hx hy h e
  · exact (key hc' hc hy hx (T.sym _ _ h) (by omega)).symm
end
/-! ### the same tree in another order has the same name -/
theorem nm_iso {k : Nat} {adj adj' : Nat → Nat → Bool} {φ : Nat → Nat} (h1 : ∀ x, x < k → φ x < k) (h2 : ∀ x y, x < k → y < k → φ x = φ y → x = y) (h3 : ∀ y, y < k → ∃ x, x < k ∧ φ x = y)
    (hA : ∀ x y, x < k → y < k → adj x y = adj' (φ x) (φ y)) : ∀ (n a : Nat) (f f' : Int), a < k → (f = -1 ∧ f' = -1 ∨ ∃ u : Nat, u < k ∧ f = u ∧ f' = (φ u : Nat)) → nm k adj n a f = nm k adj' n (φ a) f'
  | 0, _, _, _, _, _ => rfl
  | n+1, a, f, f', ha, hf => by
    unfold nm
    have hp : ((ch k adj a f).map φ).Perm (ch k adj' (φ a) f') := by
      refine (List.perm_ext_iff_of_nodup ?_ (List.nodup_range.filter _)).2 fun y => ?_
      · refine List.Pairwise.map φ (R := fun x y => x ≠ y ∧ x < k ∧ y < k) (fun x y h e => h.1 (h2 x y h.2.1 h.2.2 e)) ?_
        have hn : (ch k adj a f).Nodup := List.nodup_range.filter _
        have hl : ∀ x ∈ ch k adj a f, x < k := fun x hx => List.mem_range.1 (List.mem_filter.1 hx).1
        exact hn.imp_of_mem fun hx hy h => ⟨h, hl _ hx, hl _ hy⟩
      · have hff : ∀ x, x < k → (((x : Nat) : Int) ≠ f ↔ ((φ x : Nat) : Int) ≠ f') := by
          intro x hx
          rcases hf with ⟨e, e'⟩ | ⟨u, hu, e, e'⟩
          · subst e; subst e'; constructor <;> intro <;> omega
          · subst e; subst e'
            constructor
            · intro h q; exact h (by rw [h2 x u hx hu (by omega)])
            · intro h q; exact h (by have : x = u := by omega
                                     rw [this])
        unfold ch
        simp only [List.mem_map, List.mem_filter, List.mem_range, Bool.and_eq_true, decide_eq_true_iff]
        constructor
        · rintro ⟨x, ⟨hx, hxa, hxf⟩, rfl⟩
          exact ⟨h1 x hx, by rw [← hA a x ha hx]; exact hxa, (hff x hx).1 hxf⟩
        · rintro ⟨hy, hya, hyf⟩
          obtain ⟨x, hx, rfl⟩ := h3 y hy
          exact ⟨x, ⟨hx, by rw [hA a x ha hx]; exact hya, (hff x hx).2 hyf⟩, rfl⟩
    have hl : ∀ x ∈ ch k adj a f, x < k := fun x hx => List.mem_range.1 (List.mem_filter.1 hx).1
    have e : (ch k adj a f).map (fun c => nm k adj n c a) = ((ch k adj a f).map φ).map fun c => nm k adj' n c ((φ a : Nat) : Int) := by
      rw [List.map_map]
      exact List.map_congr_left fun c hc => nm_iso h1 h2 h3 hA n c a _ (hl c hc) (.inr ⟨a, ha, rfl, rfl⟩)
    rw [e, srt_congr (hp.map _)]
/-! ### trees of one name are the same but for the order -/
theorem lift_perm {g : Nat → Str} : ∀ {L M : List Str}, L.Perm M → ∀ C : List Nat, M = C.map g → ∃ Cs : List Nat, Cs.Perm C ∧ Cs.map g = L := by
  intro L M h
  induction h with
  | nil => intro C e; exact ⟨C, .refl _, e.symm⟩
  | cons x _ ih =>
    intro C e
    match C, e with
    | c :: C, e =>
      rw [List.map_cons] at e
      injection e with e1 e2
      obtain ⟨Cs, p, q⟩ := ih C e2
      exact ⟨c :: Cs, p.cons c, by rw [List.map_cons, q, e1]⟩
  | swap x y l =>
    intro C e
    match C, e with
    | c :: c' :: C, e =>
      rw [List.map_cons, List.map_cons] at e
      injection e with e1 e2
      injection e2 with e2 e3
      exact ⟨c' :: c :: C, List.Perm.swap _ _ _, by rw [List.map_cons, List.map_cons, ← e1, ← e2, ← e3]⟩
  | trans _ _ ih1 ih2 =>
    intro C e
    obtain ⟨C1, p1, q1⟩ := ih2 C e
    obtain ⟨C2, p2, q2⟩ := ih1 C1 q1.symm
    exact ⟨C2, p2.trans p1, q2⟩
section
variable {k : Nat} {A : Nat → Nat → Prop} {d : Nat → Nat → Nat} (T : Tr k A d) {adj : Nat → Nat → Bool} (hadj : ∀ x y, adj x y = true ↔ A x y)
variable {A' : Nat → Nat → Prop} {d' : Nat → Nat → Nat} (T' : Tr k A' d') {adj' : Nat → Nat → Bool} (hadj' : ∀ x y, adj' x y = true ↔ A' x y)
/-- a map that keeps the points of a part apart, and who is beside whom -/
structure Keeps (adj adj' : Nat → Nat → Bool) (U U' : List Nat) (φ : Nat → Nat) : Prop where
  goes : ∀ x ∈ U, φ x ∈ U'
  inj : ∀ x ∈ U, ∀ y ∈ U, φ x = φ y → x = y
  keep : ∀ x ∈ U, ∀ y ∈ U, adj x y = adj' (φ x) (φ y)
def un (k : Nat) (adj : Nat → Nat → Bool) (n a : Nat) (C : List Nat) : List Nat := (C.map fun c => vs k adj n c a).flatten
theorem un_mem {n a x : Nat} {C : List Nat} : x ∈ un k adj n a C ↔ ∃ c ∈ C, x ∈ vs k adj n c a := by
  unfold un
  rw [List.mem_flatten]
  constructor
  · rintro ⟨l, hl, hx⟩
    obtain ⟨c, hc, rfl⟩ := List.mem_map.1 hl
    exact ⟨c, hc, hx⟩
  · rintro ⟨c, hc, hx⟩; exact ⟨_, List.mem_map.2 ⟨c, hc, rfl⟩, hx⟩
include T hadj in
theorem vs_sb {n a c x : Nat} (hc : A a c) (h : x ∈ vs k adj n c a) : Sb k d (a : Int) c x := ((vs_iff T hadj n c a (T.lt _ _ hc).2 (.inr ⟨a, rfl, hc⟩) x).1 h).1
include T hadj in
theorem cross_false {n a c c' x y : Nat} (hc : A a c) (hc' : A a c') (hne : c ≠ c') (hx : x ∈ vs k adj n c a) (hy : y ∈ vs k adj n c' a) : adj x y = false := by
  cases h : adj x y with
  | false => rfl
  | true => exact absurd (no_cross T hc hc' (vs_sb T hadj hc hx) (vs_sb T hadj hc' hy) ((hadj _ _).1 h)) hne
include T hadj in
theorem child_self {n a c : Nat} (hc : A a c) : c ∈ vs k adj n c a := vs_self T hadj (T.lt _ _ hc).2 (.inr ⟨a, rfl, hc⟩)
include T hadj T' hadj' in
theorem glue {n a a' : Nat} (ih : ∀ c c', A a c → A' a' c' → nm k adj n c a = nm k adj' n c' a' → ∃ φ, φ c = c' ∧ Keeps adj adj' (vs k adj n c a) (vs k adj' n c' a') φ) :
    ∀ C C' : List Nat, C.map (fun c => nm k adj n c a) = C'.map (fun c => nm k adj' n c a') → (∀ c ∈ C, A a c) → (∀ c ∈ C', A' a' c) → C.Nodup → C'.Nodup →
      ∃ φ, Keeps adj adj' (un k adj n a C) (un k adj' n a' C') φ ∧ ∀ x ∈ un k adj n a C, (x ∈ C ↔ φ x ∈ C')
  | [], [], _, _, _, _, _ => ⟨id, ⟨fun x h => (by cases h), fun x h => (by cases h), fun x h => (by cases h)⟩, fun x h => (by cases h)⟩
  | [], _ :: _, e, _, _, _, _ => by simp at e
  | _ :: _, [], e, _, _, _, _ => by simp at e
  | c :: C, c' :: C', e, h, h', hn, hn' => by
    rw [List.map_cons, List.map_cons] at e
    injection e with e1 e2
    have hc := h c List.mem_cons_self
    have hc' := h' c' List.mem_cons_self
    obtain ⟨n1, n2⟩ := List.nodup_cons.1 hn
    obtain ⟨n1', n2'⟩ := List.nodup_cons.1 hn'
    obtain ⟨φ, f1, f2⟩ := ih c c' hc hc' e1
    obtain ⟨ψ, g1, g2⟩ := glue ih C C' e2 (fun x hx => h x (List.mem_cons_of_mem _ hx)) (fun x hx => h' x (List.mem_cons_of_mem _ hx)) n2 n2'
    have out : ∀ x, x ∈ un k adj n a C → x ∉ vs k adj n c a := fun x hx hq => by
      obtain ⟨b, hb, hxb⟩ := un_mem.1 hx
      have := vs_uniq T hadj hc (h b (List.mem_cons_of_mem _ hb)) hq hxb
      exact n1 (this ▸ hb)
    have out' : ∀ x, x ∈ un k adj' n a' C' → x ∉ vs k adj' n c' a' := fun x hx hq => by
      obtain ⟨b, hb, hxb⟩ := un_mem.1 hx
      have := vs_uniq T' hadj' hc' (h' b (List.mem_cons_of_mem _ hb)) hq hxb
      exact n1' (this ▸ hb)
    have cut : ∀ x, x ∈ un k adj n a (c :: C) ↔ x ∈ vs k adj n c a ∨ x ∈ un k adj n a C := fun x => by unfold un; rw [List.map_cons, List.flatten_cons, List.mem_append]
    have cut' : ∀ x, x ∈ un k adj' n a' (c' :: C') ↔ x ∈ vs k adj' n c' a' ∨ x ∈ un k adj' n a' C' := fun x => by unfold un; rw [List.map_cons, List.flatten_cons, List.mem_append]
    have cr : ∀ x y, x ∈ vs k adj n c a → y ∈ un k adj n a C → adj x y = false ∧ adj y x = false := fun x y hx hy => by
      obtain ⟨b, hb, hyb⟩ := un_mem.1 hy
      have hne : c ≠ b := fun q => n1 (q ▸ hb)
      have hbA := h b (List.mem_cons_of_mem _ hb)
      exact ⟨cross_false T hadj hc hbA hne hx hyb, cross_false T hadj hbA hc (Ne.symm hne) hyb hx⟩
    have cr' : ∀ x y, x ∈ vs k adj' n c' a' → y ∈ un k adj' n a' C' → adj' x y = false ∧ adj' y x = false := fun x y hx hy => by
      obtain ⟨b, hb, hyb⟩ := un_mem.1 hy
      have hne : c' ≠ b := fun q => n1' (q ▸ hb)
      have hbA := h' b (List.mem_cons_of_mem _ hb)
      exact ⟨cross_false T' hadj' hc' hbA hne hx hyb, cross_false T' hadj' hbA hc' (Ne.symm hne) hyb hx⟩
    obtain ⟨χ, hχ⟩ : ∃ χ : Nat → Nat, ∀ x, χ x = if x ∈ vs k adj n c a then φ x else ψ x := ⟨_, fun _ => rfl⟩
    have v1 : ∀ x, x ∈ vs k adj n c a → χ x = φ x := fun x hx => by rw [hχ, if_pos hx]
    have v2 : ∀ x, x ∈ un k adj n a C → χ x = ψ x := fun x hx => by rw [hχ, if_neg (out x hx)]
    refine ⟨χ, ⟨fun x hx => ?_, fun x hx y hy hxy => ?_, fun x hx y hy => ?_⟩, fun x hx => ?_⟩
    · rw [cut']
      rcases (cut x).1 hx with q | q
      · rw [v1 x q]; exact .inl (f2.goes x q)
      · rw [v2 x q]; exact .inr (g1.goes x q)
    · rcases (cut x).1 hx with q | q <;> rcases (cut y).1 hy with r | r
      · rw [v1 x q, v1 y r] at hxy; exact f2.inj x q y r hxy
      · rw [v1 x q, v2 y r] at hxy
        exact absurd (hxy ▸ f2.goes x q) (out' _ (g1.goes y r))
      · rw [v2 x q, v1 y r] at hxy
        exact absurd (hxy ▸ f2.goes y r) (out' _ (g1.goes x q))
      · rw [v2 x q, v2 y r] at hxy; exact g1.inj x q y r hxy
    · rcases (cut x).1 hx with q | q <;> rcases (cut y).1 hy with r | r
      · rw [v1 x q, v1 y r]; exact f2.keep x q y r
      · rw [v1 x q, v2 y r, (cr x y q r).1, (cr' _ _ (f2.goes x q) (g1.goes y r)).1]
      · rw [v2 x q, v1 y r, (cr y x r q).2, (cr' _ _ (f2.goes y r) (g1.goes x q)).2]
      · rw [v2 x q, v2 y r]; exact g1.keep x q y r
    · rcases (cut x).1 hx with q | q
      · rw [v1 x q, List.mem_cons, List.mem_cons]
        constructor
        · rintro (rfl | hx)
          · exact .inl f1
          · exact absurd (vs_uniq T hadj hc (h x (List.mem_cons_of_mem _ hx)) q (child_self T hadj (h x (List.mem_cons_of_mem _ hx)))) fun e => n1 (e ▸ hx)
        · rintro (e | hq)
          · exact .inl (f2.inj x q c (child_self T hadj hc) (e.trans f1.symm))
          · exact absurd (f2.goes x q) (out' _ (un_mem.2 ⟨_, hq, child_self T' hadj' (h' _ (List.mem_cons_of_mem _ hq))⟩))
      · rw [v2 x q, List.mem_cons, List.mem_cons]
        constructor
        · rintro (rfl | hx)
          · exact absurd (child_self T hadj hc) (out _ q)
          · exact .inr ((g2 x q).1 hx)
        · rintro (e | hq)
          · exact absurd (child_self T' hadj' hc') (e ▸ out' _ (g1.goes x q))
          · exact .inr ((g2 x q).2 hq)
include T hadj in
theorem loop_false (a : Nat) : adj a a = false := by
  cases h : adj a a with
  | false => rfl
  | true =>
    have hA := (hadj _ _).1 h
    exact absurd rfl (T.diff a a a (T.lt _ _ hA).1 hA)
include T hadj in
theorem adj_comm (x y : Nat) : adj x y = adj y x := by
  cases h : adj x y with
  | true => exact ((hadj _ _).2 (T.sym _ _ ((hadj _ _).1 h))).symm
  | false =>
    cases h' : adj y x with
    | false => rfl
    | true => rw [(hadj _ _).2 (T.sym _ _ ((hadj _ _).1 h'))] at h; cases h
include T hadj in
/-- of what hangs on a point's neighbours just these are beside it -/
theorem beside_iff {n a x : Nat} {C : List Nat} (h : ∀ c ∈ C, A a c) (hx : x ∈ un k adj n a C) : adj a x = true ↔ x ∈ C := by
  obtain ⟨c, hc, hxc⟩ := un_mem.1 hx
  have hcA := h c hc
  have hs := vs_sb T hadj hcA hxc
  rw [hadj]
  constructor
  · intro hA
    have h1 := T.one (T.sym _ _ hA)
    have h2 := hs.2 a rfl
    have : c = x := T.eq_of_zero hs.1 (T.lt _ _ hcA).2 (by omega)
    rw [← this]; exact hc
  · exact h x
include T hadj T' hadj' in
theorem iso_of : ∀ n a f a' f', a < k → a' < k → val A f a → val A' f' a' → nm k adj n a f = nm k adj' n a' f' → ∃ φ, φ a = a' ∧ Keeps adj adj' (vs k adj n a f) (vs k adj' n a' f') φ
  | 0, a, f, a', f', ha, ha', _, _, _ => ⟨fun _ => a', rfl, by
    unfold vs
    exact ⟨fun x _ => List.mem_singleton.2 rfl, fun x hx y hy _ => (List.mem_singleton.1 hx).trans (List.mem_singleton.1 hy).symm, fun x hx y hy => by
      rw [List.mem_singleton.1 hx, List.mem_singleton.1 hy, loop_false T hadj, loop_false T' hadj']⟩⟩
  | n+1, a, f, a', f', ha, ha', hv, hv', e => by
    unfold nm at e
    injection e with _ e
    have e := List.append_cancel_right e
    have hi : ∀ u ∈ srt ((ch k adj a f).map fun c => nm k adj n c a), Irr u := fun u hu => by
      obtain ⟨c, _, rfl⟩ := List.mem_map.1 ((srt_perm _).mem_iff.1 hu)
      exact nm_irr k adj n c a
    have hi' : ∀ u ∈ srt ((ch k adj' a' f').map fun c => nm k adj' n c a'), Irr u := fun u hu => by
      obtain ⟨c, _, rfl⟩ := List.mem_map.1 ((srt_perm _).mem_iff.1 hu)
      exact nm_irr k adj' n c a'
    have e := flat_inj hi hi' e
    obtain ⟨C, p, q⟩ := lift_perm (srt_perm ((ch k adj a f).map fun c => nm k adj n c a)) _ rfl
    obtain ⟨C', p', q'⟩ := lift_perm (srt_perm ((ch k adj' a' f').map fun c => nm k adj' n c a')) _ rfl
    have hC : ∀ c ∈ C, A a c := fun c hc => ((ch_mem T hadj).1 (p.mem_iff.1 hc)).1
    have hC' : ∀ c ∈ C', A' a' c := fun c hc => ((ch_mem T' hadj').1 (p'.mem_iff.1 hc)).1
    obtain ⟨ψ, g1, g2⟩ := glue T hadj T' hadj' (n := n) (a := a) (a' := a') (fun c c' hc hc' he => iso_of n c a c' a' (T.lt _ _ hc).2 (T'.lt _ _ hc').2 (.inr ⟨a, rfl, hc⟩) (.inr ⟨a', rfl, hc'⟩) he) C C' (by rw [q, q', e]) hC hC'
      (p.nodup_iff.2 (ch_nodup a f)) (p'.nodup_iff.2 (ch_nodup a' f'))
    have m1 : ∀ x, x ∈ vs k adj (n+1) a f ↔ x = a ∨ x ∈ un k adj n a C := fun x => by
      show x ∈ a :: un k adj n a (ch k adj a f) ↔ _
      rw [List.mem_cons, un_mem, un_mem]
      exact or_congr Iff.rfl ⟨fun ⟨c, h1, h2⟩ => ⟨c, p.mem_iff.2 h1, h2⟩, fun ⟨c, h1, h2⟩ => ⟨c, p.mem_iff.1 h1, h2⟩⟩
    have m1' : ∀ x, x ∈ vs k adj' (n+1) a' f' ↔ x = a' ∨ x ∈ un k adj' n a' C' := fun x => by
      show x ∈ a' :: un k adj' n a' (ch k adj' a' f') ↔ _
      rw [List.mem_cons, un_mem, un_mem]
      exact or_congr Iff.rfl ⟨fun ⟨c, h1, h2⟩ => ⟨c, p'.mem_iff.2 h1, h2⟩, fun ⟨c, h1, h2⟩ => ⟨c, p'.mem_iff.1 h1, h2⟩⟩
    have na : a ∉ un k adj n a C := fun h => by
      obtain ⟨c, hc, hx⟩ := un_mem.1 h
      have := (vs_sb T hadj (hC c hc) hx).2 a rfl
      rw [T.zero a ha] at this; omega
    have na' : a' ∉ un k adj' n a' C' := fun h => by
      obtain ⟨c, hc, hx⟩ := un_mem.1 h
      have := (vs_sb T' hadj' (hC' c hc) hx).2 a' rfl
      rw [T'.zero a' ha'] at this; omega
    obtain ⟨χ, hχ⟩ : ∃ χ : Nat → Nat, ∀ x, χ x = if x = a then a' else ψ x := ⟨_, fun _ => rfl⟩
    have v1 : χ a = a' := by rw [hχ, if_pos rfl]
    have v2 : ∀ x, x ∈ un k adj n a C → χ x = ψ x := fun x hx => by rw [hχ, if_neg (fun e => na (by have hx2 := hx; rw [e] at hx2; exact hx2))]
    have ar : ∀ x, x ∈ un k adj n a C → adj a x = adj' a' (ψ x) := fun x hx => by
      have b1 := beside_iff T hadj hC hx
      have b2 := beside_iff T' hadj' hC' (g1.goes x hx)
      have b3 := g2 x hx
      cases h : adj a x <;> cases h' : adj' a' (ψ x) <;> simp_all
    refine ⟨χ, v1, ⟨fun x hx => ?_, fun x hx y hy hxy => ?_, fun x hx y hy => ?_⟩⟩
    · rw [m1']
      rcases (m1 x).1 hx with rfl | q
      · exact .inl v1
      · rw [v2 x q]; exact .inr (g1.goes x q)
    · rcases (m1 x).1 hx with rfl | q <;> rcases (m1 y).1 hy with rfl | r
      · rfl
      · rw [v1, v2 y r] at hxy; exact absurd (hxy ▸ g1.goes y r) (by rw [← hxy]; exact na')
      · rw [v1, v2 x q] at hxy; exact absurd (hxy ▸ g1.goes x q) na'
      · rw [v2 x q, v2 y r] at hxy; exact g1.inj x q y r hxy
    · rcases (m1 x).1 hx with rfl | q <;> rcases (m1 y).1 hy with rfl | r
      · rw [v1, loop_false T hadj, loop_false T' hadj']
      · rw [v1, v2 y r]; exact ar y r
      · rw [v1, v2 x q, adj_comm T hadj, adj_comm T' hadj']; exact ar x q
      · rw [v2 x q, v2 y r]; exact g1.keep x q y r
end
end Nm
end Go.Proofs.YtgnbholhgcbhfaaDoor
