import Derived.Test.YtgnbholhgcbhfaaDoorNe
import Derived.Test.YtgnbholhgcbhfaaDoorT6
import Derived.Test.YtgnbholhgcbhfaaDoorFwT
import Derived.Test.YtgnbholhgcbhfaaDoorErr
/- TreeSays: the document's tree -/
set_option linter.all false
set_option maxRecDepth 100000
namespace Go.Proofs.YtgnbholhgcbhfaaDoor
open Go.RowKit Pl
/-! ### the document's Most, Middle -/
theorem most_L1 {o : List Int} (hl : o.length < 300) : ∀ (g j : Nat) (m : Int), o.length < j + g → j ≤ o.length → m ∈ o → (∀ i, i < j → o.getD i 0 ≤ m) →
    ∃ r x, R3_Most_L1 300 o g m (j : Int) = some (r, x) ∧ r ∈ o ∧ ∀ i, i < o.length → o.getD i 0 ≤ r
  | 0, j, m, h, hj, _, _ => by omega
  | g+1, j, m, h, hj, hm, hI => by
    rw [R3_Most_L1_s]
    by_cases c : j < o.length
    · have h1 : ix o (j : Int) = some (o.getD j 0) := ix_at 0 c
      have hmem : o.getD j 0 ∈ o := by rw [List.getD_eq_getElem?_getD, List.getElem?_eq_getElem c]; exact List.getElem_mem c
      rw [if_pos (by omega), h1]
      simp only [Option.bind_some]
      rw [w64n (by omega)]
      by_cases e : m < o.getD j 0
      · rw [if_pos e]
        exact most_L1 hl g (j+1) _ (by omega) (by omega) hmem fun i hi => by
          by_cases q : i = j
          · subst q; exact Int.le_refl _
          · have := hI i (by omega); omega
      · rw [if_neg e]
        exact most_L1 hl g (j+1) _ (by omega) (by omega) hm fun i hi => by
          by_cases q : i = j
          · subst q; omega
          · exact hI i (by omega)
    · rw [if_neg (by omega)]
      exact ⟨m, _, rfl, hm, fun i hi => hI i (by omega)⟩
theorem most_fn {o : List Int} {f : Nat → Nat} {k : Nat} (hk : 0 < k) (hlen : o.length = k) (h : ∀ j, j < k → o.getD j 0 = (f j : Int)) (hl : k < 300) : R3_Most 300 o = some (mx f k : Int) := by
  have h1 : ix o 0 = some (o.getD 0 0) := ix_at (l := o) (i := 0) 0 (by omega)
  obtain ⟨r, x, r1, r2, r3⟩ := most_L1 (o := o) (by omega) 300 0 (o.getD 0 0) (by omega) (by omega) (by rw [List.getD_eq_getElem?_getD, List.getElem?_eq_getElem (by omega)]; exact List.getElem_mem _) (fun i hi => by omega)
  obtain ⟨j, hj, e⟩ := List.getElem_of_mem r2
  have hj' : o.getD j 0 = r := by rw [List.getD_eq_getElem?_getD, List.getElem?_eq_getElem hj]; exact e
  have h2 := h j (by omega)
  have h3 := le_mx (f := f) (j := j) (k := k) (by omega)
  obtain ⟨i, hi, e2⟩ := mx_at (f := f) hk
  have h4 := r3 i (by omega)
  have h5 := h i hi
  unfold R3_Most
  rw [h1, Option.bind_some, show R3_Most_L1 300 o 300 (o.getD 0 0) 0 = _ from r1, Option.bind_some]
  congr 1; show r = _; omega
section
variable {k : Nat} {l : List (Int × Int)}
theorem far3 (G : Good k l) : ∃ M, R1_Far 300 (k : Int) l true (-1) = some M ∧ Sh k M ∧ ∀ a, a < k → R3_Most 300 (M.getD a []) = some (ecc k l a : Int) := by
  have hk := G.le; have hl := G.len; have hp := G.pos
  obtain ⟨M, m1, m2, m3⟩ := far_mat (l := l) (show k ≤ 16 by omega) (by omega) G.inl
  refine ⟨M, m1, m2, fun a ha => ?_⟩
  obtain ⟨o, _, _, o3, o4⟩ := far_all G ha
  have hA : ∀ i j, Ad k l i j → i < k ∧ j < k := fun i j h => ad_lt G.inl h
  refine most_fn (f := dst k l a) (by omega) (m3 a ha).len (fun j hj => ?_) (by omega)
  rw [far_uniq hA (m3 a ha) o4 j hj, o3 j hj]
theorem m3_L1 (G : Good k l) {M : List (List Int)} (hM : Sh k M) (hE : ∀ a, a < k → R3_Most 300 (M.getD a []) = some (ecc k l a : Int)) : ∀ (g j : Nat) (b : Int), k < j + g → j ≤ k → (b = k ∨ ∃ a, a < k ∧ (ecc k l a : Int) = b) → (∀ a, a < j → b ≤ ecc k l a) →
    ∃ r x, R3_Middle_L1 300 (k : Int) M g b (j : Int) = some (r, x) ∧ (r = k ∨ ∃ a, a < k ∧ (ecc k l a : Int) = r) ∧ ∀ a, a < k → r ≤ ecc k l a
  | 0, j, b, h, hj, _, _ => by omega
  | g+1, j, b, h, hj, hb, hI => by
    have hk := G.le
    rw [R3_Middle_L1_s]
    by_cases c : j < k
    · rw [if_pos (by omega), hM.ix c]
      simp only [Option.bind_some]
      rw [hE j c]
      simp only [Option.bind_some]
      rw [w64n (by omega)]
      by_cases e : (ecc k l j : Int) < b
      · rw [if_pos e]
        exact m3_L1 G hM hE g (j+1) _ (by omega) (by omega) (.inr ⟨j, c, rfl⟩) fun a ha => by
          by_cases q : a = j
          · subst q; exact Int.le_refl _
          · have := hI a (by omega); omega
      · rw [if_neg e]
        exact m3_L1 G hM hE g (j+1) b (by omega) (by omega) hb fun a ha => by
          by_cases q : a = j
          · subst q; omega
          · exact hI a (by omega)
    · rw [if_neg (by omega)]
      exact ⟨b, _, rfl, hb, fun a ha => hI a (by omega)⟩
theorem m3_L2 (hk : k ≤ 8) {M : List (List Int)} (hM : Sh k M) (hE : ∀ a, a < k → R3_Most 300 (M.getD a []) = some (ecc k l a : Int)) (r : Nat) : ∀ (g j : Nat) (v : List Int), k < j + g → j ≤ k → v.length ≤ j →
    ∃ x, R3_Middle_L2 300 (k : Int) M (r : Int) g v (j : Int) = some (v ++ intl ((List.range' j (k - j)).filter fun a => decide (ecc k l a = r)), x)
  | 0, j, v, h, hj, _ => by omega
  | g+1, j, v, h, hj, hv => by
    rw [R3_Middle_L2_s]
    by_cases c : j < k
    · rw [if_pos (by omega), hM.ix c, Option.bind_some, hE j c, Option.bind_some, w64n (by omega), show k - j = (k - (j+1)) + 1 by omega, List.range'_succ]
      by_cases e : ecc k l j = r
      · have ha : app v (j : Int) = some (v ++ [(j : Int)]) := by unfold app; rw [if_pos (by omega)]
        rw [if_pos (by rw [beq_iff_eq]; omega), ha, Option.bind_some, List.filter_cons_of_pos (p := fun a => decide (ecc k l a = r)) (decide_eq_true e)]
        obtain ⟨x, hx⟩ := m3_L2 hk hM hE r g (j+1) (v ++ [(j : Int)]) (by omega) (by omega) (by rw [List.length_append]; simp; omega)
        exact ⟨x, by rw [hx, List.append_assoc]; rfl⟩
      · rw [if_neg (by rw [beq_iff_eq]; omega), List.filter_cons_of_neg (p := fun a => decide (ecc k l a = r)) (by simpa using e)]
        exact m3_L2 hk hM hE r g (j+1) v (by omega) (by omega) (by omega)
    · have : j = k := by omega
      subst this
      rw [if_neg (by omega), Nat.sub_self]; exact ⟨(j : Int), by simp [intl]⟩
theorem ecc_lt (G : Good k l) {a : Nat} (ha : a < k) : ecc k l a < k := by
  obtain ⟨y, hy, e⟩ := mx_at (f := dst k l a) (show 0 < k by omega)
  show mx _ k < k
  rw [← e]; exact dst_lt G ha hy
theorem middle3_ev (G : Good k l) : R3_Middle 300 (k : Int) l = some (intl (mids k l), (rad k l : Int)) := by
  have hk := G.le; have hp := G.pos
  obtain ⟨M, m1, m2, m3⟩ := far3 G
  obtain ⟨r, x, r1, r2, r3⟩ := m3_L1 G m2 m3 300 0 (k : Int) (by omega) (Nat.zero_le _) (.inl rfl) (fun a ha => by omega)
  have hr : r = (rad k l : Int) := by
    obtain ⟨y, hy, e⟩ := mn_at (f := ecc k l) (show 0 < k by omega)
    have e : ecc k l y = rad k l := e
    have h1 := r3 y hy
    have h2 := ecc_lt G hy
    rcases r2 with q | ⟨a, ha, q⟩
    · omega
    · have : rad k l ≤ ecc k l a := mn_le ha
      omega
  subst hr
  obtain ⟨z, hz⟩ := m3_L2 hk m2 m3 (rad k l) 300 0 [] (by omega) (Nat.zero_le _) (Nat.zero_le _)
  rw [List.nil_append, Nat.sub_zero, ← List.range_eq_range'] at hz
  unfold R3_Middle
  rw [m1, Option.bind_some, show R3_Middle_L1 300 (k : Int) M 300 (k : Int) 0 = _ from r1, Option.bind_some]
  dsimp only
  rw [show R3_Middle_L2 300 (k : Int) M (rad k l : Int) 300 [] 0 = _ from hz]; rfl
/-! ### the document's Before -/
theorem sIx_lb {u : List UInt8} {j : Nat} (c : j < u.length) : sIx (lb u) (j : Int) = some ((u[j].toNat : Nat) : Int) := by
  have hj2 : (lb u)[((j : Int)).toNat]? = some u[j] := by
    rw [Int.toNat_natCast]
    have hlt : j < (lb u).size := by rw [lb_size]; exact c
    rw [getElem?_pos (lb u) j hlt]
    simp [lb, ByteArray.getElem_eq_getElem_data]
  unfold sIx; rw [if_pos (by omega), hj2]; rfl
theorem bef_L1 {u v : List UInt8} (hu : u.length ≤ 100) : ∀ (g j : Nat), u.length < j + g → j ≤ u.length → j ≤ v.length →
    ((R3_Before_L1 300 (lb u) (lb v) g (j : Int)).bind fun o7 => match o7 with | .inr r => some r | .inl o7 => (if ((lb u).size : Int) < ((lb v).size : Int) then some true else some false).bind fun b8 => some b8) = some (decide (u.drop j < v.drop j))
  | 0, j, h, hj, _ => by omega
  | g+1, j, h, hj, hv => by
    rw [R3_Before_L1_s]
    simp only [lb_size]
    by_cases c1 : j < u.length
    · rw [if_pos (by omega)]
      by_cases c2 : j < v.length
      · rw [if_pos (by omega), Option.bind_some, if_pos rfl, sIx_lb c1, sIx_lb c2]
        simp only [Option.bind_some]
        rw [w64n (by omega), List.drop_eq_getElem_cons c1, List.drop_eq_getElem_cons c2]
        by_cases e : u[j] = v[j]
        · rw [if_neg (by rw [e]; simp)]
          have ih := bef_L1 (v := v) hu g (j+1) (by omega) (by omega) (by omega)
          simp only [lb_size] at ih
          rw [ih, e]; refine congrArg some (decide_eq_decide.2 ?_); rw [List.cons_lt_cons_iff]; exact ⟨fun h => .inr ⟨rfl, h⟩, fun h => h.elim (fun q => absurd q (UInt8.lt_irrefl _)) (·.2)⟩
        · have hne : u[j].toNat ≠ v[j].toNat := fun q => e (UInt8.toNat_inj.1 q)
          rw [if_pos (by rw [bne_iff_ne]; omega)]
          by_cases q : u[j] < v[j]
          · have : u[j].toNat < v[j].toNat := UInt8.lt_iff_toNat_lt.1 q
            rw [if_pos (by omega)]; refine congrArg some (decide_eq_true ?_).symm; rw [List.cons_lt_cons_iff]; exact .inl q
          · have : ¬ u[j].toNat < v[j].toNat := fun h => q (UInt8.lt_iff_toNat_lt.2 h)
            rw [if_neg (by omega)]; refine congrArg some (decide_eq_false ?_).symm; rw [List.cons_lt_cons_iff]; exact fun h => h.elim q (fun h => e h.1)
      · rw [if_neg (by omega), Option.bind_some, if_neg (by decide), Option.bind_some]
        simp only []
        rw [if_neg (by omega), (List.drop_eq_nil_of_le (by omega) : v.drop j = [])]; simp
    · rw [if_neg (by omega), Option.bind_some, if_neg (by decide), Option.bind_some]
      simp only []
      rw [(List.drop_eq_nil_of_le (by omega) : u.drop j = [])]
      by_cases c2 : j < v.length
      · rw [if_pos (by omega)]; exact congrArg some (decide_eq_true (by rw [List.drop_eq_getElem_cons c2]; exact List.nil_lt_cons _ _)).symm
      · rw [if_neg (by omega), (List.drop_eq_nil_of_le (by omega) : v.drop j = [])]; simp
theorem before_ev {u v : List UInt8} (hu : u.length ≤ 100) : R3_Before 300 (lb u) (lb v) = some (decide (u < v)) := by
  have h := bef_L1 (v := v) hu 300 0 (by omega) (Nat.zero_le _) (Nat.zero_le _)
  rw [List.drop_zero, List.drop_zero] at h
  exact h
/-! ### the document's name -/
theorem n3_L1 (hk : k ≤ 8) (hl : l.length < 300) (hin : InL k l) (rec : Int → List (Int × Int) → Int → Int → Option ByteArray) (a : Nat) (f : Int) (g0 : Nat → List UInt8) (h : ∀ x, x ∈ Nm.ch k (adjB k l) a f → rec (k : Int) l (x : Int) (a : Int) = some (lb (g0 x))) :
    ∀ (g j : Nat) (v : List ByteArray), k < j + g → j ≤ k → v.length ≤ j →
    ∃ x, R3_name_L1 300 rec (k : Int) l (a : Int) f g v (j : Int) = some (v ++ ((List.range' j (k - j)).filter fun c => adjB k l a c && decide ((c : Int) ≠ f)).map (fun c => lb (g0 c)), x)
  | 0, j, v, _, _, _ => by omega
  | g+1, j, v, hg, hj, hv => by
    rw [R3_name_L1_s]
    by_cases c : j < k
    · rw [if_pos (by omega), R1_Beside_ev _ _ hl (by omega), w64n (by omega), show k - j = (k - (j+1)) + 1 by omega, List.range'_succ]
      have hbe : besL l (a : Int) (j : Int) = adjB k l a j := Bool.eq_iff_iff.2 (besL_ad hin a j)
      rw [hbe]
      have hcond : (if ((j : Int) != f) = true then (some (adjB k l a j)).bind fun y2 => if y2 = true then some true else some false else some false) = some (adjB k l a j && decide ((j : Int) ≠ f)) := by
        by_cases e : (j : Int) = f
        · rw [if_neg (by rw [bne_iff_ne]; simpa using e), decide_eq_false (by simpa using e), Bool.and_false]
        · rw [if_pos (by rw [bne_iff_ne]; exact e), decide_eq_true e, Bool.and_true, Option.bind_some]
          cases adjB k l a j <;> rfl
      rw [hcond, Option.bind_some]
      cases hp : (adjB k l a j && decide ((j : Int) ≠ f)) with
      | true =>
        have hm : j ∈ Nm.ch k (adjB k l) a f := List.mem_filter.2 ⟨List.mem_range.2 c, hp⟩
        have ha : app v (lb (g0 j)) = some (v ++ [lb (g0 j)]) := by unfold app; rw [if_pos (by omega)]
        rw [if_pos rfl, h j hm, Option.bind_some, ha, Option.bind_some, List.filter_cons_of_pos (p := fun c : Nat => adjB k l a c && decide ((c : Int) ≠ f)) hp, List.map_cons]
        obtain ⟨x, hx⟩ := n3_L1 hk hl hin rec a f g0 h g (j+1) (v ++ [lb (g0 j)]) (by omega) (by omega) (by rw [List.length_append]; simp; omega)
        exact ⟨x, by rw [hx, List.append_assoc]; rfl⟩
      | false =>
        rw [if_neg (by decide), List.filter_cons_of_neg (p := fun c : Nat => adjB k l a c && decide ((c : Int) ≠ f)) (by rw [hp]; decide)]
        exact n3_L1 hk hl hin rec a f g0 h g (j+1) v (by omega) (by omega) (by omega)
    · have : j = k := by omega
      subst this
      rw [if_neg (by omega), Nat.sub_self]; exact ⟨(j : Int), by simp⟩
/-- the best of those that are not used -/
theorem n3_L3 (rec : Int → List (Int × Int) → Int → Int → Option ByteArray) {N : List (List UInt8)} (hN : N.length ≤ 100) (hb : ∀ u ∈ N, u.length ≤ 100) {used : List Bool} (hu : used.length = N.length) :
    ∀ (g j : Nat) (b : Int), N.length < j + g → j ≤ N.length → ((b = -1 ∧ ∀ i, i < j → used.getD i false = true) ∨ ∃ q : Nat, b = q ∧ q < N.length ∧ used.getD q false = false ∧ ∀ i, i < j → used.getD i false = false → N.getD q [] ≤ N.getD i []) →
    ∃ r x, R3_name_L3 300 rec (N.map lb) used g b (j : Int) = some (r, x) ∧ ((r = -1 ∧ ∀ i, i < N.length → used.getD i false = true) ∨ ∃ q : Nat, r = q ∧ q < N.length ∧ used.getD q false = false ∧ ∀ i, i < N.length → used.getD i false = false → N.getD q [] ≤ N.getD i [])
  | 0, j, b, h, hj, _ => by omega
  | g+1, j, b, h, hj, hI => by
    rw [R3_name_L3_s, List.length_map]
    by_cases c : j < N.length
    · have h1 : ix used (j : Int) = some (used.getD j false) := ix_at false (by omega)
      have hix : ∀ i : Nat, i < N.length → ix (N.map lb) (i : Int) = some (lb (N.getD i [])) := fun i hi => by
        unfold ix; rw [if_pos (by omega), Int.toNat_natCast, List.getElem?_map, List.getElem?_eq_getElem hi]; simp [List.getD, hi]
      rw [if_pos (by omega), h1, Option.bind_some, w64n (by omega)]
      cases hj2 : used.getD j false with
      | true =>
        rw [if_pos rfl, Option.bind_some, if_neg (by decide)]
        refine n3_L3 rec hN hb hu g (j+1) b (by omega) (by omega) ?_
        rcases hI with ⟨e, hq⟩ | ⟨q, e, q1, q2, q3⟩
        · exact .inl ⟨e, fun i hi => by
            by_cases t : i = j
            · subst t; exact hj2
            · exact hq i (by omega)⟩
        · exact .inr ⟨q, e, q1, q2, fun i hi hf => by
            by_cases t : i = j
            · subst t; rw [hj2] at hf; cases hf
            · exact q3 i (by omega) hf⟩
      | false =>
        rw [if_neg (by decide)]
        rcases hI with ⟨e, hq⟩ | ⟨q, e, q1, q2, q3⟩
        · rw [if_pos (by omega), Option.bind_some, if_pos rfl]
          exact n3_L3 rec hN hb hu g (j+1) _ (by omega) (by omega) (.inr ⟨j, rfl, c, hj2, fun i hi hf => by
            by_cases t : i = j
            · subst t; exact List.le_refl _
            · rw [hq i (by omega)] at hf; cases hf⟩)
        · subst e
          have hl : (N.getD j []).length ≤ 100 := hb _ (by rw [List.getD_eq_getElem?_getD, List.getElem?_eq_getElem c]; exact List.getElem_mem _)
          rw [if_neg (by omega), hix j c, Option.bind_some, hix q q1, Option.bind_some, before_ev hl, Option.bind_some]
          by_cases t : N.getD j [] < N.getD q []
          · rw [decide_eq_true t, if_pos rfl, Option.bind_some, if_pos rfl]
            exact n3_L3 rec hN hb hu g (j+1) _ (by omega) (by omega) (.inr ⟨j, rfl, c, hj2, fun i hi hf => by
              by_cases t2 : i = j
              · subst t2; exact List.le_refl _
              · exact List.le_trans (List.le_of_lt t) (q3 i (by omega) hf)⟩)
          · rw [decide_eq_false t, if_neg (by decide), Option.bind_some, if_neg (by decide)]
            exact n3_L3 rec hN hb hu g (j+1) _ (by omega) (by omega) (.inr ⟨q, rfl, q1, q2, fun i hi hf => by
              by_cases t2 : i = j
              · subst t2; exact t
              · exact q3 i (by omega) hf⟩)
    · rw [if_neg (by omega)]
      refine ⟨b, _, rfl, ?_⟩
      have : j = N.length := by omega
      rw [this] at hI; exact hI
/-- those that are not used -/
def left3 (N : List (List UInt8)) (used : List Bool) : List (List UInt8) := ((List.range N.length).filter fun i => !used.getD i false).map fun i => N.getD i []
theorem left3_set {N : List (List UInt8)} {used : List Bool} (hu : used.length = N.length) {q : Nat} (hq : q < N.length) (h : used.getD q false = false) : (N.getD q [] :: left3 N (used.set q true)).Perm (left3 N used) := by
  have hs : ∀ i, (used.set q true).getD i false = if i = q then true else used.getD i false := fun i => by
    rw [List.getD_eq_getElem?_getD, List.getD_eq_getElem?_getD]
    by_cases e : i = q
    · subst e; rw [List.getElem?_set_self (by omega), if_pos rfl]; rfl
    · rw [List.getElem?_set_ne (Ne.symm e), if_neg e]
  have hp : (q :: (List.range N.length).filter fun i => !(used.set q true).getD i false).Perm ((List.range N.length).filter fun i => !used.getD i false) := by
    refine (List.perm_ext_iff_of_nodup (List.nodup_cons.2 ⟨fun hm => ?_, List.nodup_range.filter _⟩) (List.nodup_range.filter _)).2 fun x => ?_
    · have := (List.mem_filter.1 hm).2
      rw [hs, if_pos rfl] at this; cases this
    · rw [List.mem_cons, List.mem_filter, List.mem_filter, List.mem_range, hs]
      constructor
      · rintro (rfl | ⟨h1, h2⟩)
        · exact ⟨hq, by rw [h]; rfl⟩
        · refine ⟨h1, ?_⟩
          by_cases e : x = q
          · subst e; rw [if_pos rfl] at h2; cases h2
          · rw [if_neg e] at h2; exact h2
      · rintro ⟨h1, h2⟩
        by_cases e : x = q
        · exact .inl e
        · exact .inr ⟨h1, by rw [if_neg e]; exact h2⟩
  unfold left3
  exact hp.map (fun i => N.getD i [])
theorem n3_L2 (rec : Int → List (Int × Int) → Int → Int → Option ByteArray) {N : List (List UInt8)} (hN : N.length ≤ 100) (hb : ∀ u ∈ N, u.length ≤ 100) :
    ∀ (g j : Nat) (P : List (List UInt8)) (used : List Bool), N.length < j + g → j ≤ N.length → used.length = N.length → P.length = j → (P ++ left3 N used).Perm N → (P.Pairwise fun x y => x ≤ y) → (∀ x ∈ P, ∀ y ∈ left3 N used, x ≤ y) → (∀ x ∈ P, x.length ≤ 100) →
    ∃ us x, R3_name_L2 300 rec (N.map lb) g (lb (40 :: P.flatten)) used (j : Int) = some (lb (40 :: (Nm.srt N).flatten), us, x)
  | 0, j, P, used, h, hj, _, _, _, _, _, _ => by omega
  | g+1, j, P, used, h, hj, hu, hPl, hperm, hsort, hle, hPb => by
    rw [R3_name_L2_s, List.length_map]
    have hcount := hperm.length_eq
    rw [List.length_append] at hcount
    by_cases c : j < N.length
    · obtain ⟨r, x, r1, r2⟩ := n3_L3 rec hN hb hu 300 0 (-1) (by omega) (Nat.zero_le _) (.inl ⟨rfl, fun i hi => by omega⟩)
      rcases r2 with ⟨_, hall⟩ | ⟨q, rfl, q1, q2, q3⟩
      · exfalso
        have : left3 N used = [] := by
          unfold left3
          rw [List.filter_eq_nil_iff.2 fun i hi => by rw [hall i (List.mem_range.1 hi)]; decide]; rfl
        rw [this] at hcount; simp at hcount; omega
      · have hq1 : ix (N.map lb) (q : Int) = some (lb (N.getD q [])) := by
          unfold ix; rw [if_pos (by omega), Int.toNat_natCast, List.getElem?_map, List.getElem?_eq_getElem q1]; simp [List.getD, q1]
        have hst : st used (q : Int) true = some (used.set q true) := by unfold st; rw [if_pos (by omega), Int.toNat_natCast]
        have hmq : N.getD q [] ∈ N := by rw [List.getD_eq_getElem?_getD, List.getElem?_eq_getElem q1]; exact List.getElem_mem _
        have hql := hb _ hmq
        have hfl : ∀ P' : List (List UInt8), (∀ x ∈ P', x.length ≤ 100) → P'.flatten.length ≤ 100 * P'.length := by
          intro P'
          induction P' with
          | nil => intro _; exact Nat.zero_le _
          | cons y P' ih =>
            intro h
            have := h y List.mem_cons_self; have := ih fun z hz => h z (List.mem_cons_of_mem _ hz)
            rw [List.flatten_cons, List.length_append, List.length_cons]; omega
        have hpl := hfl P hPb
        have hls := left3_set hu q1 q2
        rw [if_pos (by omega), show R3_name_L3 300 rec (N.map lb) used 300 (-1) 0 = _ from r1, Option.bind_some]
        dsimp only
        rw [hst, Option.bind_some, hq1, Option.bind_some, cat_lb (by rw [List.length_cons]; omega), Option.bind_some, w64n (by omega)]
        have e : (40 :: P.flatten) ++ N.getD q [] = 40 :: (P ++ [N.getD q []]).flatten := by simp
        rw [e]
        have hsub : ∀ y ∈ left3 N (used.set q true), y ∈ left3 N used := fun y hy => hls.mem_iff.1 (List.mem_cons_of_mem _ hy)
        have hqm : N.getD q [] ∈ left3 N used := hls.mem_iff.1 List.mem_cons_self
        refine n3_L2 rec hN hb g (j+1) (P ++ [N.getD q []]) (used.set q true) (by omega) (by omega) (by rw [List.length_set]; exact hu) (by rw [List.length_append, hPl]; rfl) ?_ ?_ (fun x hx y hy => ?_) (fun x hx => ?_)
        · rw [List.append_assoc]
          exact (List.Perm.append_left P hls).trans hperm
        · rw [List.pairwise_append]
          exact ⟨hsort, List.pairwise_singleton _ _, fun x hx y hy => by rw [List.mem_singleton.1 hy]; exact hle x hx _ hqm⟩
        · rcases List.mem_append.1 hx with hx | hx
          · exact hle x hx y (hsub y hy)
          · rw [List.mem_singleton.1 hx]
            have hy2 := hsub y hy
            unfold left3 at hy2
            obtain ⟨i, hi, rfl⟩ := List.mem_map.1 hy2
            obtain ⟨h1, h2⟩ := List.mem_filter.1 hi
            exact q3 i (List.mem_range.1 h1) (by simpa using h2)
        · rcases List.mem_append.1 hx with hx | hx
          · exact hPb x hx
          · rw [List.mem_singleton.1 hx]; exact hql
    · have hz : left3 N used = [] := List.eq_nil_of_length_eq_zero (by omega)
      rw [hz, List.append_nil] at hperm
      have : Nm.srt N = P := Nm.sorted_eq ((Nm.srt_perm N).trans hperm.symm) (Nm.srt_sorted N) hsort
      rw [if_neg (by omega), this]; exact ⟨_, _, rfl⟩
theorem name3F (G : Good k l) : ∀ (n a : Nat) (f : Int), a < k → Nm.val (Ad k l) f a → (∀ x, Nm.Sb k (dst k l) f a x → dst k l a x ≤ n) → R3_name 300 (n+1) (k : Int) l (a : Int) f = some (lb (Nm.nm k (adjB k l) n a f))
  | n, a, f, ha, hv, hd => by
    have hk := G.le; have hll := G.len
    have T := tr_of G
    rw [R3_name_s]
    have hchl : (Nm.ch k (adjB k l) a f).length ≤ k := by
      unfold Nm.ch
      have := List.length_filter_le (fun c : Nat => adjB k l a c && decide ((c : Int) ≠ f)) (List.range k)
      rwa [List.length_range] at this
    obtain ⟨g, hg, hnm, hgl⟩ : ∃ g : Nat → List UInt8, (∀ x, x ∈ Nm.ch k (adjB k l) a f → R3_name 300 n (k : Int) l (x : Int) (a : Int) = some (lb (g x))) ∧
        Nm.nm k (adjB k l) n a f = 40 :: ((Nm.srt ((Nm.ch k (adjB k l) a f).map g)).flatten ++ [41]) ∧ ∀ c ∈ Nm.ch k (adjB k l) a f, (g c).length ≤ 100 := by
      cases n with
      | zero =>
        have he : Nm.ch k (adjB k l) a f = [] := List.eq_nil_iff_forall_not_mem.2 fun x hc => by
          obtain ⟨c1, c2⟩ := Nm.ch_val T adjB_iff hc
          have := hd x (Nm.ch_sb T adjB_iff hv hc (Nm.sb_self T c1 c2))
          have := T.one ((Nm.ch_mem T adjB_iff).1 hc).1; omega
        refine ⟨fun _ => [], fun x hx => ?_, ?_, fun c hc => ?_⟩
        · rw [he] at hx; cases hx
        · rw [he]; show ([40, 41] : List UInt8) = 40 :: ((Nm.srt []).flatten ++ [41]); simp [Nm.srt]
        · rw [he] at hc; cases hc
      | succ n =>
        refine ⟨fun c => Nm.nm k (adjB k l) n c a, fun x hc => ?_, rfl, fun c hc => ?_⟩
        · obtain ⟨c1, c2⟩ := Nm.ch_val T adjB_iff hc
          refine name3F G n x a c1 c2 fun y hy => ?_
          have h2 := hd y (Nm.ch_sb T adjB_iff hv hc hy)
          have h3 := hy.2 a rfl
          rw [T.symd ha hy.1] at h2
          rw [T.symd c1 hy.1]; omega
        · obtain ⟨c1, c2⟩ := Nm.ch_val T adjB_iff hc
          have := nm_le G (n := n) c1 c2
          show (Nm.nm k (adjB k l) n c ((a : Nat) : Int)).length ≤ 100
          omega
    obtain ⟨x, hx⟩ := n3_L1 hk (by omega) G.inl (R3_name 300 n) a f g hg 300 0 [] (by omega) (Nat.zero_le _) (Nat.zero_le _)
    rw [List.nil_append, Nat.sub_zero, ← List.range_eq_range'] at hx
    have hx : R3_name_L1 300 (R3_name 300 n) (k : Int) l (a : Int) f 300 [] 0 = some ((Nm.ch k (adjB k l) a f).map (fun c => lb (g c)), x) := hx
    rw [hx, Option.bind_some]
    dsimp only
    obtain ⟨N, hNe⟩ : ∃ N, N = (Nm.ch k (adjB k l) a f).map g := ⟨_, rfl⟩
    have hNl : N.length ≤ 8 := by rw [hNe, List.length_map]; omega
    have hNb : ∀ u ∈ N, u.length ≤ 100 := fun u hu => by
      rw [hNe] at hu
      obtain ⟨c, hc, rfl⟩ := List.mem_map.1 hu
      exact hgl c hc
    have hmap : (Nm.ch k (adjB k l) a f).map (fun c => lb (g c)) = N.map lb := by rw [hNe, List.map_map]; rfl
    rw [hmap]
    rw [← hNe] at hnm
    have hmk : mkB ((N.map lb).length : Int) = some (List.replicate N.length false) := by unfold mkB; rw [List.length_map, if_pos (by omega), Int.toNat_natCast]
    have hl3 : left3 N (List.replicate N.length false) = N := by
      unfold left3
      rw [List.filter_eq_self.2 fun i hi => by
        have := List.mem_range.1 hi
        simp [List.getD, this]]
      refine List.ext_getElem (by simp) fun i h1 h2 => ?_
      simp [List.getD, h2]
    obtain ⟨us, z, hz⟩ := n3_L2 (R3_name 300 n) (N := N) (by omega) hNb 300 0 [] (List.replicate N.length false) (by omega) (Nat.zero_le _) List.length_replicate rfl (by rw [hl3]; exact List.Perm.refl _) List.Pairwise.nil (fun x hx => (by cases hx)) (fun x hx => (by cases hx))
    have hz : R3_name_L2 300 (R3_name 300 n) (N.map lb) 300 (⟨#[40]⟩ : ByteArray) (List.replicate N.length false) 0 = _ := hz
    rw [hmk, Option.bind_some, hz, Option.bind_some]
    dsimp only
    have hfin := nm_le G (n := n) ha hv
    rw [hnm] at hfin
    rw [show (⟨#[41]⟩ : ByteArray) = lb [41] from rfl, cat_lb (by simp at hfin ⊢; omega), Option.bind_some, hnm]
    simp
theorem name3_root (G : Good k l) {a : Nat} (ha : a < k) : R3_name 300 300 (k : Int) l (a : Int) (-1) = some (lb (nmR k l a)) :=
  name3F G 299 a (-1) ha (.inl rfl) fun x hx => by have := dst_lt G ha hx.1; have := G.le; omega
theorem N3_L1 (G : Good k l) {ms : List Nat} (hms : ∀ a ∈ ms, a < k) (hl : ms.length ≤ 8) : ∀ (g j : Nat) (m : List UInt8), ms.length < j + g → j ≤ ms.length → (∃ a ∈ ms, m = nmR k l a) → (∀ i, i < j → ∀ a, ms[i]? = some a → m ≤ nmR k l a) →
    ∃ r x, R3_Name_L1 300 (k : Int) l (intl ms) g (lb m) (j : Int) = some (lb r, x) ∧ (∃ a ∈ ms, r = nmR k l a) ∧ ∀ a ∈ ms, r ≤ nmR k l a
  | 0, j, m, h, hj, _, _ => by omega
  | g+1, j, m, h, hj, hm, hI => by
    have hk := G.le
    rw [R3_Name_L1_s]
    have hil : (intl ms).length = ms.length := by simp [intl]
    rw [hil]
    by_cases c : j < ms.length
    · have h1 : ix (intl ms) (j : Int) = some ((ms[j] : Nat) : Int) := by unfold ix intl; rw [if_pos (by omega), Int.toNat_natCast, List.getElem?_map, List.getElem?_eq_getElem c]; rfl
      have hmk := hms _ (List.getElem_mem c)
      have hlen := (nmR_len G hmk).1
      rw [if_pos (by omega), h1, Option.bind_some, name3_root G hmk, Option.bind_some, before_ev (by omega), Option.bind_some, w64n (by omega)]
      by_cases e : nmR k l ms[j] < m
      · rw [decide_eq_true e, if_pos rfl]
        exact N3_L1 G hms hl g (j+1) _ (by omega) (by omega) ⟨_, List.getElem_mem c, rfl⟩ fun i hi a ha => by
          by_cases q : i = j
          · subst q; rw [List.getElem?_eq_getElem c] at ha; rw [Option.some.inj ha]; exact List.le_refl _
          · exact List.le_trans (List.le_of_lt e) (hI i (by omega) a ha)
      · rw [decide_eq_false e, if_neg (by decide)]
        exact N3_L1 G hms hl g (j+1) m (by omega) (by omega) hm fun i hi a ha => by
          by_cases q : i = j
          · subst q; rw [List.getElem?_eq_getElem c] at ha; rw [← Option.some.inj ha]; exact e
          · exact hI i (by omega) a ha
    · rw [if_neg (by omega)]
      refine ⟨m, _, rfl, hm, fun a ha => ?_⟩
      obtain ⟨i, hi, e⟩ := List.getElem_of_mem ha
      exact hI i (by omega) a (by rw [List.getElem?_eq_getElem hi, e])
theorem Name3_ev (G : Good k l) : ∃ s, R3_Name 300 (k : Int) l = some (lb s) ∧ (∃ a ∈ mids k l, s = nmR k l a) ∧ ∀ a ∈ mids k l, s ≤ nmR k l a := by
  have hk := G.le
  have hp := mids_pos (l := l) (show 0 < k from G.pos)
  have hl := mids_len (l := l) hk
  have hms : ∀ a ∈ mids k l, a < k := fun a ha => (mids_mem.1 ha).1
  have h1 : ix (intl (mids k l)) 0 = some (((mids k l)[0] : Nat) : Int) := by unfold ix intl; rw [if_pos (by omega), show Int.toNat 0 = 0 from rfl, List.getElem?_map, List.getElem?_eq_getElem hp]; rfl
  obtain ⟨r, x, r1, r2, r3⟩ := N3_L1 G hms hl 300 1 (nmR k l (mids k l)[0]) (by omega) (by omega) ⟨_, List.getElem_mem hp, rfl⟩ (fun i hi a ha => by
    have : i = 0 := by omega
    subst this
    rw [List.getElem?_eq_getElem hp] at ha; rw [Option.some.inj ha]; exact List.le_refl _)
  refine ⟨r, ?_, r2, r3⟩
  unfold R3_Name
  rw [middle3_ev G, Option.bind_some]
  dsimp only
  rw [h1, Option.bind_some, name3_root G (hms _ (List.getElem_mem hp)), Option.bind_some, show R3_Name_L1 300 (k : Int) l (intl (mids k l)) 300 _ 1 = _ from r1, Option.bind_some]
/-! ### the law -/
theorem ts_L1 (G : Good k l) {M : List (List Int)} (hM : Sh k M) (hE : ∀ a, a < k → R3_Most 300 (M.getD a []) = some (ecc k l a : Int)) : ∀ (g j : Nat), k < j + g → j ≤ k →
    ∃ x, L3_TreeSays_L1 300 (k : Int) M g ((mx (ecc k l) j : Nat) : Int) (j : Int) = some ((diam k l : Int), x)
  | 0, j, h, hj => by omega
  | g+1, j, h, hj => by
    have hk := G.le
    rw [L3_TreeSays_L1_s]
    by_cases c : j < k
    · rw [if_pos (by omega), hM.ix c]
      simp only [Option.bind_some]
      rw [hE j c]
      simp only [Option.bind_some]
      rw [w64n (by omega)]
      have hm : mx (ecc k l) (j+1) = max (mx (ecc k l) j) (ecc k l j) := rfl
      have ih := ts_L1 G hM hE g (j+1) (by omega) (by omega)
      rw [hm] at ih
      by_cases e : ((mx (ecc k l) j : Nat) : Int) < (ecc k l j : Int)
      · rw [if_pos e]; rw [show max (mx (ecc k l) j) (ecc k l j) = ecc k l j by omega] at ih; exact ih
      · rw [if_neg e]; rw [show max (mx (ecc k l) j) (ecc k l j) = mx (ecc k l) j by omega] at ih; exact ih
    · have : j = k := by omega
      subst this
      rw [if_neg (by omega)]; exact ⟨_, rfl⟩
end
theorem treeSays_ev {n : Int} {l : List (Int × Int)} (hg : good n l) : L3_TreeSays 300 n l = some true := by
  unfold L3_TreeSays
  have hme : ∀ c : Int, mErr c c = some true := fun c => by unfold mErr; simp
  rw [tree3_ev hg, Option.bind_some, tree_ev hg, Option.bind_some, hme, Option.bind_some]
  by_cases h : errT n l = 0
  · obtain ⟨k, rfl, G⟩ := good_of hg h
    have hk := G.le
    obtain ⟨M, m1, m2, m3⟩ := far3 G
    obtain ⟨s, s1, ⟨a, ha, sa⟩, s3⟩ := Name_ev G
    obtain ⟨t, t1, ⟨b, hb, tb⟩, t3⟩ := Name3_ev G
    have hst : s = t := List.le_antisymm (by rw [tb]; exact s3 b hb) (by rw [sa]; exact t3 a ha)
    subst hst
    obtain ⟨x, hx⟩ := ts_L1 G m2 m3 300 0 (by omega) (Nat.zero_le _)
    have hml := mids_len (l := l) hk
    have hii : SE_Ints 300 (intl (mids k l)) (intl (mids k l)) = some true := by
      rw [SE_Ints_ev (by simp [intl]; omega) (by simp [intl]; omega), decide_eq_true rfl]
    rw [h, if_pos (by decide), Option.bind_some, if_pos rfl, middle3_ev G, Option.bind_some, t1, Option.bind_some, m1, Option.bind_some, show L3_TreeSays_L1 300 (k : Int) M 300 0 0 = _ from hx, Option.bind_some, Option.bind_some, middle_ev G, Option.bind_some]
    dsimp only
    rw [hme, Option.bind_some, if_pos rfl, hii, Option.bind_some, if_pos rfl, Option.bind_some, if_pos rfl, if_pos (by rw [beq_self_eq_true]), Option.bind_some, long_ev G, Option.bind_some]
    dsimp only
    rw [hme, Option.bind_some, if_pos rfl, if_pos (by rw [beq_self_eq_true]), Option.bind_some, s1, Option.bind_some]
    simp [hme]
  · have hz : (errT n l == 0) = false := by rw [beq_eq_false_iff_ne]; exact h
    have hii : SE_Ints 300 [] [] = some true := by rw [SE_Ints_ev (by simp) (by simp), decide_eq_true rfl]
    rw [hz, if_neg (by decide), Option.bind_some, if_neg (by decide), Option.bind_some, middle_bad hg h, Option.bind_some]
    dsimp only
    rw [hme, Option.bind_some, if_pos rfl, hii, Option.bind_some, if_pos rfl, Option.bind_some, if_pos rfl, if_pos (by decide), Option.bind_some, long_bad hg h, Option.bind_some]
    dsimp only
    rw [hme, Option.bind_some, if_pos rfl, if_pos (by decide), Option.bind_some, Name_bad hg h, Option.bind_some]
    simp [hme]
theorem treeSays_any (w : World) (htc : TyCell w) (n : Int) (hn : (Lit.int .i64 n).wf = true) (A : Option Addr) (cap : Nat) (l : List (Int × Int)) (hr : ReadsL w w.heap.size A l) (hl : l.length ≤ maxLen) :
    Calls Tryd.prog 3 #[.int .i64 n, .slice A l.length cap] w fun e w' => e = .returned (.bool true) ∧ Below w.heap.size w w' :=
  L3_TreeSays_ok w htc cap hr (treeSays_ev ⟨hn, hl⟩)
end Go.Proofs.YtgnbholhgcbhfaaDoor
