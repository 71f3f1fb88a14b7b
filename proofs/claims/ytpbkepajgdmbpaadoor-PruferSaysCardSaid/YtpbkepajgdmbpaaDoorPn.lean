import Derived.Test.YtpbkepajgdmbpaaDoorPC
import Derived.Test.YtpbkepajgdmbpaaDoorF4
/- plain: what the document's Prufer and Grown compute -/
set_option linter.all false
set_option maxRecDepth 100000
namespace Go.Proofs.YtpbkepajgdmbpaaDoor
open Go.RowKit Pl
theorem nd_le : ∀ (l m : List Nat), l.Nodup → (∀ x ∈ l, x ∈ m) → l.length ≤ m.length
  | [], m, _, _ => Nat.zero_le _
  | x :: l, m, h, hs => by
    obtain ⟨h1, h2⟩ := List.nodup_cons.1 h
    have hx := hs x List.mem_cons_self
    have := nd_le l (m.erase x) h2 (fun y hy => (List.mem_erase_of_ne (fun e : y = x => h1 (by rw [← e]; exact hy))).2 (hs y (List.mem_cons_of_mem _ hy)))
    rw [List.length_erase_of_mem hx] at this
    have := List.length_pos_of_mem hx
    rw [List.length_cons]; omega
theorem nd_le2 : ∀ (l m : List (Int × Int)), l.Nodup → (∀ x ∈ l, x ∈ m) → l.length ≤ m.length
  | [], m, _, _ => Nat.zero_le _
  | x :: l, m, h, hs => by
    obtain ⟨h1, h2⟩ := List.nodup_cons.1 h
    have hx := hs x List.mem_cons_self
    have := nd_le2 l (m.erase x) h2 (fun y hy => (List.mem_erase_of_ne (fun e : y = x => h1 (by rw [← e]; exact hy))).2 (hs y (List.mem_cons_of_mem _ hy)))
    rw [List.length_erase_of_mem hx] at this
    have := List.length_pos_of_mem hx
    rw [List.length_cons]; omega
theorem nd_full : ∀ (m l : List (Int × Int)), l.Nodup → (∀ x ∈ l, x ∈ m) → m.length ≤ l.length → m.Nodup
  | [], l, _, _, _ => List.nodup_nil
  | x :: m, l, h, hs, hl => by
    rw [List.length_cons] at hl
    by_cases hx : x ∈ l
    · have hs' : ∀ y ∈ l.erase x, y ∈ m := fun y hy => by
        have hyl := List.mem_of_mem_erase hy
        rcases List.mem_cons.1 (hs y hyl) with e | hm
        · subst e; exact absurd hy (List.Nodup.not_mem_erase h)
        · exact hm
      have := nd_full m (l.erase x) (h.erase x) hs' (by rw [List.length_erase_of_mem hx]; omega)
      refine List.nodup_cons.2 ⟨fun hxm => ?_, this⟩
      have := nd_le2 l m h (fun y hy => by
        rcases List.mem_cons.1 (hs y hy) with e | hm
        · subst e; exact hxm
        · exact hm)
      omega
    · have := nd_le2 l m h (fun y hy => by
        rcases List.mem_cons.1 (hs y hy) with e | hm
        · subst e; exact absurd hy hx
        · exact hm)
      omega
def same (p q : Int × Int) : Prop := (p.1 = q.1 ∧ p.2 = q.2) ∨ (p.1 = q.2 ∧ p.2 = q.1)
def norm (p : Int × Int) : Int × Int := if p.1 < p.2 then p else (p.2, p.1)
theorem norm_same {p q : Int × Int} (h : same p q) : norm p = norm q := by
  unfold same at h
  unfold norm
  obtain ⟨a, b⟩ := p; obtain ⟨c, d⟩ := q
  dsimp only at h ⊢
  rcases h with ⟨rfl, rfl⟩ | ⟨rfl, rfl⟩
  · rfl
  · split <;> split
    · omega
    · rfl
    · rfl
    · have : a = b := by omega
      rw [this]
theorem pl_adj {adj : Nat → Nat → Bool} : ∀ {ps : List (Nat × Nat)} {R R' : Nat → Bool}, Pl0 adj ps R R' → ∀ p ∈ ps, adj p.1 p.2 = true
  | [], _, _, _, p, hp => by cases hp
  | (i, u) :: ps, R, R', h, p, hp => by
    rcases List.mem_cons.1 hp with rfl | hp
    · exact h.2.2.1
    · exact pl_adj h.2.2.2.2 p hp
/-- the lines of a tree differ -/
theorem lines_dis {k : Nat} {l : List (Int × Int)} (G : Good k l) : l.Pairwise (fun p q => ¬ same p q) := by
  have hlen := G.len
  by_cases h2 : k < 2
  · have : l = [] := List.length_eq_zero_iff.1 (by omega)
    rw [this]; exact List.Pairwise.nil
  obtain ⟨ps, R', q1, q2, q3, q4, q5, q6, q7, a, b, b1, b2, b3, b4, b5⟩ := write_good G (by omega)
  have hs : ∀ i j, adB k l i j = true → adB k l j i = true := fun i j h => (trB G).sym i j h
  have hk := G.le
  obtain ⟨ps2, ls, c, d, p1, p2, p3, p4, p5, p6, p7, p8, p9, p10, p11, _⟩ := read_good (row := ps.map (·.2)) (n := k) (by rw [List.length_map]; omega) (by rw [List.length_map]; omega) (fun x hx => by
    obtain ⟨p, hp, rfl⟩ := List.mem_map.1 hx
    exact of_decide_eq_true (pl_snd q3 p hp))
  have := cd_uniq p2 p3 q4
  subst this
  have hR : ∀ v, R' v = true ↔ v = c ∨ v = d := fun v => by rw [pl_rems q3]; exact p7 v
  have hcd : adB k l c d = true := by
    have h1 := (hR a).1 b2; have h2 := (hR b).1 b3
    rcases h1 with rfl | rfl <;> rcases h2 with rfl | rfl
    · exact absurd rfl b1
    · exact b4
    · exact hs _ _ b4
    · exact absurd rfl b1
  have hEd : ∀ i j, Ed ps2 c d i j → adB k l i j = true := fun i j h => by
    rcases h with ⟨p, hp, ⟨rfl, rfl⟩ | ⟨rfl, rfl⟩⟩ | ⟨rfl, rfl⟩ | ⟨rfl, rfl⟩
    · exact pl_adj q3 p hp
    · exact hs _ _ (pl_adj q3 p hp)
    · exact hcd
    · exact hs _ _ hcd
  have hnd : (l.map norm).Nodup := nd_full (l.map norm) ls p11 (fun x hx => by
    obtain ⟨i, j, rfl, h1, h2, h3⟩ := p9 x hx
    obtain ⟨p, hp, hh⟩ := (ad_iff G.inl i j).1 (adB_iff.1 (hEd i j h3))
    refine List.mem_map.2 ⟨p, hp, ?_⟩
    have : same p ((i : Int), (j : Int)) := hh
    rw [norm_same this]
    unfold norm
    rw [if_pos (by dsimp only; omega)]) (by rw [List.length_map, p8, List.length_map]; omega)
  exact (List.pairwise_map.1 hnd).imp fun h hsame => h (norm_same hsame)
/-- the lines that are left -/
structure Li (adj : Nat → Nat → Bool) (R : Nat → Bool) (l : List (Int × Int)) : Prop where
  inn : ∀ p ∈ l, ∃ i j : Nat, p = ((i : Int), (j : Int)) ∧ R i = true ∧ R j = true ∧ adj i j = true
  has : ∀ i j, R i = true → R j = true → adj i j = true → ((i : Int), (j : Int)) ∈ l ∨ ((j : Int), (i : Int)) ∈ l
  dis : l.Pairwise (fun p q => ¬ same p q)
def inc (p : Int) (q : Int × Int) : Bool := q.1 == p || q.2 == p
def many (l : List (Int × Int)) (p : Int) : Nat := (l.filter (inc p)).length
def other (v : Nat) (q : Int × Int) : Nat := if q.1 = (v : Int) then q.2.toNat else q.1.toNat
theorem many_dg {adj : Nat → Nat → Bool} {R : Nat → Bool} {l : List (Int × Int)} (hs : ∀ a b, adj a b = true → adj b a = true) (hne : ∀ a, adj a a = false) (h16 : ∀ v, R v = true → v < 16) (h : Li adj R l) {v : Nat} (hv : R v = true) : many l (v : Int) = dg adj R v := by
  have hmem : ∀ x, x ∈ (l.filter (inc (v : Int))).map (other v) ↔ x ∈ (List.range 16).filter (fun j => R j && adj v j) := fun x => by
    rw [List.mem_map, List.mem_filter, List.mem_range, Bool.and_eq_true]
    constructor
    · rintro ⟨q, hq, rfl⟩
      obtain ⟨q1, q2⟩ := List.mem_filter.1 hq
      obtain ⟨i, j, rfl, a1, a2, a3⟩ := h.inn q q1
      unfold inc at q2
      unfold other
      simp only [Bool.or_eq_true, beq_iff_eq] at q2
      dsimp only
      by_cases e : (i : Int) = (v : Int)
      · rw [if_pos e, Int.toNat_natCast]
        have : i = v := by omega
        subst this
        exact ⟨h16 j a2, a2, a3⟩
      · rw [if_neg e, Int.toNat_natCast]
        have : j = v := by omega
        subst this
        exact ⟨h16 i a1, a1, hs _ _ a3⟩
    · rintro ⟨_, x1, x2⟩
      have hxv : x ≠ v := fun e => by subst e; rw [hne] at x2; cases x2
      rcases h.has v x hv x1 x2 with hm | hm
      · exact ⟨_, List.mem_filter.2 ⟨hm, by simp [inc]⟩, by simp [other]⟩
      · refine ⟨_, List.mem_filter.2 ⟨hm, by simp [inc]⟩, ?_⟩
        unfold other
        rw [if_neg (by dsimp only; omega)]; simp
  have hnd : ((l.filter (inc (v : Int))).map (other v)).Nodup := by
    refine List.pairwise_map.2 (List.Pairwise.imp_of_mem ?_ (List.Pairwise.filter _ h.dis))
    intro p q hp hq hpq e
    obtain ⟨p1, p2⟩ := List.mem_filter.1 hp
    obtain ⟨q1, q2⟩ := List.mem_filter.1 hq
    obtain ⟨i, j, rfl, _, _, _⟩ := h.inn p p1
    obtain ⟨i', j', rfl, _, _, _⟩ := h.inn q q1
    apply hpq
    unfold inc at p2 q2
    unfold other at e
    unfold same
    simp only [Bool.or_eq_true, beq_iff_eq] at p2 q2
    dsimp only at e ⊢
    split at e <;> split at e <;> omega
  have h1 := nd_le _ _ hnd (fun x hx => (hmem x).1 hx)
  have h2 := nd_le _ _ (List.Pairwise.filter _ List.nodup_range : ((List.range 16).filter (fun j => R j && adj v j)).Nodup) (fun x hx => (hmem x).2 hx)
  rw [List.length_map] at h1 h2
  unfold many dg
  omega
theorem many_L4 {l : List (Int × Int)} {p : Int} (hl : l.length < 100) : ∀ (g j : Nat) (c : Int), l.length < j + g → j ≤ l.length → c = (((l.take j).filter (inc p)).length : Int) → ∃ x, R3_Prufer_L4 300 l p g c (j : Int) = some ((many l p : Int), x)
  | 0, j, c, h, hj, _ => by omega
  | g+1, j, c, h, hj, hc => by
    rw [R3_Prufer_L4_s]
    have hle : ((l.take j).filter (inc p)).length ≤ 100 := by
      have := List.length_filter_le (inc p) (l.take j)
      rw [List.length_take] at this; omega
    by_cases hlt : j < l.length
    · have ht : ((l.take (j+1)).filter (inc p)).length = ((l.take j).filter (inc p)).length + (if inc p l[j] = true then 1 else 0) := by
        rw [List.take_add_one, List.filter_append, List.length_append, List.getElem?_eq_getElem hlt]
        by_cases e : inc p l[j] = true
        · rw [if_pos e]; simp [e]
        · rw [if_neg e]; simp [e]
      rw [if_pos (by omega), ix_nat hlt, Option.bind_some, Option.bind_some, w64n (by omega)]
      have e0 : ((if (l[j].1 == p) = true then some true else if (l[j].2 == p) = true then some true else some false) : Option Bool) = some (inc p l[j]) := by
        unfold inc
        by_cases q1 : (l[j].1 == p) = true
        · rw [if_pos q1, q1]; rfl
        · rw [if_neg q1]
          by_cases q2 : (l[j].2 == p) = true
          · rw [if_pos q2, q2, Bool.or_true]
          · rw [if_neg q2]; simp [q1, q2]
      rw [e0, Option.bind_some]
      by_cases e : inc p l[j] = true
      · rw [if_pos e] at ht ⊢
        rw [w64 (by omega) (by omega)]
        exact many_L4 hl g (j+1) _ (by omega) (by omega) (by omega)
      · rw [if_neg e] at ht ⊢
        exact many_L4 hl g (j+1) _ (by omega) (by omega) (by omega)
    · rw [if_neg (by omega)]
      have : j = l.length := by omega
      subst this
      rw [List.take_length] at hc
      exact ⟨_, by rw [hc]; rfl⟩
/-- the least so far, and where -/
def Lv (n : Int) (l : List (Int × Int)) (S : Int → Prop) (le ar : Int) : Prop := (∀ p, S p → many l p = 1 → le ≤ p) ∧ (le = n ∨ ∃ a : Nat, ar = (a : Int) ∧ ∃ h : a < l.length, inc le l[a] = true ∧ many l le = 1) ∧ le ≤ n
theorem lv_step {n : Int} {l : List (Int × Int)} {S : Int → Prop} {le ar p : Int} {k : Nat} (h : Lv n l S le ar) (hk : k < l.length) (hp : inc p l[k] = true) (hpn : p < n) :
    ∃ le' ar', ((if ((many l p : Int) == 1) = true then if p < le then some true else some false else some false) : Option Bool) = some (decide (many l p = 1 ∧ p < le)) ∧ (if (decide (many l p = 1 ∧ p < le)) = true then (p, (k : Int)) else (le, ar)) = (le', ar') ∧ Lv n l (fun q => S q ∨ q = p) le' ar' := by
  refine ⟨(if (decide (many l p = 1 ∧ p < le)) = true then (p, (k : Int)) else (le, ar)).1, (if (decide (many l p = 1 ∧ p < le)) = true then (p, (k : Int)) else (le, ar)).2, ?_, rfl, ?_⟩
  · by_cases c1 : many l p = 1
    · rw [if_pos (by rw [c1]; rfl)]
      by_cases c2 : p < le
      · rw [if_pos c2, decide_eq_true ⟨c1, c2⟩]
      · rw [if_neg c2, decide_eq_false (fun c => c2 c.2)]
    · rw [if_neg (by rw [beq_iff_eq]; omega), decide_eq_false (fun c => c1 c.1)]
  · obtain ⟨h1, h2, h3⟩ := h
    by_cases c : many l p = 1 ∧ p < le
    · rw [decide_eq_true c, if_pos rfl]
      refine ⟨fun q hq hm => ?_, .inr ⟨k, rfl, hk, hp, c.1⟩, Int.le_of_lt hpn⟩
      rcases hq with hq | rfl
      · have := h1 q hq hm; dsimp only; omega
      · exact Int.le_refl _
    · rw [decide_eq_false c]
      refine ⟨fun q hq hm => ?_, h2, h3⟩
      rcases hq with hq | rfl
      · exact h1 q hq hm
      · show le ≤ q
        exact Int.not_lt.1 fun hh => c ⟨hm, hh⟩
theorem lv_L3 {n : Int} {l : List (Int × Int)} {S : Int → Prop} {le ar : Int} {k : Nat} (hl : l.length < 100) (h : Lv n l S le ar) (hk : k < l.length) (h1 : l[k].1 < n) (h2 : l[k].2 < n) :
    ∃ le' ar' x, R3_Prufer_L3 300 l (k : Int) 300 le ar 0 = some (le', ar', x) ∧ Lv n l (fun q => (S q ∨ q = l[k].1) ∨ q = l[k].2) le' ar' := by
  obtain ⟨a1, b1, s1, t1, u1⟩ := lv_step h hk (p := l[k].1) (by simp [inc]) h1
  obtain ⟨a2, b2, s2, t2, u2⟩ := lv_step u1 hk (p := l[k].2) (by simp [inc]) h2
  obtain ⟨x1, m1⟩ := many_L4 (l := l) (p := l[k].1) hl 300 0 0 (by omega) (by omega) (by simp)
  obtain ⟨x2, m2⟩ := many_L4 (l := l) (p := l[k].2) hl 300 0 0 (by omega) (by omega) (by simp)
  have e3 : ∀ le ar, R3_Prufer_L3 300 l (k : Int) 298 le ar 2 = some (le, ar, 2) := fun le ar => by rw [R3_Prufer_L3_s]; rfl
  have e2 : R3_Prufer_L3 300 l (k : Int) 299 a1 b1 1 = some (a2, b2, 2) := by
    rw [R3_Prufer_L3_s, if_pos (by decide), ix_nat hk, Option.bind_some, if_pos (by decide), Option.bind_some, show R3_Prufer_L4 300 l l[k].2 300 0 0 = _ from m2, Option.bind_some]
    dsimp only
    rw [s2, Option.bind_some, show wrap64 ((1 : Int) + 1) = 2 from w64 (by omega) (by omega)]
    by_cases c : (decide (many l l[k].2 = 1 ∧ l[k].2 < a1)) = true
    · rw [if_pos c] at t2 ⊢
      rw [e3]; injection t2 with t3 t4; rw [t3, t4]
    · rw [if_neg c] at t2 ⊢
      rw [e3]; injection t2 with t3 t4; rw [t3, t4]
  refine ⟨a2, b2, 2, ?_, u2⟩
  rw [R3_Prufer_L3_s, if_pos (by decide), ix_nat hk, Option.bind_some, if_neg (by decide), show R3_Prufer_L4 300 l l[k].1 300 0 0 = _ from m1, Option.bind_some]
  dsimp only
  rw [s1, Option.bind_some, show wrap64 ((0 : Int) + 1) = 1 from w64 (by omega) (by omega)]
  by_cases c : (decide (many l l[k].1 = 1 ∧ l[k].1 < le)) = true
  · rw [if_pos c] at t1 ⊢
    injection t1 with t3 t4; rw [← t3, ← t4] at e2; exact e2
  · rw [if_neg c] at t1 ⊢
    injection t1 with t3 t4; rw [← t3, ← t4] at e2; exact e2
theorem lv_L2 {n : Int} {l : List (Int × Int)} (hl : l.length < 100) (hn : ∀ p ∈ l, p.1 < n ∧ p.2 < n) : ∀ (g j : Nat) (le ar : Int), l.length < j + g → j ≤ l.length → Lv n l (fun q => ∃ p ∈ l.take j, q = p.1 ∨ q = p.2) le ar →
    ∃ le' ar' x, R3_Prufer_L2 300 l g le ar (j : Int) = some (le', ar', x) ∧ Lv n l (fun q => ∃ p ∈ l, q = p.1 ∨ q = p.2) le' ar'
  | 0, j, le, ar, h, hj, _ => by omega
  | g+1, j, le, ar, h, hj, hI => by
    rw [R3_Prufer_L2_s]
    by_cases hlt : j < l.length
    · have hm := hn _ (List.getElem_mem hlt)
      obtain ⟨a, b, x, r1, r2⟩ := lv_L3 hl hI hlt hm.1 hm.2
      rw [if_pos (by omega), r1, Option.bind_some, w64n (by omega)]
      refine lv_L2 hl hn g (j+1) _ _ (by omega) (by omega) ⟨fun q hq hm => r2.1 q ?_ hm, r2.2⟩
      obtain ⟨p, hp, hh⟩ := hq
      rw [List.take_add_one, List.getElem?_eq_getElem hlt] at hp
      rcases List.mem_append.1 hp with hp | hp
      · exact .inl (.inl ⟨p, hp, hh⟩)
      · have : p = l[j] := by simpa using hp
        subst this
        rcases hh with hh | hh
        · exact .inl (.inr hh)
        · exact .inr hh
    · rw [if_neg (by omega)]
      have : j = l.length := by omega
      subst this
      rw [List.take_length] at hI
      exact ⟨_, _, _, rfl, hI⟩
/-- the document's row -/
theorem pr_L1 {k : Nat} {adj : Nat → Nat → Bool} (hk : k ≤ 8) (hs : ∀ a b, adj a b = true → adj b a = true) (hne : ∀ a, adj a a = false) : ∀ (ps : List (Nat × Nat)) (R R' : Nat → Bool) (l : List (Int × Int)) (out : List Int) (g : Nat), Pl0 adj ps R R' → Cd ps R → (∀ v, R v = true → v < k) → (∀ v, R' v = true → dg adj R' v = 1) → Li adj R l → l.length < 100 →
    out.length + ps.length + 2 = k → ps.length < g → ∃ l', R3_Prufer_L1 300 (k : Int) g l out = some (l', out ++ ps.map (fun p => (p.2 : Int)))
  | [], R, R', l, out, g, _, _, _, _, _, _, ho, hg => by
    obtain ⟨g, rfl⟩ : ∃ g', g = g' + 1 := ⟨g - 1, by omega⟩
    rw [List.length_nil] at ho
    rw [R3_Prufer_L1_s, w64 (by omega) (by omega), if_neg (by omega)]
    exact ⟨l, by simp⟩
  | (i, u) :: ps, R, R', l, out, g, hp, hc, hR, hf, hL, hl, ho, hg => by
    rw [List.length_cons] at ho hg
    obtain ⟨g, rfl⟩ : ∃ g', g = g' + 1 := ⟨g - 1, by omega⟩
    have h16 : ∀ v, R v = true → v < 16 := fun v hv => by have := hR v hv; omega
    have hcnt := pl_cnt hs hne hp h16 hf
    obtain ⟨h1, h2, h3, h4, h5⟩ := hp
    obtain ⟨c1, c2, c3, c4⟩ := hc
    have hlt : ∀ p ∈ l, p.1 < (k : Int) ∧ p.2 < (k : Int) := fun p hp => by
      obtain ⟨x, y, rfl, x1, x2, _⟩ := hL.inn p hp
      have := hR x x1; have := hR y x2
      dsimp only; omega
    obtain ⟨le, ar, x, r1, r2⟩ := lv_L2 hl hlt 300 0 (k : Int) (-1) (by omega) (by omega) ⟨fun q hq => by obtain ⟨p, hp, _⟩ := hq; simp at hp, .inl rfl, Int.le_refl _⟩
    have hdi : dg adj R i = 1 := by have := hcnt i h1; omega
    have hmi : many l (i : Int) = 1 := by rw [many_dg hs hne h16 hL h1]; exact hdi
    -- the line of the leaf
    have hle1 : le ≤ (i : Int) := r2.1 (i : Int) (by
      rcases hL.has i u h1 h2 h3 with hm | hm
      · exact ⟨_, hm, .inl rfl⟩
      · exact ⟨_, hm, .inr rfl⟩) hmi
    have hik := hR i h1
    rcases r2.2.1 with e | ⟨a, rfl, ha, a1, a2⟩
    · omega
    obtain ⟨x1, y1, e1, xR, yR, xy⟩ := hL.inn _ (List.getElem_mem ha)
    have hle2 : le = (i : Int) ∧ ((x1 = i ∧ y1 = u) ∨ (x1 = u ∧ y1 = i)) := by
      have key : ∀ z : Nat, R z = true → le = (z : Int) → le = (i : Int) := fun z hz e => by
        subst e
        rw [many_dg hs hne h16 hL hz] at a2
        have := hcnt z hz
        by_cases q : z < i
        · exact absurd (by omega) (c3 z q hz)
        · omega
      unfold inc at a1
      rw [e1] at a1
      simp only [Bool.or_eq_true, beq_iff_eq] at a1
      rcases a1 with a1 | a1
      · have := key x1 xR a1.symm
        have hx : x1 = i := by omega
        subst hx
        exact ⟨this, .inl ⟨rfl, h4 y1 yR xy⟩⟩
      · have := key y1 yR a1.symm
        have hx : y1 = i := by omega
        subst hx
        exact ⟨this, .inr ⟨h4 x1 xR (hs _ _ xy), rfl⟩⟩
    obtain ⟨rfl, hxy⟩ := hle2
    have hL' : Li adj (rem R i) (l.eraseIdx a) := by
      have hdis : ∀ b, (hb : b < l.length) → b ≠ a → ¬ same l[a] l[b] := fun b hb hba hsm => by
        have hpw := List.pairwise_iff_getElem.1 hL.dis
        rcases Nat.lt_or_ge a b with q | q
        · exact hpw a b ha hb q hsm
        · refine hpw b a hb ha (by omega) ?_
          unfold same at hsm ⊢; omega
      refine ⟨fun p hp => ?_, fun v w hv hw hvw => ?_, hL.dis.sublist (List.eraseIdx_sublist _ _)⟩
      · obtain ⟨b, hb, hba, rfl⟩ := List.mem_eraseIdx_iff_getElem.1 hp
        obtain ⟨v, w, e, v1, w1, vw⟩ := hL.inn _ (List.getElem_mem hb)
        have hno : ∀ z, (v = i ∧ w = z) ∨ (v = z ∧ w = i) → False := fun z hz => by
          have hzu : z = u := by
            rcases hz with ⟨rfl, rfl⟩ | ⟨rfl, rfl⟩
            · exact h4 w w1 vw
            · exact h4 v v1 (hs _ _ vw)
          refine hdis b hb hba ?_
          rw [e1, e]
          unfold same
          dsimp only
          omega
        exact ⟨v, w, e, rem_true.2 ⟨v1, fun q => hno w (.inl ⟨q, rfl⟩)⟩, rem_true.2 ⟨w1, fun q => hno v (.inr ⟨rfl, q⟩)⟩, vw⟩
      · obtain ⟨v1, v2⟩ := rem_true.1 hv
        obtain ⟨w1, w2⟩ := rem_true.1 hw
        have go : ∀ q : Int × Int, q ∈ l → q.1 ≠ (i : Int) → q.2 ≠ (i : Int) → q ∈ l.eraseIdx a := fun q hq n1 n2 => by
          obtain ⟨b, hb, rfl⟩ := List.getElem_of_mem hq
          refine List.mem_eraseIdx_iff_getElem.2 ⟨b, hb, fun e => ?_, rfl⟩
          subst e
          rw [e1] at n1 n2
          dsimp only at n1 n2
          omega
        rcases hL.has v w v1 w1 hvw with hm | hm
        · exact .inl (go _ hm (by dsimp only; omega) (by dsimp only; omega))
        · exact .inr (go _ hm (by dsimp only; omega) (by dsimp only; omega))
    have huk := hR u h2
    obtain ⟨l', hl'⟩ := pr_L1 hk hs hne ps (rem R i) R' (l.eraseIdx a) (out ++ [(u : Int)]) g h5 c4 (fun v hv => hR v (rem_of hv)) hf hL' (by rw [List.length_eraseIdx]; split <;> omega) (by simp; omega) (by omega)
    refine ⟨l', ?_⟩
    rw [R3_Prufer_L1_s, w64 (by omega) (by omega), if_pos (by omega), show R3_Prufer_L2 300 l 300 (k : Int) (-1) 0 = _ from r1, Option.bind_some]
    dsimp only
    rw [ix_nat ha, Option.bind_some, Option.bind_some, e1]
    dsimp only
    have ev : wrap64 (wrap64 ((x1 : Int) + (y1 : Int)) - (i : Int)) = (u : Int) := by
      have := hR x1 xR; have := hR y1 yR
      rw [w64 (x := (x1 : Int) + (y1 : Int)) (by omega) (by omega), w64 (by omega) (by omega)]; omega
    rw [ev]
    unfold app
    rw [if_pos (by omega), Option.bind_some, R1_But_ev (by omega) (by omega), Option.bind_some, hl']
    simp
theorem prufer3_ev {k : Nat} {l : List (Int × Int)} (G : Good k l) {ps : List (Nat × Nat)} {R' : Nat → Bool} (h2 : ps.length + 2 = k) (h3 : Pl0 (adB k l) ps (all k) R') (h4 : Cd ps (all k)) (h5 : ∀ v, R' v = true → dg (adB k l) R' v = 1) : R3_Prufer 300 (k : Int) l = some (ps.map (fun p => (p.2 : Int))) := by
  have hk := G.le; have hlen := G.len
  have hL : Li (adB k l) (all k) l := ⟨fun p hp => by
      have hin := G.inl p hp
      refine ⟨p.1.toNat, p.2.toNat, ?_, decide_eq_true (by omega), decide_eq_true (by omega), adB_iff.2 ((ad_iff G.inl _ _).2 ⟨p, hp, .inl ⟨by omega, by omega⟩⟩)⟩
      obtain ⟨a, b⟩ := p
      dsimp only at hin ⊢
      rw [Int.toNat_of_nonneg hin.1, Int.toNat_of_nonneg hin.2.2.1],
    fun i j _ _ hij => by
      obtain ⟨p, hp, hh⟩ := (ad_iff G.inl i j).1 (adB_iff.1 hij)
      obtain ⟨a, b⟩ := p
      dsimp only at hh
      rcases hh with ⟨rfl, rfl⟩ | ⟨rfl, rfl⟩
      · exact .inl hp
      · exact .inr hp, lines_dis G⟩
  obtain ⟨l', hl'⟩ := pr_L1 hk (fun a b h => (trB G).sym a b h) (adB_ne G) ps (all k) R' l [] 300 h3 h4 (fun v hv => of_decide_eq_true hv) h5 hL (by omega) (by simp; omega) (by omega)
  unfold R3_Prufer
  rw [hl']; rfl
end Go.Proofs.YtpbkepajgdmbpaaDoor
