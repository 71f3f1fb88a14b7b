import Derived.Test.YtpbkepajgdmbpaaDoorFwT
import Derived.Test.YtpbkepajgdmbpaaDoorPr
/- plain: what prufer.Write computes -/
set_option linter.all false
set_option maxRecDepth 100000
namespace Go.Proofs.YtpbkepajgdmbpaaDoor
open Go.RowKit Pl
/-- whom each one is beside, as a test -/
def adB (k : Nat) (l : List (Int × Int)) (i j : Nat) : Bool := ((besM k l).getD i 0).testBit j
theorem adB_iff {k : Nat} {l : List (Int × Int)} {i j : Nat} : adB k l i j = true ↔ Ad k l i j := Iff.rfl
def card (R : Nat → Bool) : Nat := ((List.range 16).filter R).length
theorem card_rem {R : Nat → Bool} {i : Nat} (hi : R i = true) (h16 : i < 16) : card R = card (rem R i) + 1 := by
  unfold card
  rw [cnt3 R (rem R i) (fun v => v == i) (List.range 16) (by
    intro x _
    by_cases e : x = i
    · subst e; simp [rem, hi]
    · have : (x == i) = false := by simpa using e
      simp [rem, this])]
  rw [once_len i _ List.nodup_range (List.mem_range.2 h16)]
theorem card_pos {R : Nat → Bool} (h : 0 < card R) : ∃ v, v < 16 ∧ R v = true := by
  unfold card at h
  obtain ⟨v, hv⟩ := List.exists_mem_of_length_pos h
  rw [List.mem_filter, List.mem_range] at hv
  exact ⟨v, hv⟩
theorem card_zero {R : Nat → Bool} (h : card R = 0) (v : Nat) (hv : v < 16) : R v = false := by
  unfold card at h
  rw [List.length_eq_zero_iff, List.filter_eq_nil_iff] at h
  simpa using h v (List.mem_range.2 hv)
theorem card_two {R : Nat → Bool} (hl : ∀ v, R v = true → v < 16) (h : 2 ≤ card R) : ∃ a b, a ≠ b ∧ R a = true ∧ R b = true ∧ (card R = 2 → ∀ v, R v = true → v = a ∨ v = b) := by
  obtain ⟨a, a1, a2⟩ := card_pos (show 0 < card R by omega)
  have e1 := card_rem a2 a1
  obtain ⟨b, b1, b2⟩ := card_pos (show 0 < card (rem R a) by omega)
  have e2 := card_rem b2 b1
  obtain ⟨b3, b4⟩ := rem_true.1 b2
  refine ⟨a, b, Ne.symm b4, a2, b3, fun h2 v hv => ?_⟩
  by_cases q1 : v = a
  · exact .inl q1
  · by_cases q2 : v = b
    · exact .inr q2
    · have := card_zero (show card (rem (rem R a) b) = 0 by omega) v (hl v hv)
      rw [rem_true.2 ⟨rem_true.2 ⟨hv, q1⟩, q2⟩] at this
      cases this
/-- the sets of those that are left -/
structure St (k : Nat) (adj : Nat → Nat → Bool) (R : Nat → Bool) (b : List Nat) : Prop where
  len : b.length = k
  bit : ∀ v j, (b.getD v 0).testBit j = (R v && R j && adj v j)
  lt : ∀ v, R v = true → v < k
theorem St.row {k : Nat} {adj : Nat → Nat → Bool} {R : Nat → Bool} {b : List Nat} (h : St k adj R b) (hk : k ≤ 8) (v : Nat) : b.getD v 0 < 65536 := by
  have h1 : b.getD v 0 < 2 ^ k := lt_of_bits fun j hj => by
    rw [h.bit] at hj
    simp only [Bool.and_eq_true] at hj
    exact h.lt j hj.1.2
  have : (2 : Nat) ^ k ≤ 2 ^ 8 := Nat.pow_le_pow_right (by omega) hk
  omega
theorem St.cnt {k : Nat} {adj : Nat → Nat → Bool} {R : Nat → Bool} {b : List Nat} (h : St k adj R b) (v : Nat) : (memb (b.getD v 0)).length = if R v = true then dg adj R v else 0 := by
  unfold memb dg
  by_cases hv : R v = true
  · rw [if_pos hv]
    congr 1
    apply List.filter_congr
    intro x _
    rw [h.bit, hv]; rfl
  · rw [if_neg hv, List.length_eq_zero_iff, List.filter_eq_nil_iff]
    intro x _
    rw [h.bit]
    simp [hv]
theorem dg_one {adj : Nat → Nat → Bool} {R : Nat → Bool} {v : Nat} (hl : ∀ v, R v = true → v < 16) (h : dg adj R v = 1) : ∃ u, R u = true ∧ adj v u = true ∧ (∀ j, R j = true → adj v j = true → j = u) ∧ (List.range 16).filter (fun j => R j && adj v j) = [u] := by
  unfold dg at h
  obtain ⟨u, hu⟩ := List.length_eq_one_iff.1 h
  have hm : ∀ x, x ∈ (List.range 16).filter (fun j => R j && adj v j) ↔ x = u := fun x => by rw [hu, List.mem_singleton]
  have h1 := (hm u).2 rfl
  rw [List.mem_filter, Bool.and_eq_true] at h1
  exact ⟨u, h1.2.1, h1.2.2, fun j q1 q2 => (hm j).1 (by rw [List.mem_filter, List.mem_range, Bool.and_eq_true]; exact ⟨hl j q1, q1, q2⟩), hu⟩
theorem ix_D {l : List Nat} {i : Nat} (h : i < l.length) : ix l (i : Int) = some (l.getD i 0) := by
  rw [ix_nat h, List.getD_eq_getElem?_getD, List.getElem?_eq_getElem h]; rfl
theorem w_L2 {k : Nat} {adj : Nat → Nat → Bool} {R : Nat → Bool} {b : List Nat} {out : List Int} (hS : St k adj R b) (hk : k ≤ 8) (hs : ∀ a b, adj a b = true → adj b a = true) (hne : ∀ a, adj a a = false) (ho : out.length < 1000) :
    ∀ (g j : Nat), k < j + g → j ≤ k → (∀ v, v < j → R v = true → dg adj R v ≠ 1) → (∃ v, R v = true ∧ dg adj R v = 1) →
    ∃ i u b', R i = true ∧ R u = true ∧ adj i u = true ∧ (∀ j, R j = true → adj i j = true → j = u) ∧ (∀ v, v < i → R v = true → dg adj R v ≠ 1) ∧
      prufer_Write_L2 300 (k : Int) g (j : Int) b out = some (b', out ++ [(u : Int)]) ∧ St k adj (rem R i) b'
  | 0, j, h, hj, _, _ => by omega
  | g+1, j, h, hj, hI, hx => by
    rw [prufer_Write_L2_s]
    have h16 : ∀ v, R v = true → v < 16 := fun v hv => by have := hS.lt v hv; omega
    by_cases hlt : j < k
    · have hjl : j < b.length := by rw [hS.len]; exact hlt
      rw [if_pos (by omega), ix_D hjl, Option.bind_some]
      unfold sLen
      rw [if_pos (hS.row hk j), Option.bind_some, hS.cnt]
      by_cases c : R j = true ∧ dg adj R j = 1
      · obtain ⟨u, u1, u2, u3, u4⟩ := dg_one h16 c.2
        have huk := hS.lt u u1
        have huj : u ≠ j := fun e => by subst e; rw [hne] at u2; cases u2
        have hml : membI (b.getD j 0) = [(u : Int)] := by
          have : memb (b.getD j 0) = [u] := by
            rw [← u4]; unfold memb
            apply List.filter_congr
            intro x _
            rw [hS.bit, c.1]; rfl
          unfold membI
          rw [this]; rfl
        have hj1 : (((if R j = true then dg adj R j else 0 : Nat) : Int) == 1) = true := by rw [if_pos c.1, c.2]; rfl
        rw [if_pos hj1]
        simp only [Option.bind_some]
        unfold sList
        rw [if_pos (hS.row hk j), Option.bind_some, hml, show ix [(u : Int)] 0 = some (u : Int) from rfl, Option.bind_some, ix_D (by rw [hS.len]; exact huk), Option.bind_some]
        unfold sWithout
        rw [if_pos ⟨hS.row hk u, by omega, by omega⟩, Option.bind_some, st_nat hjl, Option.bind_some, st_nat (by rw [List.length_set, hS.len]; exact huk), Option.bind_some]
        unfold app
        rw [if_pos (by omega), Option.bind_some, Int.toNat_natCast]
        refine ⟨j, u, _, c.1, u1, u2, u3, hI, rfl, ⟨by simp [hS.len], fun v x => ?_, fun v hv => hS.lt v (rem_of hv)⟩⟩
        rw [getD_set _ _ _ _ _ (by rw [List.length_set, hS.len]; exact huk), getD_set _ _ _ _ _ hjl]
        by_cases e : v = u
        · rw [if_pos e, e, ndiff_testBit, Nat.testBit_two_pow, hS.bit]
          unfold rem
          by_cases ex : x = j
          · subst ex; simp
          · have : (x == j) = false := by simpa using ex
            have h2 : ¬ j = x := fun q => ex q.symm
            have h3 : (u == j) = false := by simpa using huj
            simp [this, h2, h3]
        · rw [if_neg e]
          by_cases ej : v = j
          · rw [if_pos ej, ej]; simp [rem]
          · rw [if_neg ej, hS.bit]
            unfold rem
            have h1 : (v == j) = false := by simpa using ej
            by_cases ex : x = j
            · subst ex
              by_cases hv : R v = true
              · by_cases ha : adj v x = true
                · exact absurd (u3 v hv (hs _ _ ha)) e
                · have : adj v x = false := by simpa using ha
                  simp [this]
              · have : R v = false := by simpa using hv
                simp [this]
            · have : (x == j) = false := by simpa using ex
              simp [h1, this]
      · have hj1 : ¬ ((((if R j = true then dg adj R j else 0 : Nat) : Int) == 1) = true) := by
          rw [beq_iff_eq]
          by_cases q : R j = true
          · rw [if_pos q]; intro e; exact c ⟨q, by omega⟩
          · rw [if_neg q]; decide
        rw [if_neg hj1, w64n (by omega)]
        exact w_L2 hS hk hs hne ho g (j+1) (by omega) (by omega) (fun v hv hr => by
          by_cases e : v = j
          · subst e; exact fun q => c ⟨hr, q⟩
          · exact hI v (by omega) hr) hx
    · obtain ⟨v, v1, v2⟩ := hx
      exact absurd v2 (hI v (by have := hS.lt v v1; omega) v1)
/-- the least of those with one line each time -/
def Lst (adj : Nat → Nat → Bool) : List (Nat × Nat) → (Nat → Bool) → Prop
  | [], _ => True
  | (i, _) :: ps, R => (∀ v, v < i → R v = true → dg adj R v ≠ 1) ∧ Lst adj ps (rem R i)
section
variable {k : Nat} {d : Nat → Nat → Nat} {adj : Nat → Nat → Bool}
theorem leaf_dg (T : Tr k (fun i j => adj i j = true) d) (hk : k ≤ 8) {R : Nat → Bool} (hR : ∀ v, R v = true → v < k) (hc : Cvx T R) {a b : Nat} (ha : R a = true) (hb : R b = true) (hab : b ≠ a) :
    ∃ v, R v = true ∧ v ≠ a ∧ dg adj R v = 1 ∧ ∃ u, R u = true ∧ adj v u = true := by
  obtain ⟨v, u, h1, h2, h3, h4, h5⟩ := leaf_ex T hR hc ha hb hab
  refine ⟨v, h1, h2, ?_, u, h3, h4⟩
  unfold dg
  refine one_of (u := u) (by have := hR u h3; omega) fun j _ => ?_
  rw [Bool.and_eq_true]
  exact ⟨fun h => h5 j h.1 h.2, fun e => by subst e; exact ⟨h3, h4⟩⟩
theorem w_L1 (T : Tr k (fun i j => adj i j = true) d) (hk : k ≤ 8) (hne : ∀ a, adj a a = false) : ∀ (m g j : Nat) (R : Nat → Bool) (b : List Nat) (out : List Int), j + m + 2 = k → m < g → out.length + m < 900 → card R = m + 2 → Cvx T R → St k adj R b →
    ∃ ps R' b', prufer_Write_L1 300 (k : Int) g (j : Int) b out = some (b', out ++ ps.map (fun p => (p.2 : Int))) ∧ ps.length = m ∧ Pl0 adj ps R R' ∧ Lst adj ps R ∧ card R' = 2 ∧ Cvx T R' ∧ (∀ v, R' v = true → v < k)
  | 0, g, j, R, b, out, hj, hg, ho, hc, hx, hS => by
    obtain ⟨g, rfl⟩ : ∃ g', g = g' + 1 := ⟨g - 1, by omega⟩
    rw [prufer_Write_L1_s, w64 (by omega) (by omega), if_neg (by omega)]
    exact ⟨[], R, b, by simp, rfl, rfl, trivial, hc, hx, hS.lt⟩
  | m+1, g, j, R, b, out, hj, hg, ho, hc, hx, hS => by
    obtain ⟨g, rfl⟩ : ∃ g', g = g' + 1 := ⟨g - 1, by omega⟩
    have h16 : ∀ v, R v = true → v < 16 := fun v hv => by have := hS.lt v hv; omega
    obtain ⟨a, c, q1, q2, q3, _⟩ := card_two h16 (show 2 ≤ card R by omega)
    obtain ⟨v, v1, v2, v3, _⟩ := leaf_dg T hk hS.lt hx q2 q3 (Ne.symm q1)
    obtain ⟨i, u, b', i1, i2, i3, i4, i5, i6, i7⟩ := w_L2 (out := out) hS hk (fun a b h => T.sym a b h) hne (by omega) 300 0 (by omega) (by omega) (fun v hv => by omega) ⟨v, v1, v3⟩
    have hcr := card_rem i1 (h16 i i1)
    obtain ⟨ps, R', b'', p1, p2, p3, p4, p5, p6, p7⟩ := w_L1 T hk hne m g (j+1) (rem R i) b' (out ++ [(u : Int)]) (by omega) (by omega) (by simp; omega) (by omega) (cvx_rem T hS.lt hx i1 i4) i7
    refine ⟨(i, u) :: ps, R', b'', ?_, by simp [p2], ⟨i1, i2, i3, i4, p3⟩, ⟨i5, p4⟩, p5, p6, p7⟩
    rw [prufer_Write_L1_s, w64 (by omega) (by omega), if_pos (by omega), hS.len, show prufer_Write_L2 300 (k : Int) 300 0 b out = some (b', out ++ [(u : Int)]) from i6, Option.bind_some, w64n (by omega), p1]
    simp
theorem last_dg (T : Tr k (fun i j => adj i j = true) d) (hk : k ≤ 8) (hne : ∀ a, adj a a = false) {R : Nat → Bool} (hR : ∀ v, R v = true → v < k) (hc : Cvx T R) (h2 : card R = 2) :
    ∃ a b, a ≠ b ∧ R a = true ∧ R b = true ∧ adj a b = true ∧ (∀ v, R v = true → v = a ∨ v = b) ∧ ∀ v, R v = true → dg adj R v = 1 := by
  have h16 : ∀ v, R v = true → v < 16 := fun v hv => by have := hR v hv; omega
  obtain ⟨a, b, q1, q2, q3, q4⟩ := card_two h16 (show 2 ≤ card R by omega)
  have q4 := q4 h2
  obtain ⟨v, v1, v2, v3, u, u1, u2⟩ := leaf_dg T hk hR hc q2 q3 (Ne.symm q1)
  have ev : v = b := (q4 v v1).resolve_left v2
  have eu : u = a := by
    rcases q4 u u1 with e | e
    · exact e
    · rw [e, ev, hne] at u2; cases u2
  subst ev; subst eu
  have hab : adj u v = true := T.sym _ _ u2
  refine ⟨u, v, q1, q2, q3, hab, q4, fun x hx => ?_⟩
  rcases q4 x hx with e | e
  · subst e
    unfold dg
    refine one_of (u := v) (h16 v v1) fun j _ => ?_
    rw [Bool.and_eq_true]
    exact ⟨fun h => (q4 j h.1).resolve_left fun e => (by subst e; have := h.2; rw [hne] at this; cases this), fun e => by subst e; exact ⟨v1, hab⟩⟩
  · subst e; exact v3
end
theorem cd_of {adj : Nat → Nat → Bool} (hs : ∀ a b, adj a b = true → adj b a = true) (hne : ∀ a, adj a a = false) : ∀ {ps : List (Nat × Nat)} {R R' : Nat → Bool}, Pl0 adj ps R R' → Lst adj ps R → (∀ v, R v = true → v < 16) → (∀ v, R' v = true → dg adj R' v = 1) → Cd ps R
  | [], R, R', _, _, _, _ => trivial
  | (i, u) :: ps, R, R', h, hl, h16, hf => by
    have hc := pl_cnt hs hne h h16 hf
    obtain ⟨h1, h2, h3, h4, h5⟩ := h
    refine ⟨h1, ?_, fun v hv hr e => hl.1 v hv hr (by rw [hc v hr, e]), cd_of hs hne h5 hl.2 (fun v hv => h16 v (rem_of hv)) hf⟩
    have : dg adj R i = 1 := by
      unfold dg
      refine one_of (u := u) (h16 u h2) fun j _ => ?_
      rw [Bool.and_eq_true]
      exact ⟨fun h => h4 j h.1 h.2, fun e => by subst e; exact ⟨h2, h3⟩⟩
    have := hc i h1
    omega
def all (k : Nat) : Nat → Bool := fun v => decide (v < k)
theorem all_card {k : Nat} (hk : k ≤ 16) : card (all k) = k := by
  unfold card all
  have e : List.range 16 = List.range k ++ (List.range (16 - k)).map (k + ·) := by
    rw [← List.range_add]; congr 1; omega
  rw [e, List.filter_append, List.filter_eq_self.2 (fun x hx => by have := List.mem_range.1 hx; simpa using this), List.filter_eq_nil_iff.2 (fun x hx => by
    obtain ⟨y, _, rfl⟩ := List.mem_map.1 hx
    simp)]
  simp
theorem trB {k : Nat} {l : List (Int × Int)} (G : Good k l) : Tr k (fun i j => adB k l i j = true) (dst k l) := tr_of G
theorem adB_ne {k : Nat} {l : List (Int × Int)} (G : Good k l) (a : Nat) : adB k l a a = false := besM_ne G.inl G.ne a
theorem cvx_all {k : Nat} {l : List (Int × Int)} (G : Good k l) : Cvx (trB G) (all k) := fun a b v _ _ hv => decide_eq_true hv.1
/-- what Write says of a tree of two points or more -/
theorem write_good {k : Nat} {l : List (Int × Int)} (G : Good k l) (h2 : 2 ≤ k) : ∃ ps R', prufer_Write 300 (k : Int) l = some (ps.map (fun p => (p.2 : Int)), 0) ∧ ps.length + 2 = k ∧ Pl0 (adB k l) ps (all k) R' ∧ Cd ps (all k) ∧ card R' = 2 ∧
      (∀ v, R' v = true → v < k) ∧ (∀ v, R' v = true → dg (adB k l) R' v = 1) ∧ (∃ a b, a ≠ b ∧ R' a = true ∧ R' b = true ∧ adB k l a b = true ∧ ∀ v, R' v = true → v = a ∨ v = b) := by
  have hk := G.le
  have hS : St k (adB k l) (all k) (besM k l) := ⟨(besM_row G.inl).1, fun v j => by
    by_cases q : Ad k l v j
    · obtain ⟨q1, q2⟩ := ad_lt G.inl q
      rw [show ((besM k l).getD v 0).testBit j = true from q, show adB k l v j = true from q, show all k v = true from decide_eq_true q1, show all k j = true from decide_eq_true q2]; rfl
    · have h1 : adB k l v j = false := by rw [← Bool.not_eq_true]; exact q
      rw [h1, Bool.and_false]; exact h1, fun v hv => of_decide_eq_true hv⟩
  obtain ⟨ps, R', b', p1, p2, p3, p4, p5, p6, p7⟩ := w_L1 (trB G) hk (adB_ne G) (k - 2) 300 0 (all k) (besM k l) [] (by omega) (by omega) (by simp; omega) (by rw [all_card (by omega)]; omega) (cvx_all G) hS
  obtain ⟨a, b, q1, q2, q3, q4, q5, q6⟩ := last_dg (trB G) hk (adB_ne G) p7 p6 p5
  refine ⟨ps, R', ?_, by omega, p3, cd_of (fun a b h => (trB G).sym a b h) (adB_ne G) p3 p4 (fun v hv => by have : v < k := of_decide_eq_true hv; omega) q6, p5, p7, q6, a, b, q1, q2, q3, q4, q5⟩
  unfold prufer_Write
  have he : errT (k : Int) l = 0 := by
    unfold errT
    rw [if_neg (by rw [G.err]; simp), Int.toNat_natCast, if_pos ⟨G.len, G.conn⟩]
  rw [tree_ev G.good, Option.bind_some, he, if_neg (by decide), if_neg (by omega)]
  unfold mBeside
  rw [if_pos ⟨G.good, G.err⟩, Option.bind_some, Int.toNat_natCast, show prufer_Write_L1 300 (k : Int) 300 0 (besM k l) [] = some (b', [] ++ ps.map (fun p => (p.2 : Int))) from p1]
  rfl
/-- what Write says otherwise -/
theorem write_bad {n : Int} {l : List (Int × Int)} (hg : good n l) (h : errT n l ≠ 0) : prufer_Write 300 n l = some ([], errT n l) := by
  unfold prufer_Write
  rw [tree_ev hg, Option.bind_some, if_pos (by simpa using h)]
theorem write_one {k : Nat} {l : List (Int × Int)} (G : Good k l) (h2 : k < 2) : prufer_Write 300 (k : Int) l = some ([], 5) := by
  have he : errT (k : Int) l = 0 := by
    unfold errT
    rw [if_neg (by rw [G.err]; simp), Int.toNat_natCast, if_pos ⟨G.len, G.conn⟩]
  unfold prufer_Write
  rw [tree_ev G.good, Option.bind_some, he, if_neg (by decide), if_pos (by omega)]
theorem near_dg {k i : Nat} {l : List (Int × Int)} (hk : k ≤ 16) (hin : InL k l) : (membTo ((besM k l).getD i 0) k).length = dg (adB k l) (all k) i := by
  have h1 := besM_lt hin i
  have h2 : (2 : Nat) ^ k ≤ 2 ^ 16 := Nat.pow_le_pow_right (by omega) hk
  rw [membTo_full (by omega) (Nat.div_eq_of_lt h1) hk]
  unfold memb dg
  congr 1
  apply List.filter_congr
  intro x _
  show adB k l i x = (all k x && adB k l i x)
  by_cases q : adB k l i x = true
  · rw [q, show all k x = true from decide_eq_true (ad_lt hin q).2]; rfl
  · have : adB k l i x = false := by simpa using q
    rw [this, Bool.and_false]
end Go.Proofs.YtpbkepajgdmbpaaDoor
