import Derived.Test.YtfokhmkimckdnaaDoorCm
import Derived.Test.YtfokhmkimckdnaaDoorFwT
import Derived.Test.YtfokhmkimckdnaaDoorF3
/- plain: CommonSays -/
set_option linter.all false
set_option maxRecDepth 100000
namespace Go.Proofs.YtfokhmkimckdnaaDoor
open Go.RowKit Pl
/-- the way's second one, or -1 -/
theorem way_second {k r v : Nat} {l : List (Int × Int)} {G : Good k l} {w : List Int} (h : (tr_of G).Way r v w) : (v = r ∧ w = [(r : Int)]) ∨ ∃ u w', (tr_of G).up r v u ∧ w = (v : Int) :: (u : Int) :: w' := by
  cases h with
  | root => exact .inl ⟨rfl, rfl⟩
  | step hu hw =>
    cases hw with
    | root => exact .inr ⟨_, _, hu, rfl⟩
    | step _ _ => exact .inr ⟨_, _, hu, rfl⟩
theorem says_L1 {k r : Nat} {l : List (Int × Int)} (G : Good k l) (hr : r < k) {up : List Int} (hU : UpL G r up) : ∀ (g j : Nat), k < j + g → j ≤ k → ∃ x, L3_CommonSays_L1 300 (k : Int) l (r : Int) 0 g (up.take j) (j : Int) = some (up, x)
  | 0, j, h, hj => by omega
  | g+1, j, h, hj => by
    have hul := hU.len; have hk8 := G.le
    rw [L3_CommonSays_L1_s]
    by_cases hlt : j < k
    · obtain ⟨w, w1, w2⟩ := way3_ev G hlt hr
      obtain ⟨x, hx⟩ := says_L1 G hr hU g (j+1) (by omega) (by omega)
      have htk : up.take j ++ [up.getD j 0] = up.take (j+1) := by
        rw [List.take_succ_eq_append_getElem (by omega)]
        congr 2
        simp [List.getD_eq_getElem?_getD, hul, hlt]
      rw [if_pos (by omega)]
      simp only [show (((0 : Int) == 0) = true) from rfl, if_true, Option.bind_some, w1, w64n (show j < 9223372036854775807 by omega)]
      unfold app
      rcases way_second (G := G) w2 with ⟨e1, e2⟩ | ⟨u, w', e1, e2⟩
      · rw [e2, if_neg (by simp), if_pos (by rw [List.length_take]; omega), Option.bind_some]
        have : up.getD j 0 = -1 := by rw [e1]; exact hU.root
        rw [← this, htk]; exact ⟨x, hx⟩
      · rw [e2, if_pos (by simp; omega)]
        have e3 : ix ((j : Int) :: (u : Int) :: w') 1 = some (u : Int) := rfl
        rw [e3, Option.bind_some, if_pos (by rw [List.length_take]; omega), Option.bind_some, ← hU.at_ j u hlt e1, htk]
        exact ⟨x, hx⟩
    · rw [if_neg (by omega)]
      simp only [Option.bind_some, Bool.false_eq_true, if_false]
      rw [List.take_of_length_le (by omega)]
      exact ⟨_, rfl⟩
theorem says_L1n {n : Int} {l : List (Int × Int)} {root e : Int} (he : e ≠ 0) : ∃ x, L3_CommonSays_L1 300 n l root e 300 [] 0 = some ([], x) := by
  rw [L3_CommonSays_L1_s]
  by_cases h : 0 < n
  · rw [if_pos h, if_neg (by simpa using he)]
    simp only [Option.bind_some, Bool.false_eq_true, if_false]
    exact ⟨_, rfl⟩
  · rw [if_neg h]
    simp only [Option.bind_some, Bool.false_eq_true, if_false]
    exact ⟨_, rfl⟩
/-- the first one of a's way that is on b's way -/
theorem says_L2 {k r a b : Nat} {l : List (Int × Int)} (G : Good k l) (hr : r < k) (ha : a < k) (hb : b < k) {x y : List Int} (hx : (tr_of G).Way r a x) (hy : (tr_of G).Way r b y) {m : Nat} (hm : (tr_of G).meet r a b m) : ∀ (g j : Nat), x.length < j + g → (∀ i, i < j → ∀ v, x[i]? = some v → v ∉ y) → j < x.length →
    ∃ q, L3_CommonSays_L2 300 x y g (j : Int) = some q ∧ ix x q = some (m : Int)
  | 0, j, h, _, hj => by omega
  | g+1, j, h, hI, hj => by
    have T := tr_of G
    have hk8 := G.le
    have ly := T.way_len hr hy; have d8 := dst_lt8 G hr hb
    have lx := T.way_len hr hx; have d8' := dst_lt8 G hr ha
    obtain ⟨v, v1, v2, v3⟩ := T.way_at hr ha hx j hj
    have hv : x[j] = (v : Int) := by rw [List.getElem?_eq_getElem hj] at v1; injection v1
    rw [L3_CommonSays_L2_s, ix_nat hj, Option.bind_some, hv, R1_Has_ev _ (by omega) (by omega), Option.bind_some]
    -- where m stands
    obtain ⟨p, hp, hpm⟩ := List.getElem_of_mem ((T.way_mem hr ha hx _).2 ⟨m, rfl, hm.2.1⟩)
    have hmy : (m : Int) ∈ y := (T.way_mem hr hb hy _).2 ⟨m, rfl, hm.2.2⟩
    have hpj : j ≤ p := by
      rcases Nat.lt_or_ge p j with c | c
      · exact absurd hmy (hI p c _ (by rw [List.getElem?_eq_getElem hp, hpm]))
      · exact c
    by_cases c : (v : Int) ∈ y
    · rw [decide_eq_true c, if_pos rfl]
      refine ⟨_, rfl, ?_⟩
      rw [ix_nat hj, hv]
      -- v is on all three ways: it is m, as it is no farther from a than m
      have hvb : T.btw b r v := by
        obtain ⟨i, e, hi⟩ := (T.way_mem hr hb hy _).1 c
        have : v = i := by omega
        subst this; exact hi
      have hmv : v = m := by
        obtain ⟨q, q1, q2, q3⟩ := T.way_at hr ha hx p hp
        have : q = m := by rw [List.getElem?_eq_getElem hp, hpm] at q1; injection q1 with q1; omega
        subst this
        -- d r v ≥ d r m ; m is the one of v's that is farthest from r
        have t1 := T.tri (a := a) (b := v) ha v2.1 hb
        have a1 := v2.2; have a2 := hvb.2; have a3 := hm.1.2; have a4 := hm.2.1.2; have a5 := hm.2.2.2
        have s1 := T.symd v2.1 hb; have s2 := T.symd v2.1 hr; have s3 := T.symd hm.1.1 hr; have s4 := T.symd hm.1.1 hb
        exact T.on_uniq ha hr _ v q rfl (by omega) v2 hm.2.1
      rw [hmv]
    · rw [decide_eq_false c]
      simp only [Bool.false_eq_true, if_false]
      rw [w64n (by omega)]
      have hpne : p ≠ j := fun e => by
        subst e
        rw [hpm] at hv
        exact c (by rw [← hv]; exact hmy)
      exact says_L2 G hr ha hb hx hy hm g (j+1) (by omega) (fun i hi v' hv' => by
        by_cases q : i = j
        · subst q
          rw [v1] at hv'; injection hv' with hv'; subst hv'; exact c
        · exact hI i (by omega) v' hv') (by omega)
theorem mErr_same' (c : Int) : mErr c c = some true := by unfold mErr; rw [decide_eq_true rfl]
theorem errU_T {n : Int} {l : List (Int × Int)} {root : Int} (h : errU n l root = 0) : errT n l = 0 := by
  unfold errU at h
  by_cases he : errT n l = 0
  · exact he
  · rw [if_pos he] at h; exact h
theorem in_ev (n a : Int) : L3_in 300 a 0 (n - 1) = some (decide (0 ≤ a ∧ a ≤ n - 1)) := L3_in_ev ..
theorem says_law {n : Int} {l : List (Int × Int)} {root a b : Int} (hg : good n l) : L3_CommonSays 300 n l root a b = some true := by
  unfold L3_CommonSays
  rw [tree3_ev hg, Option.bind_some]
  -- the root
  have h2 : (((if (errT n l == 0) = true then (L3_in 300 root 0 (wrap64 (n - 1))).bind fun y4 => if y4 = true then some false else some true else some false).bind fun b3 => if b3 = true then some 1 else some (errT n l)) : Option Int) = some (errU n l root) := by
    unfold errU
    by_cases he : errT n l = 0
    · rw [if_pos (by simpa using he), good_w hg he, in_ev, if_neg (by simpa using he)]
      simp only [Option.bind_some]
      by_cases c : 0 ≤ root ∧ root ≤ n - 1
      · rw [decide_eq_true c, if_pos c]; simp [he]
      · rw [decide_eq_false c, if_neg c]; rfl
    · rw [if_neg (by simpa using he), if_pos he]; rfl
  rw [h2, Option.bind_some]
  obtain ⟨up, u1, u2, u3⟩ := ups_ev (root := root) hg
  have hups : ∃ x, L3_CommonSays_L1 300 n l root (errU n l root) 300 [] 0 = some (up, x) := by
    by_cases he : errU n l root = 0
    · obtain ⟨k, r, G, rfl, rfl, hr, hU⟩ := u3 he
      rw [he]
      have := says_L1 G hr hU 300 0 (by have := G.le; omega) (by omega)
      rwa [List.take_zero] at this
    · rw [u2 he]; exact says_L1n he
  obtain ⟨x1, hx1⟩ := hups
  have hupl : up.length < 300 := by
    by_cases he : errU n l root = 0
    · obtain ⟨k, r, G, rfl, rfl, hr, hU⟩ := u3 he
      have := hU.len; have := G.le; omega
    · rw [u2 he]; simp
  rw [hx1, Option.bind_some, u1, Option.bind_some]
  simp only [mErr_same', Option.bind_some, if_true]
  rw [SE_Ints_ev hupl (by omega)]
  simp only [decide_true, if_true, Option.bind_some]
  -- two points
  have h3 : (((if (errU n l root == 0) = true then (L3_in 300 a 0 (wrap64 (n - 1))).bind fun y17 => if y17 = true then (L3_in 300 b 0 (wrap64 (n - 1))).bind fun y18 => if y18 = true then some false else some true else some true else some false).bind fun b16 => if b16 = true then some 1 else some (errU n l root)) : Option Int) = some (errO n l root a b) := by
    unfold errO
    by_cases he : errU n l root = 0
    · rw [if_pos (by simpa using he), good_w hg (errU_T he), in_ev, in_ev, if_neg (by simpa using he)]
      simp only [Option.bind_some]
      by_cases c1 : 0 ≤ a ∧ a ≤ n - 1
      · by_cases c2 : 0 ≤ b ∧ b ≤ n - 1
        · rw [decide_eq_true c1, decide_eq_true c2, if_pos (show (0 ≤ a ∧ a ≤ n - 1) ∧ (0 ≤ b ∧ b ≤ n - 1) from ⟨c1, c2⟩)]; simp [he]
        · rw [decide_eq_true c1, decide_eq_false c2, if_neg (show ¬ ((0 ≤ a ∧ a ≤ n - 1) ∧ (0 ≤ b ∧ b ≤ n - 1)) from fun c => c2 c.2)]; rfl
      · rw [decide_eq_false c1, if_neg (show ¬ ((0 ≤ a ∧ a ≤ n - 1) ∧ (0 ≤ b ∧ b ≤ n - 1)) from fun c => c1 c.1)]; rfl
    · rw [if_neg (by simpa using he), if_pos he]; rfl
  rw [h3, Option.bind_some]
  obtain ⟨m, m1, m2, m3⟩ := of_ev (root := root) (a := a) (b := b) hg
  have h4 : (((if (errO n l root a b == 0) = true then some true else some false).bind fun b20 => if b20 = true then (R3_Way 300 n l a root).bind fun y21 => (R3_Way 300 n l b root).bind fun y22 => (L3_CommonSays_L2 300 y21 y22 300 0).bind fun o25 => (ix y21 o25).bind fun y26 => some y26 else some 0) : Option Int) = some m := by
    by_cases he : errO n l root a b = 0
    · obtain ⟨k, r, x, y, G, q, rfl, rfl, rfl, rfl, rfl, hr, hx, hy, hm⟩ := m3 he
      obtain ⟨wx, a1, a2⟩ := way3_ev G hx hr
      obtain ⟨wy, b1, b2⟩ := way3_ev G hy hr
      have T := tr_of G
      have lx := T.way_len hr a2; have d8 := dst_lt8 G hr hx
      obtain ⟨z, z1, z2⟩ := says_L2 G hr hx hy a2 b2 hm 300 0 (by omega) (fun i hi => by omega) (by omega)
      rw [if_pos (by simpa using he)]
      simp only [Option.bind_some, if_true, a1, b1]
      rw [show L3_CommonSays_L2 300 wx wy 300 0 = some z from z1]
      simp only [Option.bind_some, z2]
    · rw [if_neg (by simpa using he), m2 he]; rfl
  rw [h4, Option.bind_some, m1, Option.bind_some]
  simp only [mErr_same', Option.bind_some, if_true, beq_self_eq_true]
  -- the way
  have h5 : (((if (errT n l == 0) = true then (L3_in 300 a 0 (wrap64 (n - 1))).bind fun y17 => if y17 = true then (L3_in 300 b 0 (wrap64 (n - 1))).bind fun y18 => if y18 = true then some false else some true else some true else some false).bind fun b16 => if b16 = true then some 1 else some (errT n l)) : Option Int) = some (errW n l a b) := by
    unfold errW
    by_cases he : errT n l = 0
    · rw [if_pos (by simpa using he), good_w hg he, in_ev, in_ev, if_neg (by simpa using he)]
      simp only [Option.bind_some]
      by_cases c1 : 0 ≤ a ∧ a ≤ n - 1
      · by_cases c2 : 0 ≤ b ∧ b ≤ n - 1
        · rw [decide_eq_true c1, decide_eq_true c2, if_pos (show (0 ≤ a ∧ a ≤ n - 1) ∧ (0 ≤ b ∧ b ≤ n - 1) from ⟨c1, c2⟩)]; simp [he]
        · rw [decide_eq_true c1, decide_eq_false c2, if_neg (show ¬ ((0 ≤ a ∧ a ≤ n - 1) ∧ (0 ≤ b ∧ b ≤ n - 1)) from fun c => c2 c.2)]; rfl
      · rw [decide_eq_false c1, if_neg (show ¬ ((0 ≤ a ∧ a ≤ n - 1) ∧ (0 ≤ b ∧ b ≤ n - 1)) from fun c => c1 c.1)]; rfl
    · rw [if_neg (by simpa using he), if_pos he]; rfl
  rw [h5, Option.bind_some]
  obtain ⟨w, w1, w2, w3⟩ := way_ev (a := a) (b := b) hg
  have h6 : (((if (errW n l a b == 0) = true then some true else some false).bind fun b35 => if b35 = true then (R3_Way 300 n l a b).bind fun y36 => some y36 else some []) : Option (List Int)) = some w := by
    by_cases he : errW n l a b = 0
    · obtain ⟨k, x, y, G, rfl, rfl, rfl, hx, hy, hw⟩ := w3 he
      obtain ⟨w', a1, a2⟩ := way3_ev G hx hy
      rw [if_pos (by simpa using he)]
      simp only [Option.bind_some, if_true, a1]
      rw [(tr_of G).way_det hy a2 hw]
    · rw [if_neg (by simpa using he), w2 he]; rfl
  have hwl : w.length < 300 := by
    by_cases he : errW n l a b = 0
    · obtain ⟨k, x, y, G, rfl, rfl, rfl, hx, hy, hw⟩ := w3 he
      have := (tr_of G).way_len hy hw; have := dst_lt8 G hy hx; omega
    · rw [w2 he]; simp
  rw [h6, Option.bind_some, w1, Option.bind_some]
  simp only [mErr_same', Option.bind_some, if_true]
  rw [SE_Ints_ev hwl (by omega)]
  simp
theorem commonSays_any (w : World) (htc : TyCell w) (n : Int) (hn : (Lit.int .i64 n).wf = true) (A : Option Addr) (cap : Nat) (l : List (Int × Int)) (hr : ReadsL w w.heap.size A l) (hl : l.length ≤ maxLen) (root : Int) (_ : (Lit.int .i64 root).wf = true) (a : Int) (_ : (Lit.int .i64 a).wf = true) (b : Int) (_ : (Lit.int .i64 b).wf = true) :
    Calls Tryd.prog 3 #[.int .i64 n, .slice A l.length cap, .int .i64 root, .int .i64 a, .int .i64 b] w fun e w' => e = .returned (.bool true) ∧ Below w.heap.size w w' :=
  L3_CommonSays_ok w htc cap hr (says_law ⟨hn, hl⟩)
end Go.Proofs.YtfokhmkimckdnaaDoor
