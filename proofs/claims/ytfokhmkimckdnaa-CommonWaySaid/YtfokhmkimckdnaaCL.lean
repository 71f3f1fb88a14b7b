import Derived.Test.YtfokhmkimckdnaaCm
import Derived.Test.YtfokhmkimckdnaaF2
/- plain: CommonUps, CommonThree -/
set_option linter.all false
set_option maxRecDepth 100000
namespace Go.Proofs.Ytfokhmkimckdnaa
open Go.RowKit Pl
theorem cfact_ev : L3_commonFact 300 = some true := by decide +kernel
theorem ups_L {k r : Nat} {l : List (Int × Int)} {G : Good k l} {up o : List Int} (hr : r < k) (hU : UpL G r up) (ho : o.length = k) (hd : ∀ j, j < k → o.getD j 0 = (dst k l r j : Int)) : ∀ (g j : Nat), k < j + g → j ≤ k →
    ∃ x, L3_CommonUps_L1 300 (k : Int) l (r : Int) up o g (j : Int) = some (.inl x)
  | 0, j, h, hj => by omega
  | g+1, j, h, hj => by
    have T := tr_of G
    have hul := hU.len; have hk8 := G.le; have hk1 := G.pos
    rw [L3_CommonUps_L1_s]
    by_cases hlt : j < k
    · rw [if_pos (by omega), ix_at 0 (by omega), w64 (x := (k : Int) - 1) (by omega) (by omega), w64n (by omega)]
      obtain ⟨x, hx⟩ := ups_L hr hU ho hd g (j+1) (by omega) (by omega)
      by_cases e : j = r
      · subst e
        have e1 : ((up.getD j 0) == (-1 : Int)) = true := by rw [hU.root]; rfl
        have e2 : (((j : Int) == (j : Int))) = true := by simp
        have e3 : ¬ ((((j : Int) != (j : Int))) = true) := by simp
        simp only [Option.bind_some, e1, e2, if_true]
        rw [if_neg (by decide), if_neg (by simp), Option.bind_some, if_neg (by decide)]
        exact ⟨x, hx⟩
      · obtain ⟨u, hu⟩ := T.up_ex hr hlt e
        have huk := T.up_lt hu
        have e0 := hU.at_ j u hlt hu
        have e1 : ¬ (((u : Int) == (-1 : Int)) = true) := fun h => by have := eq_of_beq h; omega
        have e2 : ¬ (((j : Int) == (r : Int)) = true) := by simp; omega
        have e3 : ((j : Int) != (r : Int)) = true := by simp; omega
        have e4 : besL l (j : Int) (u : Int) = true := by
          obtain ⟨p, hp, hh⟩ := (ad_iff G.inl u j).1 hu.1
          unfold besL goes
          rw [Bool.or_eq_true, List.any_eq_true, List.any_eq_true]
          rcases hh with hh | hh
          · exact .inr ⟨p, hp, by simp; omega⟩
          · exact .inl ⟨p, hp, by simp; omega⟩
        have hl24 : l.length < 300 := by have := G.len; omega
        simp only [Option.bind_some, e0]
        rw [if_neg e1, Option.bind_some, if_neg e2, Option.bind_some, if_neg (by decide), if_pos e3, L3_in_ev, decide_eq_true (show 0 ≤ (u : Int) ∧ (u : Int) ≤ (k : Int) - 1 by omega)]
        simp only [Option.bind_some, if_true]
        rw [R1_Beside_ev _ _ hl24 (by omega), e4, ix_at 0 (by omega), ix_at 0 (by omega), hd u huk, hd j hlt]
        simp only [Option.bind_some, if_true]
        have e5 : ¬ (((dst k l r u : Int) != wrap64 ((dst k l r j : Int) - 1)) = true) := by
          have := hu.2
          have hb : dst k l r j < 100000 := by
            have h1 := hd j hlt
            obtain ⟨w, w1, w2⟩ := T.way_ex hr _ j rfl hlt
            obtain ⟨o', f1, f2⟩ := from_ev G.good G.err hr
            exact dst_lt G hr hlt
          rw [w64 (by omega) (by omega)]; simp; omega
        simp only [Bool.false_eq_true, if_false, Option.bind_some]
        rw [if_neg e5]
        exact ⟨x, hx⟩
    · rw [if_neg (by omega)]
      exact ⟨_, rfl⟩
theorem ups_law {n : Int} {l : List (Int × Int)} {root : Int} (hg : good n l) : L3_CommonUps 300 n l root = some true := by
  unfold L3_CommonUps
  rw [cfact_ev, Option.bind_some, if_pos rfl]
  obtain ⟨up, h1, h2, h3⟩ := ups_ev (root := root) hg
  rw [h1, Option.bind_some]
  by_cases he : errU n l root = 0
  · obtain ⟨k, r, G, rfl, rfl, hr, hU⟩ := h3 he
    obtain ⟨o, o1, o2, o3, o4⟩ := far_all G hr
    have hul := hU.len
    obtain ⟨x, hx⟩ := ups_L hr hU o2 o3 300 0 (by have := G.le; omega) (by omega)
    rw [he, if_neg (show ¬ (((0 : Int) != 0) = true) by decide), o1, Option.bind_some, if_neg (show ¬ (((0 : Int) != 0) = true) by decide), if_neg (by simp; omega)]
    simp only [Option.bind_some, Bool.false_eq_true, if_false]
    rw [if_neg (by simp; omega)]
    simp only [Option.bind_some, Bool.false_eq_true, if_false]
    rw [show L3_CommonUps_L1 300 (k : Int) l (r : Int) up o 300 0 = some (.inl x) from hx]
    rfl
  · rw [if_pos (by simpa using he), h2 he]; rfl
/-! ### CommonThree -/
theorem three_L {x y z : List Int} (hx : x.length < 100) (hy : y.length < 100) (hz : z.length < 100) : ∀ (g j : Nat) (out : List Int), x.length < j + g → j ≤ x.length → out.length + x.length < 1000 + j →
    ∃ i, L3_CommonThree_L1 300 x y z g out (j : Int) = some (out ++ (x.drop j).filter (fun v => decide (v ∈ y) && decide (v ∈ z)), i)
  | 0, j, out, h, hj, _ => by omega
  | g+1, j, out, h, hj, ho => by
    rw [L3_CommonThree_L1_s]
    by_cases hlt : j < x.length
    · rw [if_pos (by omega), ix_nat hlt, w64n (by omega)]
      simp only [Option.bind_some]
      rw [R1_Has_ev _ (by omega) (by omega), R1_Has_ev _ (by omega) (by omega), List.drop_eq_getElem_cons hlt, List.filter_cons]
      simp only [Option.bind_some]
      by_cases c1 : x[j] ∈ y
      · by_cases c2 : x[j] ∈ z
        · obtain ⟨i, hi⟩ := three_L hx hy hz g (j+1) (out ++ [x[j]]) (by omega) (by omega) (by rw [List.length_append]; simp; omega)
          refine ⟨i, ?_⟩
          simp only [c1, c2, decide_true, if_true, Option.bind_some, Bool.and_self]
          unfold app
          rw [if_pos (by omega), Option.bind_some, hi]
          simp
        · obtain ⟨i, hi⟩ := three_L hx hy hz g (j+1) out (by omega) (by omega) (by omega)
          refine ⟨i, ?_⟩
          simp only [c1, c2, decide_true, decide_false, if_true, Option.bind_some, Bool.false_eq_true, if_false, Bool.and_false]
          exact hi
      · obtain ⟨i, hi⟩ := three_L hx hy hz g (j+1) out (by omega) (by omega) (by omega)
        refine ⟨i, ?_⟩
        simp only [c1, decide_false, Option.bind_some, Bool.false_eq_true, if_false, Bool.false_and]
        exact hi
    · rw [if_neg (by omega), List.drop_eq_nil_of_le (by omega)]
      exact ⟨_, by simp; rfl⟩
theorem filter_one {p : Int → Bool} {m : Int} : ∀ {x : List Int}, x.Nodup → m ∈ x → (∀ v ∈ x, p v = true ↔ v = m) → x.filter p = [m]
  | [], _, h, _ => by cases h
  | v :: x, hn, h, hp => by
    obtain ⟨n1, n2⟩ := List.nodup_cons.1 hn
    by_cases e : v = m
    · subst e
      have : x.filter p = [] := by
        rw [List.filter_eq_nil_iff]; intro y hy hb
        have := (hp y (List.mem_cons_of_mem _ hy)).1 hb
        subst this; exact n1 hy
      rw [List.filter_cons, if_pos ((hp v List.mem_cons_self).2 rfl), this]
    · rw [List.filter_cons, if_neg (fun hb => e ((hp v List.mem_cons_self).1 hb))]
      exact filter_one n2 ((List.mem_cons.1 h).resolve_left (Ne.symm e)) (fun y hy => hp y (List.mem_cons_of_mem _ hy))
theorem errW_T {n : Int} {l : List (Int × Int)} {a b : Int} (h : errW n l a b = 0) : errT n l = 0 ∧ (0 ≤ a ∧ a ≤ n - 1) ∧ (0 ≤ b ∧ b ≤ n - 1) := by
  unfold errW at h
  by_cases he : errT n l = 0
  · rw [if_neg (by simpa using he)] at h
    by_cases c : (0 ≤ a ∧ a ≤ n - 1) ∧ (0 ≤ b ∧ b ≤ n - 1)
    · exact ⟨he, c.1, c.2⟩
    · rw [if_neg c] at h; cases h
  · rw [if_pos he] at h; exact absurd h he
theorem ints_one {F : Nat} (m : Int) : SE_Ints 300 [m] [m] = some true := by
  rw [SE_Ints_ev (by simp) (by simp)]; simp
theorem three_law {n : Int} {l : List (Int × Int)} {a b c : Int} (hg : good n l) : L3_CommonThree 300 n l a b c = some true := by
  unfold L3_CommonThree
  rw [cfact_ev, Option.bind_some, if_pos rfl]
  obtain ⟨x, x1, x2, x3⟩ := way_ev (a := a) (b := b) hg
  obtain ⟨y, y1, y2, y3⟩ := way_ev (a := b) (b := c) hg
  obtain ⟨z, z1, z2, z3⟩ := way_ev (a := a) (b := c) hg
  rw [x1, Option.bind_some, y1, Option.bind_some, z1, Option.bind_some]
  by_cases ex : errW n l a b = 0
  · by_cases ey : errW n l b c = 0
    · obtain ⟨t0, ta, tb⟩ := errW_T ex
      obtain ⟨_, _, tc⟩ := errW_T ey
      have ez : errW n l a c = 0 := by unfold errW; rw [if_neg (by simpa using t0), if_pos ⟨ta, tc⟩]
      obtain ⟨k, p, q, G, hk, ha, hb, hp, hq, wx⟩ := x3 ex
      subst hk
      obtain ⟨k', q', s, G', hk', hb', hc, hq', hs, wy⟩ := y3 ey
      obtain ⟨k'', p', s', G'', hk'', ha', hc', hp', hs', wz⟩ := z3 ez
      have e1 : k' = k := by omega
      subst e1
      have e2 : k'' = k' := by omega
      subst e2
      have e3 : q' = q := by omega
      subst e3
      have e4 : p' = p := by omega
      subst e4
      have e5 : s' = s := by omega
      subst e5
      subst ha; subst hb; subst hc
      have T := tr_of G
      have hk8 := G.le
      have hln : ∀ {r v : Nat} {w : List Int}, r < k'' → v < k'' → (tr_of G).Way r v w → w.length < 100 := fun hr hv hw => by
        have := (tr_of G).way_len hr hw; have := dst_lt8 G hr hv; omega
      have l1 := hln hq hp wx; have l2 := hln hs hq wy; have l3 := hln hs hp wz
      obtain ⟨i, hL⟩ := three_L l1 l2 l3 300 0 [] (by omega) (by omega) (by simp; omega)
      obtain ⟨m, m1, m2, m3⟩ := of_ev (root := (s' : Int)) (a := (p' : Int)) (b := (q' : Int)) hg
      have eo : errO (k'' : Int) l (s' : Int) (p' : Int) (q' : Int) = 0 := by
        unfold errO errU
        rw [if_neg (show ¬ (errT (k'' : Int) l ≠ 0) by simpa using t0), if_pos (show 0 ≤ (s' : Int) ∧ (s' : Int) ≤ (k'' : Int) - 1 by omega), if_neg (show ¬ ((0 : Int) ≠ 0) by simp), if_pos (show (0 ≤ (p' : Int) ∧ (p' : Int) ≤ (k'' : Int) - 1) ∧ (0 ≤ (q' : Int) ∧ (q' : Int) ≤ (k'' : Int) - 1) by omega)]
      obtain ⟨k2, r2, x2', y2', G2, u, hk2, hr2, hx2, hy2, hm, _, _, _, hmeet⟩ := m3 eo
      have e6 : k2 = k'' := by omega
      subst e6
      have e7 : r2 = s' := by omega
      have e8 : x2' = p' := by omega
      have e9 : y2' = q' := by omega
      subst e7; subst e8; subst e9; subst hm
      have hnd : x.Nodup := by
        rw [List.nodup_iff_pairwise_ne, List.pairwise_iff_getElem]
        intro i j hi hj hij e
        obtain ⟨p, p1, p2, p3⟩ := T.way_at hq hp wx i hi
        obtain ⟨q, q1, q2, q3⟩ := T.way_at hq hp wx j hj
        rw [List.getElem?_eq_getElem hi] at p1
        rw [List.getElem?_eq_getElem hj] at q1
        injection p1 with p1; injection q1 with q1
        rw [p1, q1] at e
        have : p = q := by omega
        subst this; omega
      have hf : x.filter (fun v => decide (v ∈ y) && decide (v ∈ z)) = [(u : Int)] := by
        refine filter_one hnd ((T.way_mem hq hp wx _).2 ⟨u, rfl, hmeet.1⟩) (fun v hv => ?_)
        rw [Bool.and_eq_true, decide_eq_true_eq, decide_eq_true_eq, T.way_mem hs hq wy, T.way_mem hs hp wz]
        constructor
        · rintro ⟨⟨i, rfl, hi⟩, ⟨i', e, hi'⟩⟩
          have : i = i' := by omega
          subst this
          obtain ⟨i2, e2, hi2⟩ := (T.way_mem hq hp wx _).1 hv
          have : i = i2 := by omega
          subst this
          rw [T.meet_uniq hs hp hq ⟨hi2, hi', hi⟩ hmeet]
        · rintro rfl
          exact ⟨⟨u, rfl, hmeet.2.2⟩, ⟨u, rfl, hmeet.2.1⟩⟩
      rw [ex, ey, ez]
      simp only [show ¬ (((0 : Int) != 0) = true) by decide, if_false, Option.bind_some, Bool.false_eq_true]
      rw [show L3_CommonThree_L1 300 x y z 300 [] 0 = _ from hL, Option.bind_some, m1, Option.bind_some, eo]
      simp only [List.nil_append, List.drop_zero, hf]
      rw [if_pos (by decide), SE_Ints_ev (by simp) (by simp)]
      simp
    · rw [ex, if_neg (show ¬ (((0 : Int) != 0) = true) by decide), if_pos (by simpa using ey)]; rfl
  · have e1 : (errW n l a b != 0) = true := by simpa using ex
    have e2 : ¬ ((errW n l a b == 0) = true) := by simpa using ex
    simp only [e1, e2, if_true, if_false, Option.bind_some, x2 ex]
    rfl
end Go.Proofs.Ytfokhmkimckdnaa
