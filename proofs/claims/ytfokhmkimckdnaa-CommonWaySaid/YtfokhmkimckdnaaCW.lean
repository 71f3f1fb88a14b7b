import Derived.Test.YtfokhmkimckdnaaCL
import Derived.Test.YtfokhmkimckdnaaF4
/- plain: CommonWay -/
set_option linter.all false
set_option maxRecDepth 100000
namespace Go.Proofs.Ytfokhmkimckdnaa
open Go.RowKit Pl
theorem turned_ev {l : List Int} (hl : l.length < 200) : SE_Turned 300 l = some l.reverse := by
  have key : ∀ (g j : Nat) (out : List Int), j ≤ l.length → j < g → out.length + j < 1000 → ∃ x, SE_Turned_L1 300 l g out ((j : Int) - 1) = some (out ++ (l.take j).reverse, x) := by
    intro g
    induction g with
    | zero => intro j out _ h _; omega
    | succ g ih =>
      intro j out hj hg ho
      rw [SE_Turned_L1_s]
      cases j with
      | zero => rw [if_neg (by simp)]; exact ⟨_, by simp; rfl⟩
      | succ j =>
        have e : (((j + 1 : Nat) : Int) - 1) = (j : Int) := by omega
        obtain ⟨x, hx⟩ := ih j (out ++ [l[j]]) (by omega) (by omega) (by rw [List.length_append]; simp; omega)
        rw [e, if_pos (by omega), ix_nat (by omega), Option.bind_some]
        unfold app
        rw [if_pos (by omega), Option.bind_some, w64 (by omega) (by omega), hx]
        have ht := List.take_succ_eq_append_getElem (l := l) (i := j) (by omega)
        exact ⟨x, by rw [ht, List.reverse_append]; simp⟩
  obtain ⟨x, hx⟩ := key 300 l.length [] (Nat.le_refl _) (by omega) (by simp; omega)
  unfold SE_Turned
  rw [w64 (by omega) (by omega), hx]
  simp
theorem errO_U {n : Int} {l : List (Int × Int)} {r a b : Int} (h : errO n l r a b = 0) : errU n l r = 0 ∧ (0 ≤ a ∧ a ≤ n - 1) ∧ (0 ≤ b ∧ b ≤ n - 1) := by
  unfold errO at h
  by_cases he : errU n l r = 0
  · rw [if_neg (by simpa using he)] at h
    by_cases c : (0 ≤ a ∧ a ≤ n - 1) ∧ (0 ≤ b ∧ b ≤ n - 1)
    · exact ⟨he, c.1, c.2⟩
    · rw [if_neg c] at h; cases h
  · rw [if_pos he] at h; exact absurd h he
theorem way_law {n : Int} {l : List (Int × Int)} {r a b : Int} (hg : good n l) : L3_CommonWay 300 n l r a b = some true := by
  unfold L3_CommonWay
  rw [cfact_ev, Option.bind_some, if_pos rfl]
  obtain ⟨m, m1, m2, m3⟩ := of_ev (root := r) (a := a) (b := b) hg
  rw [m1, Option.bind_some]
  by_cases he : errO n l r a b = 0
  · obtain ⟨k, r', x, y, G, q, rfl, rfl, rfl, rfl, rfl, hr, hx, hy, hm⟩ := m3 he
    have T := tr_of G
    have hk8 := G.le; have hk1 := G.pos
    obtain ⟨hU, ha, hb⟩ := errO_U he
    have hT : errT (k : Int) l = 0 := by
      unfold errU at hU
      by_cases c : errT (k : Int) l = 0
      · exact c
      · rw [if_pos c] at hU; exact hU
    have eW : ∀ {p s : Nat}, p < k → s < k → errW (k : Int) l (p : Int) (s : Int) = 0 := fun hp hs => by
      unfold errW; rw [if_neg (by simpa using hT), if_pos (by omega)]
    have eO : errO (k : Int) l (r' : Int) (y : Int) (x : Int) = 0 := by
      unfold errO; rw [if_neg (by simpa using hU), if_pos ⟨hb, ha⟩]
    obtain ⟨w, w1, _, w3⟩ := way_ev (a := (x : Int)) (b := (y : Int)) hg
    obtain ⟨v, v1, _, v3⟩ := way_ev (a := (y : Int)) (b := (x : Int)) hg
    have ww : (tr_of G).Way y x w := by
      obtain ⟨k', p, s, G', e1, e2, e3, _, _, h⟩ := w3 (eW hx hy)
      have : k' = k := by omega
      subst this
      have : p = x := by omega
      subst this
      have : s = y := by omega
      subst this
      exact h
    have wv : (tr_of G).Way x y v := by
      obtain ⟨k', p, s, G', e1, e2, e3, _, _, h⟩ := v3 (eW hy hx)
      have : k' = k := by omega
      subst this
      have : p = y := by omega
      subst this
      have : s = x := by omega
      subst this
      exact h
    obtain ⟨o, o1, o2, o3, _⟩ := far_all G hm.1.1
    obtain ⟨m', q1, _, q3⟩ := of_ev (root := (r' : Int)) (a := (y : Int)) (b := (x : Int)) hg
    have hmm : m' = (q : Int) := by
      obtain ⟨k2, r2, x2, y2, G2, u, hk2, hr2, hx2, hy2, hm2, _, _, _, hmeet⟩ := q3 eO
      have e6 : k2 = k := by omega
      subst e6
      have e7 : r2 = r' := by omega
      have e8 : x2 = y := by omega
      have e9 : y2 = x := by omega
      subst e7; subst e8; subst e9; subst hm2
      rw [T.meet_uniq hr hx hy ⟨T.btw_sym hy hx hmeet.1, hmeet.2.2, hmeet.2.1⟩ hm]
    subst hmm
    have l1 := T.way_len hy ww; have l2 := T.way_len hx wv
    have d1 := dst_lt8 G hy hx; have d2 := dst_lt8 G hx hy
    have hw1 : w.length < 100 := by omega
    have hv1 : v.length < 100 := by omega
    have hin : (q : Int) ∈ w := (T.way_mem hy hx ww _).2 ⟨q, rfl, hm.1⟩
    have hlen : (w.length : Int) = wrap64 (wrap64 ((dst k l q x : Int) + (dst k l q y : Int)) + 1) := by
      have h1 := hm.1.2
      have s1 := T.symd hm.1.1 hx; have s2 := T.symd hy hx
      rw [w64 (x := (dst k l q x : Int) + (dst k l q y : Int)) (by omega) (by have := dst_lt8 G hm.1.1 hx; have := dst_lt8 G hm.1.1 hy; omega), w64 (by omega) (by have := dst_lt8 G hm.1.1 hx; have := dst_lt8 G hm.1.1 hy; omega)]
      omega
    rw [he, w1, v1, o1, q1, eO, eW hx hy, eW hy hx]
    simp only [show ¬ (((0 : Int) != 0) = true) by decide, if_false, Option.bind_some, Bool.false_eq_true, o2]
    rw [if_neg (show ¬ (((k : Int) != (k : Int)) = true) by simp), w64 (x := (k : Int) - 1) (by omega) (by omega), L3_in_ev, L3_in_ev, decide_eq_true ha, decide_eq_true hb]
    simp only [Option.bind_some, if_true, Bool.false_eq_true, if_false]
    rw [R1_Has_ev (F := 300) (l := w) _ (Nat.lt_trans hw1 (by decide)) (Nat.lt_trans hw1 (by decide)), decide_eq_true hin]
    simp only [Option.bind_some, if_true]
    rw [turned_ev (Nat.lt_trans hw1 (by decide)), Option.bind_some, SE_Ints_ev (F := 300) (by rw [List.length_reverse]; exact Nat.lt_trans hw1 (by decide)) (by rw [List.length_reverse]; exact Nat.lt_trans hw1 (by decide)), T.way_rev hx hy ww wv, decide_eq_true rfl]
    simp only [Option.bind_some, if_true]
    rw [ix_at 0 (show x < o.length by rw [o2]; exact hx), Option.bind_some, ix_at 0 (show y < o.length by rw [o2]; exact hy), Option.bind_some, o3 x hx, o3 y hy, ← hlen]
    simp
  · rw [if_pos (by simpa using he), m2 he]; rfl
theorem commonWay_any (w : World) (n : Int) (hn : (Lit.int .i64 n).wf = true) (A : Option Addr) (cap : Nat) (l : List (Int × Int)) (hr : ReadsL w w.heap.size A l) (hl : l.length ≤ maxLen) (a : Int) (_ : (Lit.int .i64 a).wf = true) (b : Int) (_ : (Lit.int .i64 b).wf = true) (c : Int) (_ : (Lit.int .i64 c).wf = true) :
    Calls Try.prog 3 #[.int .i64 n, .slice A l.length cap, .int .i64 a, .int .i64 b, .int .i64 c] w fun e w' => e = .returned (.bool true) ∧ Below w.heap.size w w' :=
  L3_CommonWay_ok w cap hr (way_law ⟨hn, hl⟩)
end Go.Proofs.Ytfokhmkimckdnaa
