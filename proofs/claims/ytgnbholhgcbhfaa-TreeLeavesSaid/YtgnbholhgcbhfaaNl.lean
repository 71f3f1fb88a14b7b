import Derived.Test.YtgnbholhgcbhfaaNj
import Derived.Test.YtgnbholhgcbhfaaWiE
import Derived.Test.YtgnbholhgcbhfaaAl
/- TreeLeaves -/
set_option linter.all false
set_option maxRecDepth 100000
namespace Go.Proofs.Ytgnbholhgcbhfaa
open Go.RowKit Pl
section
variable {k : Nat} {l : List (Int × Int)}
theorem near_L1 {i : Nat} (hk : k ≤ 16) (hl : l.length < 300) (hin : InL k l) : ∀ (g j : Nat) (o : List Int), k < j + g → j ≤ k → o.length ≤ j → ∃ x, R1_Near_L1 300 (k : Int) l (i : Int) g o (j : Int) = some (o ++ intl ((List.range' j (k - j)).filter fun c => adjB k l i c), x)
  | 0, j, o, h, hj, _ => by omega
  | g+1, j, o, h, hj, ho => by
    rw [R1_Near_L1_s]
    by_cases hlt : j < k
    · rw [if_pos (by omega), R1_Beside_ev _ _ hl (by omega), Option.bind_some, w64n (by omega), show k - j = (k - (j+1)) + 1 by omega, List.range'_succ]
      have hb : besL l (i : Int) (j : Int) = adjB k l i j := Bool.eq_iff_iff.2 (besL_ad hin i j)
      rw [hb]
      cases hA : adjB k l i j with
      | true =>
        have ha : app o (j : Int) = some (o ++ [(j : Int)]) := by unfold app; rw [if_pos (by omega)]
        rw [if_pos rfl, ha, Option.bind_some, List.filter_cons_of_pos (p := fun c => adjB k l i c) hA]
        obtain ⟨x, hx⟩ := near_L1 (i := i) hk hl hin g (j+1) (o ++ [(j : Int)]) (by omega) (by omega) (by rw [List.length_append]; simp; omega)
        exact ⟨x, by rw [hx, List.append_assoc]; rfl⟩
      | false =>
        rw [if_neg (by decide), List.filter_cons_of_neg (p := fun c => adjB k l i c) (by rw [hA]; decide)]
        exact near_L1 (i := i) hk hl hin g (j+1) o (by omega) (by omega) (by omega)
    · rw [if_neg (by omega)]
      have : j = k := by omega
      subst this
      exact ⟨(j : Int), by simp [intl]⟩
/-- whom a point is beside -/
def nbs (k : Nat) (l : List (Int × Int)) (i : Nat) : List Nat := (List.range k).filter fun c => adjB k l i c
theorem near_ev {i : Nat} (hk : k ≤ 16) (hl : l.length < 300) (hin : InL k l) : R1_Near 300 (k : Int) l (i : Int) = some (intl (nbs k l i)) := by
  obtain ⟨x, hx⟩ := near_L1 (i := i) hk hl hin 300 0 [] (by omega) (by omega) (Nat.zero_le _)
  rw [List.nil_append, Nat.sub_zero, ← List.range_eq_range'] at hx
  unfold R1_Near
  rw [show R1_Near_L1 300 (k : Int) l (i : Int) 300 [] 0 = _ from hx]; rfl
theorem nbs_mem (hin : InL k l) {i c : Nat} : c ∈ nbs k l i ↔ Ad k l i c := by
  unfold nbs
  rw [List.mem_filter, List.mem_range]
  exact ⟨fun h => h.2, fun h => ⟨(ad_lt hin h).2, h⟩⟩
theorem one_nb (hin : InL k l) {i : Nat} (h : (nbs k l i).length = 1) : ∃ u, Ad k l i u ∧ ∀ v, Ad k l i v → v = u := by
  match hn : nbs k l i, h with
  | [u], _ =>
    refine ⟨u, (nbs_mem hin).1 (by rw [hn]; simp), fun v hv => ?_⟩
    have := (nbs_mem hin).2 hv
    rw [hn] at this
    exact List.mem_singleton.1 this
/-- the ends of a longest way are ends of the tree -/
theorem end_leaf (G : Good k l) {a b : Nat} (ha : a < k) (hb : b < k) (hab : a ≠ b) (hmax : ∀ x, x < k → dst k l b x ≤ dst k l b a) : (nbs k l a).length = 1 := by
  have T := tr_of G
  obtain ⟨u, hu⟩ := T.up_ex hb ha hab
  have hone : ∀ v, Ad k l a v → v = u := fun v hv => by
    by_cases c : T.up b a v
    · exact T.uniq b v u a hb c.1 hu.1 c.2 hu.2
    · have := T.far hb (T.sym _ _ hv) c
      have := hmax v (T.lt _ _ hv).2
      omega
  have hnd : (nbs k l a).Nodup := List.nodup_range.filter _
  have hp : (nbs k l a).Perm [u] := (List.perm_ext_iff_of_nodup hnd (by simp)).2 fun x => by
    rw [nbs_mem G.inl, List.mem_singleton]
    exact ⟨hone x, fun e => by rw [e]; exact T.sym _ _ hu.1⟩
  exact hp.length_eq
theorem lv_L1 (hk : k ≤ 16) (hl : l.length < 300) (hin : InL k l) : ∀ (g j v : Nat), k < j + g → j ≤ k → v ≤ j →
    ∃ x, L3_TreeLeaves_L1 300 (k : Int) l g (v : Int) (j : Int) = some (((v + ((List.range' j (k - j)).filter fun c => decide ((nbs k l c).length = 1)).length : Nat) : Int), x)
  | 0, j, v, h, hj, _ => by omega
  | g+1, j, v, h, hj, hv => by
    rw [L3_TreeLeaves_L1_s]
    by_cases c : j < k
    · have hil : (intl (nbs k l j)).length = (nbs k l j).length := by simp [intl]
      rw [if_pos (by omega), near_ev hk hl hin, Option.bind_some, hil, w64n (k := j) (by omega), w64n (k := v) (by omega), show k - j = (k - (j+1)) + 1 by omega, List.range'_succ]
      by_cases e : (nbs k l j).length = 1
      · rw [if_pos (by rw [beq_iff_eq]; omega), List.filter_cons_of_pos (p := fun c => decide ((nbs k l c).length = 1)) (decide_eq_true e), List.length_cons]
        obtain ⟨x, hx⟩ := lv_L1 hk hl hin g (j+1) (v+1) (by omega) (by omega) (by omega)
        exact ⟨x, by rw [hx]; congr 3; omega⟩
      · rw [if_neg (by rw [beq_iff_eq]; omega), List.filter_cons_of_neg (p := fun c => decide ((nbs k l c).length = 1)) (by simpa using e)]
        exact lv_L1 hk hl hin g (j+1) v (by omega) (by omega) (by omega)
    · have : j = k := by omega
      subst this
      rw [if_neg (by omega), Nat.sub_self]; exact ⟨(j : Int), by simp⟩
theorem two_leaves (G : Good k l) (h2 : 2 ≤ k) : 2 ≤ ((List.range k).filter fun c => decide ((nbs k l c).length = 1)).length := by
  have T := tr_of G
  obtain ⟨a, b, ha, hb, hab, hmax⟩ := ends_ex G
  have hne : a ≠ b := fun e => by
    subst e
    rw [T.zero a ha] at hab
    -- then all points are one
    have h0 := hmax 0 1 (by omega) (by omega)
    have := T.eq_of_zero (a := 0) (v := 1) (by omega) (by omega) (by omega)
    omega
  have l1 := end_leaf G ha hb hne fun x hx => by rw [T.symd hb ha, hab]; exact hmax b x hb hx
  have l2 := end_leaf G hb ha (Ne.symm hne) fun x hx => by rw [hab]; exact hmax a x ha hx
  have m1 : a ∈ (List.range k).filter fun c => decide ((nbs k l c).length = 1) := List.mem_filter.2 ⟨List.mem_range.2 ha, decide_eq_true l1⟩
  have m2 : b ∈ (List.range k).filter fun c => decide ((nbs k l c).length = 1) := List.mem_filter.2 ⟨List.mem_range.2 hb, decide_eq_true l2⟩
  match hm : (List.range k).filter fun c => decide ((nbs k l c).length = 1), m1, m2 with
  | [z], m1, m2 => exact absurd ((List.mem_singleton.1 m1).trans (List.mem_singleton.1 m2).symm) hne
  | _ :: _ :: _, _, _ => simp
/-- points that hang together have that many lines -/
theorem conn_len (hin : InL k l) (hk : 0 < k) {o : List Int} (hF : Far k (Ad k l) 0 o) (hall : ∀ j, j < k → 0 ≤ o.getD j 0) : k ≤ l.length + 1 := by
  have hf : ∀ v, ∃ q, 0 < v → v < k → q < l.length ∧ ∃ u : Nat, ((l.getD q (0, 0)).1 = (u : Int) ∧ (l.getD q (0, 0)).2 = (v : Int) ∨ (l.getD q (0, 0)).1 = (v : Int) ∧ (l.getD q (0, 0)).2 = (u : Int)) ∧ o.getD v 0 = o.getD u 0 + 1 := by
    intro v
    by_cases c : 0 < v ∧ v < k
    · rcases hF.down v c.2 (hall v c.2) with e | ⟨u, hu, h1, h2, h3⟩
      · omega
      · obtain ⟨p, hp, hh⟩ := (ad_iff hin u v).1 h1
        obtain ⟨q, hq, rfl⟩ := List.getElem_of_mem hp
        exact ⟨q, fun _ _ => ⟨hq, u, by rw [List.getD_eq_getElem?_getD, List.getElem?_eq_getElem hq]; exact hh, h3⟩⟩
    · exact ⟨0, fun h1 h2 => absurd ⟨h1, h2⟩ c⟩
  obtain ⟨f, hf⟩ : ∃ f : Nat → Nat, ∀ v, 0 < v → v < k → f v < l.length ∧ ∃ u : Nat, ((l.getD (f v) (0, 0)).1 = (u : Int) ∧ (l.getD (f v) (0, 0)).2 = (v : Int) ∨ (l.getD (f v) (0, 0)).1 = (v : Int) ∧ (l.getD (f v) (0, 0)).2 = (u : Int)) ∧ o.getD v 0 = o.getD u 0 + 1 :=
    ⟨fun v => Classical.choose (hf v), fun v => Classical.choose_spec (hf v)⟩
  have hmem : ∀ v, v ∈ List.range' 1 (k - 1) ↔ 0 < v ∧ v < k := fun v => by rw [List.mem_range'_1]; omega
  have hnd : ((List.range' 1 (k - 1)).map f).Nodup := by
    refine List.Pairwise.map f (R := fun x y => x ≠ y ∧ (0 < x ∧ x < k) ∧ (0 < y ∧ y < k)) (fun x y h e => ?_) ?_
    · obtain ⟨hne, ⟨x1, x2⟩, y1, y2⟩ := h
      obtain ⟨_, u, hu, eu⟩ := hf x x1 x2
      obtain ⟨_, v, hv, ev⟩ := hf y y1 y2
      rw [← e] at hv
      have : (u = v ∧ x = y) ∨ (u = y ∧ x = v) := by omega
      rcases this with ⟨_, q⟩ | ⟨q1, q2⟩
      · exact hne q
      · rw [q1] at eu; rw [← q2] at ev; omega
    · exact (List.nodup_range' (s := 1) (n := k - 1)).imp_of_mem fun hx hy h => ⟨h, (hmem _).1 hx, (hmem _).1 hy⟩
  have := nodup_lt l.length _ hnd fun x hx => by
    obtain ⟨v, hv, rfl⟩ := List.mem_map.1 hx
    exact (hf v ((hmem v).1 hv).1 ((hmem v).1 hv).2).1
  rw [List.length_map, List.length_range'] at this
  omega
theorem filter_lt {α : Type} {p : α → Bool} {x : α} : ∀ {l : List α}, x ∈ l → p x = false → (l.filter p).length + 1 ≤ l.length
  | y :: l, h, hp => by
    rcases List.mem_cons.1 h with rfl | h
    · rw [List.filter_cons_of_neg (by rw [hp]; decide), List.length_cons]
      have := List.length_filter_le p l; omega
    · have := filter_lt h hp
      rw [List.filter_cons, List.length_cons]
      split
      · rw [List.length_cons]; omega
      · omega
/-- without one of its ends it is a tree -/
theorem less_tree (G : Good k l) (h2 : 2 ≤ k) {i : Nat} (hi : i < k) (h1 : (nbs k l i).length = 1) : tree_Check 300 ((k : Int) - 1) (lessL (i : Int) l) = some 0 := by
  have T := tr_of G
  have hk := G.le; have hl := G.len
  obtain ⟨u, hu1, hu2⟩ := one_nb G.inl h1
  have hin' := lessL_in G.inl hi
  have hne' := lessL_ne (i := (i : Int)) G.ne
  have hlen := lessL_len (i : Int) l
  have hdn : ∀ v, v ≠ i → upN i (if v < i then v else v - 1) = v := fun v hv => by
    unfold upN
    by_cases c : v < i
    · rw [if_pos c, if_pos c]
    · rw [if_neg c, if_neg (by omega)]; omega
  have hA : ∀ x y, Ad (k-1) (lessL (i : Int) l) x y ↔ Ad k l (upN i x) (upN i y) := fun x y => by
    rw [← besL_ad hin', ← besL_ad G.inl]
    have := lessL_aL (i := i) (l := l) x y
    unfold aL at this
    rw [this]
  have hup0 : upN i 0 < k ∧ upN i 0 ≠ i := by unfold upN; split <;> omega
  have hconn : Conn (k-1) (lessL (i : Int) l) := fun P h0 hs j hj => by
    have key : ∀ n v, v < k → v ≠ i → dst k l (upN i 0) v = n → P (if v < i then v else v - 1) := by
      intro n
      induction n with
      | zero =>
        intro v hv hvi e
        have hv0 := T.eq_of_zero hup0.1 hv e
        have : (if v < i then v else v - 1) = 0 := by
          rw [hv0]; unfold upN
          by_cases c : 0 < i
          · rw [if_pos c, if_pos c]
          · rw [if_neg c, if_neg (by omega)]
        rw [this]; exact h0
      | succ n ih =>
        intro v hv hvi e
        have hne : v ≠ upN i 0 := fun q => by rw [q, T.zero _ hup0.1] at e; omega
        obtain ⟨w, hw1, hw2⟩ := T.down (upN i 0) v hup0.1 hv hne
        have hwk := (T.lt _ _ hw1).1
        by_cases c : w = i
        · exfalso
          subst c
          -- i is nearer than v, and has another neighbour towards the beginning
          obtain ⟨z, hz1, hz2⟩ := T.down (upN w 0) w hup0.1 hwk (Ne.symm hup0.2)
          have e1 := hu2 v hw1
          have e2 := hu2 z (T.sym _ _ hz1)
          rw [e1.trans e2.symm] at hw2
          omega
        · have hp := ih w hwk c (by omega)
          refine hs _ _ hp ((hA _ _).2 ?_)
          rw [hdn w c, hdn v hvi]; exact hw1
    have hj' : upN i j < k ∧ upN i j ≠ i := by unfold upN; split <;> omega
    have := key _ (upN i j) hj'.1 hj'.2 rfl
    have e : (if upN i j < i then upN i j else upN i j - 1) = j := by
      unfold upN
      by_cases c : j < i
      · rw [if_pos c, if_pos c]
      · rw [if_neg c, if_neg (by omega)]; omega
    rw [e] at this; exact this
  have hkk : ((k : Int) - 1) = ((k - 1 : Nat) : Int) := by omega
  have herr : errG ((k - 1 : Nat) : Int) (lessL (i : Int) l) = 0 := errG_ok (by omega) (by omega) (by omega) hin' hne'
  have hg : good ((k - 1 : Nat) : Int) (lessL (i : Int) l) := ⟨wf8 (by omega), by unfold maxLen; omega⟩
  have hlt : (lessL (i : Int) l).length + 1 ≤ l.length := by
    obtain ⟨p, hp, hh⟩ := (ad_iff G.inl i u).1 hu1
    unfold lessL
    rw [List.length_map]
    exact filter_lt hp (by
      rcases hh with ⟨e, _⟩ | ⟨_, e⟩ <;> simp [e])
  obtain ⟨o, _, hF⟩ := from_ev (a := 0) hg herr (by omega)
  have hge := conn_len hin' (by omega) hF (fun j hj => hconn (fun i => 0 ≤ o.getD i 0) (by rw [hF.start]; exact Int.le_refl _) (fun a b h1 h2 => (hF.step a b (ad_lt hin' h2).1 h1 h2).1) j hj)
  rw [hkk, tree_ev hg]
  unfold errT
  rw [if_neg (by rw [herr]; simp), Int.toNat_natCast, if_pos ⟨by omega, hconn⟩]
end
theorem treeLeaves_ev {n : Int} {l : List (Int × Int)} (hg : good n l) (i : Int) : L3_TreeLeaves 300 n l i = some true := by
  unfold L3_TreeLeaves
  rw [fact_tree, Option.bind_some, if_pos rfl, tree_ev hg, Option.bind_some]
  by_cases h : errT n l = 0
  · obtain ⟨k, rfl, G⟩ := good_of hg h
    have hk := G.le; have hpos := G.pos; have hll := G.len
    obtain ⟨x, hx⟩ := lv_L1 (by omega) (by omega) G.inl 300 0 0 (by omega) (Nat.zero_le _) (Nat.le_refl _)
    rw [Nat.zero_add, Nat.sub_zero, ← List.range_eq_range'] at hx
    rw [h, if_neg (by decide), tree3_ev hg, h, Option.bind_some, if_neg (by decide), show L3_TreeLeaves_L1 300 (k : Int) l 300 0 0 = _ from hx, Option.bind_some]
    dsimp only
    have hb : (if 1 < (k : Int) then if ((((List.range k).filter fun c => decide ((nbs k l c).length = 1)).length : Nat) : Int) < 2 then some true else some false else some false) = some false := by
      by_cases c : 1 < (k : Int)
      · have := two_leaves G (by omega)
        rw [if_pos c, if_neg (by omega)]
      · rw [if_neg c]
    rw [hb, Option.bind_some, if_neg (by decide), L3_in_ev, Option.bind_some, w64 (by omega) (by omega)]
    by_cases c1 : 0 ≤ i ∧ i ≤ (k : Int) - 1
    · rw [decide_eq_true c1, if_pos rfl]
      by_cases c2 : (k : Int) < 2
      · rw [if_pos c2, Option.bind_some, if_pos rfl, Option.bind_some, if_pos rfl]
      · obtain ⟨j, rfl⟩ := Int.eq_ofNat_of_zero_le c1.1
        have hil : (intl (nbs k l j)).length = (nbs k l j).length := by simp [intl]
        rw [if_neg c2, Option.bind_some, if_neg (by decide), near_ev (by omega) (by omega) G.inl, Option.bind_some, hil]
        by_cases c3 : (nbs k l j).length = 1
        · rw [if_neg (by rw [bne_iff_ne]; omega), Option.bind_some, if_neg (by decide)]
          rcases gw_ev hpos hk (by omega) G.inl G.ne (j : Int) with ⟨_, _, e⟩ | ⟨q, _⟩
          · rw [e, Option.bind_some]
            dsimp only
            rw [if_pos (by decide), less_tree G (by omega) (by omega) c3, Option.bind_some, if_pos (by decide)]; rfl
          · exfalso; omega
        · rw [if_pos (by rw [bne_iff_ne]; omega), Option.bind_some, if_pos rfl]
    · rw [decide_eq_false c1, if_neg (by decide), Option.bind_some, if_pos rfl, Option.bind_some, if_pos rfl]
  · rw [if_pos (by rw [bne_iff_ne]; exact h), tree3_ev hg, Option.bind_some, if_pos (by rw [bne_iff_ne]; exact h)]; rfl
theorem treeLeaves_any (w : World) (n : Int) (hn : (Lit.int .i64 n).wf = true) (A : Option Addr) (cap : Nat) (l : List (Int × Int)) (hr : ReadsL w w.heap.size A l) (hl : l.length ≤ maxLen) (i : Int) (hi : (Lit.int .i64 i).wf = true) :
    Calls Try.prog 6 #[.int .i64 n, .slice A l.length cap, .int .i64 i] w fun e w' => e = .returned (.bool true) ∧ Below w.heap.size w w' :=
  L3_TreeLeaves_ok w cap hr (treeLeaves_ev ⟨hn, hl⟩ i)
end Go.Proofs.Ytgnbholhgcbhfaa
