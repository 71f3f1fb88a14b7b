import Derived.Test.YtccdnokddkpmgaaFw
import Derived.Test.YtccdnokddkpmgaaTrEv
/- plain: the document's Tree, Way -/
set_option linter.all false
set_option maxRecDepth 100000
namespace Go.Proofs.Ytccdnokddkpmgaa
open Go.RowKit Pl
theorem besL_ad {k : Nat} {l : List (Int × Int)} (hin : InL k l) (a b : Nat) : besL l (a : Int) (b : Int) = true ↔ Ad k l a b := by
  rw [ad_iff hin]
  unfold besL goes
  rw [Bool.or_eq_true, List.any_eq_true, List.any_eq_true]
  constructor
  · rintro (⟨p, hp, hh⟩ | ⟨p, hp, hh⟩)
    · simp at hh; exact ⟨p, hp, .inl hh⟩
    · simp at hh; exact ⟨p, hp, .inr hh⟩
  · rintro ⟨p, hp, hh | hh⟩
    · exact .inl ⟨p, hp, by simp; exact hh⟩
    · exact .inr ⟨p, hp, by simp; exact hh⟩
def ini (l : List (Int × Int)) (a b : Nat) : Int := if a = b then 0 else if besL l (a : Int) (b : Int) = true then 1 else -1
theorem fw_L2 {k a : Nat} {l : List (Int × Int)} (hk : k ≤ 16) (hl : l.length < 300) : ∀ (g b : Nat) (v : List Int), k < b + g → b ≤ k → v.length = k → (∀ j, j < b → v.getD j 0 = ini l a j) →
    ∃ v' x, R1_Far_L2 300 (k : Int) l true (-1) (a : Int) g v (b : Int) = some (v', x) ∧ v'.length = k ∧ ∀ j, j < k → v'.getD j 0 = ini l a j
  | 0, b, v, h, hb, _, _ => by omega
  | g+1, b, v, h, hb, hv, hI => by
    rw [R1_Far_L2_s]
    by_cases hlt : b < k
    · rw [if_pos (by omega), st_nat (by omega), Option.bind_some, w64n (by omega)]
      have hg1 : ∀ x j, ((v.set b (-1)).set b x).getD j 0 = if j = b then x else v.getD j 0 := fun x j => by
        rw [getD_set _ _ _ _ _ (by rw [List.length_set]; omega)]
        split
        · rfl
        · rename_i c; rw [getD_set _ _ _ _ _ (by omega), if_neg c]
      have hg2 : ∀ j, (v.set b (-1)).getD j 0 = if j = b then -1 else v.getD j 0 := fun j => getD_set _ _ _ _ _ (by omega)
      by_cases e : a = b
      · subst e
        rw [if_pos (by simp), st_nat (by rw [List.length_set]; omega), Option.bind_some]
        refine fw_L2 hk hl g (a+1) _ (by omega) (by omega) (by simp; exact hv) (fun j hj => ?_)
        rw [hg1]
        by_cases q : j = a
        · rw [if_pos q, q]; unfold ini; rw [if_pos rfl]
        · rw [if_neg q]; exact hI j (by omega)
      · have e1 : ¬ (((a : Int) == (b : Int)) = true) := by simp; omega
        have e2 : ((a : Int) != -1) = true := bne_iff_ne.2 (by omega)
        have e3 : ((b : Int) != -1) = true := bne_iff_ne.2 (by omega)
        rw [if_neg e1, if_pos e2, if_pos e3]
        simp only [Option.bind_some, if_true]
        rw [R1_Goes_ev _ _ hl (by omega), R1_Goes_ev _ _ hl (by omega)]
        simp only [Option.bind_some]
        have yes : besL l (a : Int) (b : Int) = true → ∃ v' x, ((st (v.set b (-1)) (b : Int) 1).bind fun y8 => R1_Far_L2 300 (k : Int) l true (-1) (a : Int) g y8 ((b + 1 : Nat) : Int)) = some (v', x) ∧ v'.length = k ∧ ∀ j, j < k → v'.getD j 0 = ini l a j := fun hb1 => by
          rw [st_nat (by rw [List.length_set]; omega), Option.bind_some]
          refine fw_L2 hk hl g (b+1) _ (by omega) (by omega) (by simp; exact hv) (fun j hj => ?_)
          rw [hg1]
          by_cases q : j = b
          · rw [if_pos q, q]; unfold ini; rw [if_neg e, if_pos hb1]
          · rw [if_neg q]; exact hI j (by omega)
        by_cases h1 : goes l (a : Int) (b : Int) = true
        · rw [h1]; simp only [if_true, Option.bind_some]
          exact yes (by unfold besL; rw [h1]; rfl)
        · by_cases h2 : goes l (b : Int) (a : Int) = true
          · have h1' : goes l (a : Int) (b : Int) = false := by simpa using h1
            rw [h1', h2]; simp only [if_true, Option.bind_some, Bool.false_eq_true, if_false]
            exact yes (by unfold besL; rw [h1', h2]; rfl)
          · have h1' : goes l (a : Int) (b : Int) = false := by simpa using h1
            have h2' : goes l (b : Int) (a : Int) = false := by simpa using h2
            rw [h1', h2']; simp only [Option.bind_some, Bool.false_eq_true, if_false]
            refine fw_L2 hk hl g (b+1) _ (by omega) (by omega) (by simp; exact hv) (fun j hj => ?_)
            rw [hg2]
            by_cases q : j = b
            · rw [if_pos q, q]; unfold ini besL; rw [if_neg e, h1', h2']; rfl
            · rw [if_neg q]; exact hI j (by omega)
    · rw [if_neg (by omega)]
      exact ⟨v, _, rfl, hv, fun j hj => hI j (by omega)⟩
theorem fw_L1 {k : Nat} {l : List (Int × Int)} (hk : k ≤ 16) (hl : l.length < 300) : ∀ (g a : Nat) (M : List (List Int)), k < a + g → a ≤ k → M.length = a → (∀ a', a' < a → (M.getD a' []).length = k ∧ ∀ b, b < k → ent M a' b = ini l a' b) →
    ∃ M' x, R1_Far_L1 300 (k : Int) l true (-1) g M (a : Int) = some (M', x) ∧ Sh k M' ∧ ∀ a b, a < k → b < k → ent M' a b = ini l a b
  | 0, a, M, h, ha, _, _ => by omega
  | g+1, a, M, h, ha, hM, hI => by
    rw [R1_Far_L1_s]
    by_cases hlt : a < k
    · have hmk : mkI (k : Int) = some (List.replicate k 0) := by unfold mkI; rw [if_pos (by omega), Int.toNat_natCast]
      obtain ⟨v, x, r1, r2, r3⟩ := fw_L2 (a := a) hk hl 300 0 (List.replicate k 0) (by omega) (by omega) (by simp) (fun j hj => by omega)
      rw [if_pos (by omega), hmk, Option.bind_some, show R1_Far_L2 300 (k : Int) l true (-1) (a : Int) 300 (List.replicate k 0) 0 = some (v, x) from r1, Option.bind_some]
      unfold app
      rw [if_pos (by omega), Option.bind_some, w64n (by omega)]
      have hg : ∀ a', (M ++ [v]).getD a' [] = if a' < a then M.getD a' [] else if a' = a then v else [] := fun a' => by
        rw [List.getD_eq_getElem?_getD, List.getElem?_append]
        by_cases q : a' < a
        · rw [if_pos (by omega), if_pos q, List.getD_eq_getElem?_getD]
        · rw [if_neg (by omega), if_neg q]
          by_cases q2 : a' = a
          · rw [if_pos q2, q2, hM, Nat.sub_self]; rfl
          · rw [if_neg q2, List.getElem?_eq_none (by simp; omega)]; rfl
      refine fw_L1 hk hl g (a+1) (M ++ [v]) (by omega) (by omega) (by simp; omega) (fun a' ha' => ?_)
      unfold ent
      rw [hg]
      by_cases q : a' < a
      · rw [if_pos q]; exact hI a' q
      · rw [if_neg q, if_pos (by omega)]
        have : a' = a := by omega
        subst this
        exact ⟨r2, r3⟩
    · rw [if_neg (by omega)]
      have : a = k := by omega
      subst this
      exact ⟨M, _, rfl, ⟨hM, fun a' ha' => (hI a' ha').1⟩, fun a' b ha' hb => (hI a' ha').2 b hb⟩
theorem far_mat {k : Nat} {l : List (Int × Int)} (hk : k ≤ 16) (hl : l.length < 300) (hin : InL k l) : ∃ M, R1_Far 300 (k : Int) l true (-1) = some M ∧ Sh k M ∧ ∀ a, a < k → Far k (Ad k l) a (M.getD a []) := by
  obtain ⟨M0, x0, r1, r2, r3⟩ := fw_L1 hk hl 300 0 [] (by omega) (by omega) rfl (fun a' h => by omega)
  have h0 : Flo k (Ad k l) 0 (ent M0) := by
    refine ⟨fun a b ha hb => ?_, fun a ha => ?_, fun a b ha hb hh => ?_, fun a b L ha hb hw => ?_⟩
    · rw [r3 a b ha hb]; unfold ini; split
      · simp
      · split <;> simp
    · rw [r3 a a ha ha]; unfold ini; rw [if_pos rfl]
    · rw [r3 a b ha hb] at hh ⊢
      unfold ini at hh ⊢
      by_cases e : a = b
      · subst e; rw [if_pos rfl]; exact .nil _
      · rw [if_neg e] at hh ⊢
        by_cases q : besL l (a : Int) (b : Int) = true
        · rw [if_pos q]; exact .edge ((besL_ad hin a b).1 q)
        · rw [if_neg q] at hh; omega
    · rw [r3 a b ha hb]
      unfold ini
      cases hw with
      | nil => rw [if_pos rfl]; omega
      | edge h =>
        by_cases e : a = b
        · rw [if_pos e]; omega
        · rw [if_neg e, if_pos ((besL_ad hin a b).2 h)]; omega
      | cons _ hc _ => omega
  obtain ⟨M, x, s1, s2, s3⟩ := fw_L3 hk 300 0 M0 (by omega) (by omega) r2 h0
  refine ⟨M, ?_, s2, fun a ha => ?_⟩
  · unfold R1_Far
    rw [show R1_Far_L1 300 (k : Int) l true (-1) 300 [] 0 = some (M0, x0) from r1, Option.bind_some, show R1_Far_L3 300 (k : Int) 300 M0 0 = some (M, x) from s1]
    rfl
  · have step : ∀ i j, i < k → 0 ≤ ent M a i → Ad k l i j → 0 ≤ ent M a j ∧ ent M a j ≤ ent M a i + 1 := fun i j hi h0 hij => by
      have h1 := (s3.sound a i ha hi h0).trans hi (.edge hij)
      have h2 := s3.all a j _ ha (ad_lt hin hij).2 h1
      omega
    refine ⟨s2.row a ha, fun j hj => (s3.bnd a j ha hj).1, s3.diag a ha, step, fun j hj h0 => ?_⟩
    rcases (s3.sound a j ha hj h0).last with ⟨_, e⟩ | ⟨i, L', e, w, hij⟩
    · exact .inl e.symm
    · have hi := (ad_lt hin hij).1
      have h1 := s3.all a i L' ha hi w
      have h2 := step i j hi h1.1 hij
      have h0' : 0 ≤ ent M a j := h0
      exact .inr ⟨i, hi, hij, h1.1, by show ent M a j = ent M a i + 1; omega⟩
theorem far_le {k : Nat} {A : Nat → Nat → Prop} {a : Nat} {o o' : List Int} (hA : ∀ i j, A i j → i < k ∧ j < k) (h : Far k A a o) (h' : Far k A a o') : ∀ n j, j < k → o.getD j 0 = (n : Nat) → 0 ≤ o'.getD j 0 ∧ o'.getD j 0 ≤ n := by
  intro n
  induction n with
  | zero =>
    intro j hj e
    rcases h.down j hj (by omega) with rfl | ⟨i, hi, hij, h0, e2⟩
    · rw [h'.start]; omega
    · omega
  | succ n ih =>
    intro j hj e
    rcases h.down j hj (by omega) with rfl | ⟨i, hi, hij, h0, e2⟩
    · rw [h'.start]; omega
    · have h1 := ih i hi (by omega)
      have h2 := h'.step i j hi h1.1 hij
      omega
theorem far_uniq {k : Nat} {A : Nat → Nat → Prop} {a : Nat} {o o' : List Int} (hA : ∀ i j, A i j → i < k ∧ j < k) (h : Far k A a o) (h' : Far k A a o') (j : Nat) (hj : j < k) : o.getD j 0 = o'.getD j 0 := by
  have l1 := h.low j hj; have l2 := h'.low j hj
  by_cases c : 0 ≤ o.getD j 0
  · have h1 := far_le hA h h' _ j hj (Int.toNat_of_nonneg c).symm
    have h2 := far_le hA h' h _ j hj (Int.toNat_of_nonneg h1.1).symm
    omega
  · by_cases c' : 0 ≤ o'.getD j 0
    · have := far_le hA h' h _ j hj (Int.toNat_of_nonneg c').symm
      omega
    · omega
theorem conn_far {k : Nat} {l : List (Int × Int)} (hin : InL k l) (hk : 0 < k) {o : List Int} (h : Far k (Ad k l) 0 o) : Conn k l ↔ ∀ j, j < k → 0 ≤ o.getD j 0 := by
  constructor
  · intro hc
    exact hc (fun i => 0 ≤ o.getD i 0) (by rw [h.start]; omega) (fun i j hi hij => (h.step i j (ad_lt hin hij).1 hi hij).1)
  · intro hall P hP hs
    have key : ∀ n j, j < k → o.getD j 0 = (n : Nat) → P j := by
      intro n
      induction n with
      | zero =>
        intro j hj e
        rcases h.down j hj (by omega) with rfl | ⟨i, hi, hij, h0, e2⟩
        · exact hP
        · omega
      | succ n ih =>
        intro j hj e
        rcases h.down j hj (by omega) with rfl | ⟨i, hi, hij, h0, e2⟩
        · exact hP
        · exact hs i j (ih i hi (by omega)) hij
    intro i hi
    exact key _ i hi (Int.toNat_of_nonneg (hall i hi)).symm
theorem tree3_L1 {k : Nat} {M : List (List Int)} (hk : k ≤ 16) (hk0 : 0 < k) (hM : Sh k M) : ∀ (g j : Nat), k < j + g → j ≤ k → (∀ i, i < j → 0 ≤ ent M 0 i) →
    (∃ x, R3_Tree_L1 300 (k : Int) M g (j : Int) = some (.inl x) ∧ ∀ i, i < k → 0 ≤ ent M 0 i) ∨ (R3_Tree_L1 300 (k : Int) M g (j : Int) = some (.inr 7) ∧ ∃ i, i < k ∧ ent M 0 i < 0)
  | 0, j, h, hj, _ => by omega
  | g+1, j, h, hj, hI => by
    rw [R3_Tree_L1_s]
    by_cases hlt : j < k
    · rw [if_pos (by omega), show ix M 0 = some (M.getD 0 []) from hM.ix hk0, Option.bind_some, hM.ix2 hk0 hlt, Option.bind_some]
      by_cases c : ent M 0 j < 0
      · rw [if_pos c]; exact .inr ⟨rfl, j, hlt, c⟩
      · rw [if_neg c, w64n (by omega)]
        exact tree3_L1 hk hk0 hM g (j+1) (by omega) (by omega) (fun i hi => by
          by_cases q : i = j
          · subst q; omega
          · exact hI i (by omega))
    · rw [if_neg (by omega)]
      exact .inl ⟨_, rfl, fun i hi => hI i (by omega)⟩
theorem tree3_ev {n : Int} {l : List (Int × Int)} (hg : good n l) : R3_Tree 300 n l = some (errT n l) := by
  unfold R3_Tree errT
  rw [show R1_Lines 300 n l = some (errG n l) from R1_Lines_big (by omega), Option.bind_some]
  by_cases he : errG n l = 0
  · obtain ⟨k, rfl, h1, h8, h24, hin, hne⟩ := errG_zero he
    rw [he, if_neg (show ¬ (((0 : Int) != 0) = true) by decide), if_neg (show ¬ ((0 : Int) ≠ 0) by simp), Int.toNat_natCast, w64 (by omega) (by omega)]
    by_cases hl : l.length + 1 = k
    · have e1 : ¬ (((l.length : Int) != ((k : Int) - 1)) = true) := by simp; omega
      obtain ⟨M, m1, m2, m3⟩ := far_mat (l := l) (show k ≤ 16 by omega) (by omega) hin
      rw [if_neg e1, m1, Option.bind_some]
      have hF := m3 0 (by omega)
      rcases tree3_L1 (by omega) (by omega) m2 300 0 (by omega) (by omega) (fun i hi => by omega) with ⟨x, t1, t2⟩ | ⟨t1, i, t2, t3⟩
      · rw [show R3_Tree_L1 300 (k : Int) M 300 0 = some (.inl x) from t1, if_pos ⟨hl, (conn_far hin (by omega) hF).2 t2⟩]; rfl
      · rw [show R3_Tree_L1 300 (k : Int) M 300 0 = some (.inr 7) from t1, if_neg (fun c => by have := (conn_far hin (by omega) hF).1 c.2 i t2; have h3 : (M.getD 0 []).getD i 0 < 0 := t3; omega)]; rfl
    · have e1 : ((l.length : Int) != ((k : Int) - 1)) = true := by simp; omega
      rw [if_pos e1, if_neg (fun c => hl c.1)]
  · rw [if_pos (by simpa using he), if_pos he]
/-! ### Way -/
theorem way3_L2 {k : Nat} {l : List (Int × Int)} (G : Good k l) {M : List (List Int)} (hM : Sh k M) (hd : ∀ i j, i < k → j < k → ent M i j = (dst k l i j : Int)) {a b u : Nat} (ha : a < k) (hb : b < k) (hu : (tr_of G).up b a u) : ∀ (g j : Nat) (nx : Int), k < j + g → j ≤ k → nx = (if u < j then (u : Int) else (a : Int)) →
    ∃ x, R3_Way_L2 300 (k : Int) l (a : Int) (b : Int) M g nx (j : Int) = some ((u : Int), x)
  | 0, j, nx, h, hj, _ => by omega
  | g+1, j, nx, h, hj, hn => by
    have T := tr_of G
    have hk8 := G.le; have hlen := G.len
    have huk := T.up_lt hu
    rw [R3_Way_L2_s]
    by_cases hlt : j < k
    · rw [if_pos (by omega), R1_Beside_ev _ _ (by omega) (by omega), Option.bind_some, hM.ix hlt, hM.ix ha, w64n (by omega)]
      simp only [Option.bind_some]
      rw [hM.ix2 hlt hb, hM.ix2 ha hb, hd j b hlt hb, hd a b ha hb]
      simp only [Option.bind_some]
      have s1 := T.symd hb hlt; have s2 := T.symd hb ha; have s3 := T.symd hb huk
      have go := fun (nx : Int) (hn : nx = (if u < j + 1 then (u : Int) else (a : Int))) => way3_L2 G hM hd ha hb hu g (j+1) nx (by omega) (by omega) hn
      by_cases e : j = u
      · have hbes : besL l (a : Int) (j : Int) = true := (besL_ad G.inl a j).2 (by rw [e]; exact T.sym _ _ hu.1)
        have hlt2 : (dst k l j b : Int) < (dst k l a b : Int) := by have := hu.2; rw [e] at s1 ⊢; omega
        rw [hbes]
        simp only [if_true, hlt2, Option.bind_some]
        exact go (j : Int) (by rw [if_pos (by omega), e])
      · have hno : besL l (a : Int) (j : Int) = true → ¬ ((dst k l j b : Int) < (dst k l a b : Int)) := fun hb1 hlt2 => by
          have hA := (besL_ad G.inl a j).1 hb1
          have h1 := T.step b j a hb (T.sym _ _ hA)
          exact e (T.uniq b j u a hb (T.sym _ _ hA) hu.1 (by omega) hu.2)
        have hnx : nx = (if u < j + 1 then (u : Int) else (a : Int)) := by
          rw [hn]
          by_cases q : u < j
          · rw [if_pos q, if_pos (by omega)]
          · rw [if_neg q, if_neg (by omega)]
        cases hb1 : besL l (a : Int) (j : Int)
        · simp only [Bool.false_eq_true, if_false, Option.bind_some]
          exact go nx hnx
        · have := hno hb1
          simp only [if_true, this, if_false, Option.bind_some, Bool.false_eq_true]
          exact go nx hnx
    · rw [if_neg (by omega), hn, if_pos (by omega)]
      exact ⟨_, rfl⟩
theorem way3_L1 {k : Nat} {l : List (Int × Int)} (G : Good k l) {M : List (List Int)} (hM : Sh k M) (hd : ∀ i j, i < k → j < k → ent M i j = (dst k l i j : Int)) {b : Nat} (hb : b < k) {a : Nat} {w : List Int} (h : (tr_of G).Way b a w) : ∀ (g : Nat) (out : List Int), a < k → w.length < g → out.length + w.length < 1000 →
    ∃ x, R3_Way_L1 300 (k : Int) l (b : Int) M g (a : Int) (out ++ [(a : Int)]) = some (x, out ++ w) := by
  have hk8 := G.le
  induction h with
  | root =>
    intro g out ha hg ho
    obtain ⟨g, rfl⟩ : ∃ g', g = g' + 1 := ⟨g - 1, by omega⟩
    rw [R3_Way_L1_s, if_neg (by simp)]
    exact ⟨_, rfl⟩
  | @step v u w hu hw ih =>
    intro g out ha hg ho
    rw [List.length_cons] at hg ho
    obtain ⟨g, rfl⟩ : ∃ g', g = g' + 1 := ⟨g - 1, by omega⟩
    have hne := (tr_of G).up_ne hb hu
    obtain ⟨x, hx⟩ := way3_L2 G hM hd ha hb hu 300 0 (v : Int) (by omega) (by omega) (by rw [if_neg (by omega)])
    obtain ⟨y, hy⟩ := ih g (out ++ [(v : Int)]) ((tr_of G).up_lt hu) (by omega) (by rw [List.length_append]; simp; omega)
    refine ⟨y, ?_⟩
    rw [R3_Way_L1_s, if_pos (by simp; omega), show R3_Way_L2 300 (k : Int) l (v : Int) (b : Int) M 300 (v : Int) 0 = some ((u : Int), x) from hx, Option.bind_some]
    unfold app
    rw [if_pos (by rw [List.length_append]; simp; omega), Option.bind_some, hy]
    simp
theorem way3_ev {k : Nat} {l : List (Int × Int)} (G : Good k l) {a b : Nat} (ha : a < k) (hb : b < k) : ∃ w, R3_Way 300 (k : Int) l (a : Int) (b : Int) = some w ∧ (tr_of G).Way b a w := by
  have T := tr_of G
  have hk8 := G.le; have hlen := G.len
  obtain ⟨M, m1, m2, m3⟩ := far_mat (l := l) (show k ≤ 16 by omega) (by omega) G.inl
  have hd : ∀ i j, i < k → j < k → ent M i j = (dst k l i j : Int) := fun i j hi hj => by
    obtain ⟨o, o1, o2, o3, o4⟩ := far_all G hi
    rw [← o3 j hj]
    exact far_uniq (fun i j h => ad_lt G.inl h) (m3 i hi) o4 j hj
  obtain ⟨w, w1, w2⟩ := T.way_ex hb _ a rfl ha
  have hwl : w.length < 200 := by
    have h1 : (w.map Int.toNat).length ≤ k := by
      refine nodup_lt k _ ?_ ?_
      · refine List.pairwise_map.2 ?_
        rw [List.pairwise_iff_getElem]
        intro i j hi hj hij e
        obtain ⟨p, p1, p2, p3⟩ := T.way_at hb ha w1 i hi
        obtain ⟨q, q1, q2, q3⟩ := T.way_at hb ha w1 j hj
        rw [List.getElem?_eq_getElem hi] at p1
        rw [List.getElem?_eq_getElem hj] at q1
        injection p1 with p1; injection q1 with q1
        rw [p1, q1] at e
        have : p = q := by omega
        subst this; omega
      · intro z hz
        obtain ⟨x, hx, rfl⟩ := List.mem_map.1 hz
        obtain ⟨i, rfl, hi⟩ := (T.way_mem hb ha w1 x).1 hx
        have := hi.1; omega
    rw [List.length_map] at h1; omega
  obtain ⟨x, hx⟩ := way3_L1 G m2 hd hb w1 300 [] ha (by omega) (by simp; omega)
  refine ⟨w, ?_, w1⟩
  unfold R3_Way
  rw [m1, Option.bind_some, show R3_Way_L1 300 (k : Int) l (b : Int) M 300 (a : Int) [(a : Int)] = some (x, w) from hx]
  rfl
end Go.Proofs.Ytccdnokddkpmgaa
