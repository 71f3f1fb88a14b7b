import Derived.Test.YthgejnjfikljcaaDoorMC
import Derived.Test.YthgejnjfikljcaaDoorF5
/- MeanSays: the document's Mean finds the cheapest simple ring from its least point on -/
set_option linter.all false
set_option maxRecDepth 100000
namespace Go.Proofs.YthgejnjfikljcaaDoor
open Go.RowKit Pl
section
variable {k : Nat} {l : List Cost}
def tg (es : List Cost) : List Int := es.map (·.2.1)
theorem tg_app (a b : List Cost) : tg (a ++ b) = tg a ++ tg b := by simp [tg]
theorem last_tg : ∀ (es : List Cost) {u v : Int}, chain l u es v → es ≠ [] → v ∈ tg es
  | [], _, _, _, h => absurd rfl h
  | [e], u, v, h, _ => by
    have : e.2.1 = v := h.2.2
    simp [tg, this]
  | e :: e' :: es, u, v, h, _ => List.mem_cons_of_mem _ (last_tg (e' :: es) h.2.2 (by simp))
theorem tg_in (hin : InC k l) : ∀ (es : List Cost) {u v : Int}, chain l u es v → ∀ x ∈ tg es, 0 ≤ x ∧ x < (k : Int)
  | [], _, _, _, x, hx => by cases hx
  | e :: es, u, v, h, x, hx => by
    rcases List.mem_cons.1 hx with rfl | hx
    · exact (hin e h.1).2.1
    · exact tg_in hin es h.2.2 x hx
/-- what is found: nothing, or a ring -/
def BM (k : Nat) (l : List Cost) (b m : Int) : Prop :=
  (b = 0 ∧ m = 0) ∨ (1 ≤ m ∧ m ≤ 8 ∧ 0 ≤ b ∧ b ≤ 160 ∧ ∃ u es, 0 ≤ u ∧ u < (k : Int) ∧ chain l u es u ∧ es ≠ [] ∧ cst es = b ∧ (es.length : Int) = m)
/-- a mean of at most s lines' cost a q -/
def Cov (b m s q : Int) : Prop := 0 < m ∧ b * q ≤ s * m
def Lq (b' m' b m : Int) : Prop := 0 < m → Cov b' m' b m
theorem Lq.refl (b m : Int) : Lq b m b m := fun h => ⟨h, Int.le_refl _⟩
theorem Cov.trans {b' m' b m s q : Int} (h : Lq b' m' b m) (h2 : Cov b m s q) (hq : 0 ≤ q) : Cov b' m' s q := by
  obtain ⟨p1, p2⟩ := h h2.1
  exact ⟨p1, ratio p2 h2.2 h2.1 (by omega) hq⟩
theorem BM.m0 {b m : Int} (h : BM k l b m) : 0 ≤ m := by rcases h with ⟨_, h⟩ | ⟨h, _⟩ <;> omega
theorem Lq.trans {b'' m'' b' m' b m : Int} (h : Lq b'' m'' b' m') (h2 : Lq b' m' b m) (hm : 0 ≤ m) : Lq b'' m'' b m := fun q => Cov.trans h (h2 q) hm
/-- the rings that go on from v -/
def Done (l : List Cost) (a v : Int) (es : List Cost) (f : Cost) (b m : Int) : Prop :=
  ∀ fs, chain l v (f :: fs) a → (tg (es ++ f :: fs)).Nodup → (∀ x ∈ tg (es ++ f :: fs), a ≤ x) → Cov b m (cst es + cst (f :: fs)) ((es.length : Int) + (fs.length : Int) + 1)
theorem ix_way (a : Int) (es : List Int) {v : Int} (h : ((a :: es).getLast? = some v)) (hl : es.length < 100) : ix (a :: es) (wrap64 (((a :: es).length : Int) - 1)) = some v := by
  rw [List.length_cons, w64 (by omega) (by omega)]
  have e : (((es.length + 1 : Nat) : Int) - 1) = ((es.length : Nat) : Int) := by omega
  rw [e, ix_nat (by simp)]
  rw [List.getLast?_eq_getElem?] at h
  simp only [List.length_cons, Nat.add_sub_cancel] at h
  rw [List.getElem?_eq_getElem (by simp)] at h
  exact h
theorem chain_last (a : Int) : ∀ (es : List Cost) {u v : Int}, chain l u es v → (u :: tg es).getLast? = some v
  | [], u, v, h => by cases h; rfl
  | e :: es, u, v, h => by
    have := chain_last a es h.2.2
    simp only [tg, List.map_cons] at this ⊢
    rw [List.getLast?_cons_cons]; exact this
theorem behind_ev (F : Nat) (w : List Int) (x : Int) (h : w.length < 1000) : R1_Behind F w x = some (w ++ [x]) := by
  unfold R1_Behind appL app
  rw [if_pos (by simp; omega), Option.bind_some, if_pos (by simp; omega)]; simp
variable (hin : InC k l) (hk : k ≤ 8) (hl : l.length ≤ 24)
include hin hk hl
theorem ring_ok : ∀ d a v es b m, 0 ≤ a → a < (k : Int) → chain l a es v → (a :: tg es).Nodup → k + 1 ≤ d + (es.length + 1) → 1 ≤ d → BM k l b m →
    ∃ b' m', R3_ring 300 d (k : Int) l (a :: tg es) (cst es) b m = some (b', m') ∧ BM k l b' m' ∧ Lq b' m' b m ∧ ∀ f ∈ l, Done l a v es f b' m'
  | 0, _, _, _, _, _, _, _, _, _, _, h, _ => by omega
  | d+1, a, v, es, b, m, ha0, ha1, hc, hn, hd, _, hbm => by
    have hlen : es.length + 1 ≤ k := by
      have := nodup_le k (a :: tg es) hn (fun x hx => by
        rcases List.mem_cons.1 hx with rfl | hx
        · exact ⟨ha0, ha1⟩
        · exact tg_in hin es hc x hx)
      simpa [tg] using this
    have htl : (tg es).length = es.length := by simp [tg]
    have hcs := chain_cost hin es hc
    have loop : ∀ g t b m, l.length < g + t → t ≤ l.length → BM k l b m → ∃ b' m' z, R3_ring_L1 300 (R3_ring 300 d) (k : Int) l (a :: tg es) (cst es) v g b m (t : Int) = some (b', m', z) ∧ BM k l b' m' ∧ Lq b' m' b m ∧ ∀ f ∈ l.drop t, Done l a v es f b' m' := by
      intro g
      induction g with
      | zero => intro t b m h1 h2; omega
      | succ g ih =>
        intro t b m h1 h2 hbm
        rw [R3_ring_L1_s]
        by_cases hlt : t < l.length
        · have hmem : l[t] ∈ l := List.getElem_mem hlt
          have hdrop := List.drop_eq_getElem_cons hlt
          have ih2 := ih (t+1)
          push_cast at ih2
          rw [if_pos (by omega), ix_nat hlt, w64n (by omega)]
          have hw0 : ix (a :: tg es) 0 = some a := rfl
          rw [hw0]
          have hin' := hin _ hmem
          generalize l[t] = e at *
          simp only [Option.bind_some]
          -- skip this line
          have skip : Done l a v es e b m → ∃ b' m' z, R3_ring_L1 300 (R3_ring 300 d) (k : Int) l (a :: tg es) (cst es) v g b m ((t : Int) + 1) = some (b', m', z) ∧ BM k l b' m' ∧ Lq b' m' b m ∧ ∀ f ∈ l.drop t, Done l a v es f b' m' := by
            intro hD
            obtain ⟨b', m', z, q1, q2, q3, q4⟩ := ih2 b m (by omega) (by omega) hbm
            refine ⟨b', m', z, q1, q2, q3, fun f hf => ?_⟩
            rw [hdrop] at hf
            rcases List.mem_cons.1 hf with rfl | hf
            · intro fs x1 x2 x3; exact (hD fs x1 x2 x3).trans q3 (by omega)
            · exact q4 f hf
          -- the same behind better values
          have next : ∀ b1 m1, BM k l b1 m1 → Lq b1 m1 b m → Done l a v es e b1 m1 → ∃ b' m' z, R3_ring_L1 300 (R3_ring 300 d) (k : Int) l (a :: tg es) (cst es) v g b1 m1 ((t : Int) + 1) = some (b', m', z) ∧ BM k l b' m' ∧ Lq b' m' b m ∧ ∀ f ∈ l.drop t, Done l a v es f b' m' := by
            intro b1 m1 hb1 hl1 hD
            obtain ⟨b', m', z, q1, q2, q3, q4⟩ := ih2 b1 m1 (by omega) (by omega) hb1
            refine ⟨b', m', z, q1, q2, q3.trans hl1 hbm.m0, fun f hf => ?_⟩
            rw [hdrop] at hf
            rcases List.mem_cons.1 hf with rfl | hf
            · intro fs x1 x2 x3; exact (hD fs x1 x2 x3).trans q3 (by omega)
            · exact q4 f hf
          by_cases hA : e.1 = v
          · have hA' : (e.1 != v) = false := by simp [hA]
            rw [hA', if_neg (by decide)]
            have hs : wrap64 (cst es + e.2.2) = cst es + e.2.2 := w64 (by omega) (by omega)
            rw [hs]
            have hce : chain l a (es ++ [e]) e.2.1 := (chain_app es).2 ⟨v, hc, hmem, hA, rfl⟩
            have hcste : cst (es ++ [e]) = cst es + e.2.2 := by rw [cst_app]; simp [cst]
            by_cases hB : e.2.1 = a
            · rw [if_pos (by simpa using hB)]
              -- only the ring that ends here
              have only : ∀ {b1 m1 : Int}, Cov b1 m1 (cst es + e.2.2) ((es.length : Int) + 1) → Done l a v es e b1 m1 := by
                intro b1 m1 hcv fs x1 x2 _
                have hfs : fs = [] := by
                  cases fs with
                  | nil => rfl
                  | cons f fs =>
                    exfalso
                    have hm := last_tg (f :: fs) x1.2.2 (by simp)
                    rw [tg_app, List.nodup_append] at x2
                    have := x2.2.1
                    rw [show tg (e :: f :: fs) = e.2.1 :: tg (f :: fs) from rfl, List.nodup_cons, hB] at this
                    exact this.1 hm
                subst hfs
                simp only [cst, List.length_nil]
                rw [Int.add_zero]
                have e0 : ((es.length : Int) + ((0 : Nat) : Int) + 1) = (es.length : Int) + 1 := by omega
                rw [e0]; exact hcv
              have hwl : ((a :: tg es).length : Int) = (es.length : Int) + 1 := by rw [List.length_cons, htl]; omega
              rw [hwl]
              have hnew : BM k l (cst es + e.2.2) ((es.length : Int) + 1) :=
                .inr ⟨by omega, by omega, by omega, by omega, a, es ++ [e], ha0, ha1, by rw [hB] at hce; exact hce, by simp, hcste, by simp⟩
              have hself : Cov (cst es + e.2.2) ((es.length : Int) + 1) (cst es + e.2.2) ((es.length : Int) + 1) := ⟨by omega, Int.le_refl _⟩
              by_cases hm0 : m = 0
              · rw [if_pos (by simpa using hm0)]
                simp only [Option.bind_some, if_true]
                exact next _ _ hnew (fun h => by omega) (only hself)
              · rw [if_neg (by simpa using hm0)]
                rcases hbm with ⟨_, h⟩ | ⟨m1, m2, b1, b2, hex⟩
                · exact absurd h hm0
                · have p1 := small_mul (x := cst es + e.2.2) (y := m) (by omega) (by omega) (by omega) (by omega)
                  have p2 := small_mul (x := b) (y := (es.length : Int) + 1) (by omega) (by omega) (by omega) (by omega)
                  rw [w64 (x := (cst es + e.2.2) * m) (by omega) (by omega), w64 (x := b * ((es.length : Int) + 1)) (by omega) (by omega)]
                  by_cases hlt2 : (cst es + e.2.2) * m < b * ((es.length : Int) + 1)
                  · rw [if_pos hlt2]
                    simp only [Option.bind_some, if_true]
                    exact next _ _ hnew (fun h => ⟨by omega, by omega⟩) (only hself)
                  · rw [if_neg hlt2]
                    simp only [Option.bind_some, Bool.false_eq_true, if_false]
                    exact skip (only ⟨by omega, by omega⟩)
            · rw [if_neg (by simpa using hB), R1_Has_ev _ (by simp [htl]; omega) (by simp [htl]; omega)]
              simp only [Option.bind_some]
              by_cases hH : e.2.1 ∈ a :: tg es
              · rw [if_pos (by simpa using hH)]
                simp only [Option.bind_some, Bool.false_eq_true, if_false]
                refine skip (fun fs x1 x2 x3 => ?_)
                exfalso
                rcases List.mem_cons.1 hH with h | h
                · exact hB h
                · rw [tg_app, List.nodup_append] at x2
                  exact x2.2.2 _ h _ (show e.2.1 ∈ tg (e :: fs) from List.mem_cons_self ..) rfl
              · rw [if_neg (by simpa using hH)]
                by_cases hlt2 : a < e.2.1
                · rw [if_pos hlt2]
                  simp only [Option.bind_some, if_true]
                  rw [behind_ev _ _ _ (by simp [htl]; omega)]
                  have e1 : (a :: tg es) ++ [e.2.1] = a :: tg (es ++ [e]) := by simp [tg]
                  have hn2 : (a :: tg (es ++ [e])).Nodup := by
                    rw [← e1, List.nodup_append]
                    exact ⟨hn, by simp, fun x hx y hy => by
                      rw [List.mem_singleton] at hy
                      subst hy; intro h; exact hH (h ▸ hx)⟩
                  have hlen2 : (es ++ [e]).length + 1 ≤ k := by
                    have := nodup_le k _ hn2 (fun x hx => by
                      rcases List.mem_cons.1 hx with rfl | hx
                      · exact ⟨ha0, ha1⟩
                      · exact tg_in hin _ hce x hx)
                    simpa [tg] using this
                  obtain ⟨b1, m1, q1, q2, q3, q4⟩ := ring_ok d a e.2.1 (es ++ [e]) b m ha0 ha1 hce hn2 (by simp; omega) (by simp at hlen2; omega) hbm
                  rw [Option.bind_some, e1, ← hcste, q1]
                  refine next b1 m1 q2 q3 (fun fs x1 x2 x3 => ?_)
                  cases fs with
                  | nil => exact absurd x1.2.2 hB
                  | cons f fs =>
                    have hf := x1.2.2.1
                    have e2 : es ++ e :: f :: fs = (es ++ [e]) ++ f :: fs := by simp
                    have := q4 f hf fs x1.2.2 (by rw [← e2]; exact x2) (by rw [← e2]; exact x3)
                    rw [hcste, List.length_append] at this
                    have e3 : cst es + cst (e :: f :: fs) = cst es + e.2.2 + cst (f :: fs) := by simp only [cst]; omega
                    have e4 : ((es.length : Int) + ((f :: fs).length : Int) + 1) = (((es.length + [e].length : Nat)) : Int) + (fs.length : Int) + 1 := by simp; omega
                    rw [e3, e4]; exact this
                · rw [if_neg hlt2]
                  simp only [Option.bind_some, Bool.false_eq_true, if_false]
                  refine skip (fun fs x1 x2 x3 => ?_)
                  exfalso
                  have := x3 e.2.1 (by rw [tg_app]; exact List.mem_append_right _ (List.mem_cons_self ..))
                  omega
          · have hA' : (e.1 != v) = true := by simpa using hA
            rw [hA', if_pos rfl]
            exact skip (fun fs x1 _ _ => absurd x1.2.1 hA)
        · obtain rfl : t = l.length := by omega
          rw [if_neg (by omega), List.drop_length]
          exact ⟨b, m, _, rfl, hbm, Lq.refl _ _, fun f hf => by cases hf⟩
    rw [R3_ring_s, ix_way a (tg es) (chain_last a es hc) (by omega), Option.bind_some]
    obtain ⟨b', m', z, q1, q2, q3, q4⟩ := loop 300 0 b m (by omega) (Nat.zero_le _) hbm
    have q1' : R3_ring_L1 300 (R3_ring 300 d) (k : Int) l (a :: tg es) (cst es) v 300 b m 0 = _ := q1
    rw [q1', Option.bind_some]
    exact ⟨b', m', rfl, q2, q3, fun f hf => q4 f (by rw [List.drop_zero]; exact hf)⟩
/-- a simple ring from its least point on -/
def Simple (l : List Cost) (a : Int) (es : List Cost) : Prop := chain l a es a ∧ es ≠ [] ∧ (tg es).Nodup ∧ ∀ x ∈ tg es, a ≤ x
theorem mean_L1 : ∀ g i b m, k < g + i → i ≤ k → BM k l b m → (∀ a es, 0 ≤ a → a < (i : Int) → Simple l a es → Cov b m (cst es) (es.length : Int)) →
    ∃ b' m' z, R3_Mean_L1 300 (k : Int) l g b m (i : Int) = some (b', m', z) ∧ BM k l b' m' ∧ ∀ a es, 0 ≤ a → a < (k : Int) → Simple l a es → Cov b' m' (cst es) (es.length : Int)
  | 0, i, b, m, h, _, _, _ => by omega
  | g+1, i, b, m, h, hi, hbm, hall => by
    rw [R3_Mean_L1_s]
    by_cases hlt : i < k
    · obtain ⟨b', m', q1, q2, q3, q4⟩ := ring_ok hin hk hl 300 (i : Int) (i : Int) [] b m (by omega) (by omega) rfl (by simp [tg]) (by omega) (by omega) hbm
      have q1' : R3_ring 300 300 (k : Int) l [(i : Int)] 0 b m = _ := q1
      rw [if_pos (by omega), q1', Option.bind_some, w64n (by omega)]
      have := mean_L1 g (i+1) b' m' (by omega) (by omega) q2 (fun a es h0 h1 hs => by
        by_cases e : a = (i : Int)
        · subst e
          cases es with
          | nil => exact absurd rfl hs.2.1
          | cons f fs =>
            have := q4 f hs.1.1 fs hs.1 hs.2.2.1 hs.2.2.2
            have e3 : cst [] + cst (f :: fs) = cst (f :: fs) := by simp [cst]
            have e4 : ((([] : List Cost).length : Int) + (fs.length : Int) + 1) = ((f :: fs).length : Int) := by simp
            rw [e3, e4] at this; exact this
        · exact (hall a es h0 (by omega) hs).trans q3 (by omega))
      push_cast at this
      exact this
    · obtain rfl : i = k := by omega
      rw [if_neg (by omega)]
      exact ⟨b, m, _, rfl, hbm, hall⟩
theorem simple_of {P : Int} {Q : Nat} (hall : ∀ u es, 0 ≤ u → u < (k : Int) → chain l u es u → 0 ≤ red P (Q : Int) es) : ∀ (n : Nat) (es : List Cost) (u : Int), es.length ≤ n → 0 ≤ u → u < (k : Int) → chain l u es u → es ≠ [] → red P (Q : Int) es = 0 →
    ∃ a es', 0 ≤ a ∧ a < (k : Int) ∧ Simple l a es' ∧ red P (Q : Int) es' = 0
  | 0, es, u, hn, _, _, _, hne, _ => by
    cases es with
    | nil => exact absurd rfl hne
    | cons e es => simp at hn
  | n+1, es, u, hn, h0, h1, hc, hne, hz => by
    by_cases hnd : (tg es).Nodup
    · -- its least point
      have hmin : ∃ x ∈ tg es, ∀ y ∈ tg es, x ≤ y := by
        have : ∀ xs : List Int, xs ≠ [] → ∃ x ∈ xs, ∀ y ∈ xs, x ≤ y := by
          intro xs
          induction xs with
          | nil => intro h; exact absurd rfl h
          | cons x xs ih =>
            intro _
            by_cases hx : xs = []
            · subst hx; exact ⟨x, by simp, by simp⟩
            · obtain ⟨z, z1, z2⟩ := ih hx
              by_cases hxz : x ≤ z
              · exact ⟨x, by simp, fun y hy => by
                  rcases List.mem_cons.1 hy with rfl | hy
                  · omega
                  · have := z2 y hy; omega⟩
              · exact ⟨z, by simp [z1], fun y hy => by
                  rcases List.mem_cons.1 hy with rfl | hy
                  · omega
                  · exact z2 y hy⟩
        refine this _ ?_
        cases es with
        | nil => exact absurd rfl hne
        | cons e es => simp [tg]
      obtain ⟨x, hx, hxm⟩ := hmin
      obtain ⟨e, he, rfl⟩ := List.mem_map.1 hx
      obtain ⟨A, B, rfl⟩ := List.append_of_mem he
      have hc' := hc
      rw [show A ++ e :: B = (A ++ [e]) ++ B by simp] at hc'
      obtain ⟨mm, c1, c2⟩ := (chain_app (A ++ [e])).1 hc'
      obtain ⟨m2, c3, c4⟩ := (chain_app A).1 c1
      have hmm : e.2.1 = mm := c4.2.2
      subst hmm
      have hperm : (tg (B ++ (A ++ [e]))).Perm (tg (A ++ e :: B)) := by
        rw [show A ++ e :: B = (A ++ [e]) ++ B by simp]
        exact List.Perm.map _ List.perm_append_comm
      have hi := hin e c4.1
      refine ⟨e.2.1, B ++ (A ++ [e]), hi.2.1.1, hi.2.1.2, ⟨(chain_app B).2 ⟨u, c2, c1⟩, by simp, hperm.nodup_iff.2 hnd, fun y hy => hxm y (hperm.mem_iff.1 hy)⟩, ?_⟩
      rw [show A ++ e :: B = (A ++ [e]) ++ B by simp, red_app] at hz
      rw [red_app]; omega
    · cases es with
      | nil => exact absurd rfl hne
      | cons e es =>
        obtain ⟨a, c, b, mm, e1, e2, e3, e4, e5⟩ := dup_ring es hc.2.2 hnd
        subst e1
        have hi := hin e hc.1
        have hm := chain_end hin a e3 hi.2.1.1 hi.2.1.2
        have r1 := hall mm c hm.1 hm.2 e4
        have r2 := hall u (e :: (a ++ b)) h0 h1 ⟨hc.1, hc.2.1, (chain_app a).2 ⟨mm, e3, e5⟩⟩
        have e6 : red P (Q : Int) (e :: (a ++ c ++ b)) = red P (Q : Int) (e :: (a ++ b)) + red P (Q : Int) c := by
          rw [show e :: (a ++ c ++ b) = [e] ++ a ++ c ++ b by simp, show e :: (a ++ b) = [e] ++ a ++ b by simp]
          simp only [red_app]; omega
        have hcl : c.length ≤ n := by simp at hn; omega
        exact simple_of hall n c mm hcl hm.1 hm.2 e4 e2 (by omega)
theorem mean_found (hk1 : 1 ≤ k) : ∃ b m z, R3_Mean_L1 300 (k : Int) l 300 0 0 0 = some (b, m, z) ∧ ((b = 0 ∧ m = 0 ∧ ∀ u es, 0 ≤ u → u < (k : Int) → chain l u es u → es = []) ∨ (1 ≤ m ∧ m ≤ 8 ∧ 0 ≤ b ∧ b ≤ 160 ∧ MW k l b m)) := by
  obtain ⟨b, m, z, q1, q2, q3⟩ := mean_L1 hin hk hl 300 0 0 0 (by omega) (Nat.zero_le _) (.inl ⟨rfl, rfl⟩) (fun a es h0 h1 => by omega)
  have key : (∃ u es, 0 ≤ u ∧ u < (k : Int) ∧ chain l u es u ∧ es ≠ []) → 0 < m ∧ ∀ u es, 0 ≤ u → u < (k : Int) → chain l u es u → b * (es.length : Int) ≤ cst es * m := by
    rintro ⟨u, es, h0, h1, hc, hne⟩
    have hpos : 1 ≤ es.length := by cases es with
      | nil => exact absurd rfl hne
      | cons e es => simp
    obtain ⟨Q, P, r1, r2, ⟨u', es', s0, s1, s2, s3, s4⟩, r4⟩ := best_ring hin hk (q0 := es.length) ⟨u, es, h0, h1, hc, rfl, rfl⟩ hpos
    have hz : red P (Q : Int) es' = 0 := by
      unfold red; rw [s3, s4, Int.mul_comm]; omega
    obtain ⟨a, es2, a0, a1, hs, hz2⟩ := simple_of hin hk hl r4 es'.length es' u' (Nat.le_refl _) s0 s1 s2 (by intro h; subst h; simp at s3; omega) hz
    have hcov := q3 a es2 a0 a1 hs
    have hp2 : 1 ≤ es2.length := by
      cases es2 with
      | nil => exact absurd rfl hs.2.1
      | cons e es => simp
    refine ⟨hcov.1, fun u es h0 h1 hc => ?_⟩
    have r := r4 u es h0 h1 hc
    unfold red at r hz2
    have m0 := hcov.1
    have k1 : b * (Q : Int) ≤ P * m := by
      have e1 : cst es2 * (Q : Int) ≤ P * (es2.length : Int) := by rw [Int.mul_comm]; omega
      exact ratio (x := b) (b := (es2.length : Int)) (s := cst es2) (y := m) (b' := (Q : Int)) (s' := P) hcov.2 e1 (by omega) (by omega) (by omega)
    exact ratio (x := b) (b := (Q : Int)) (s := P) (y := m) (b' := (es.length : Int)) (s' := cst es) k1 (by rw [Int.mul_comm (cst es)]; omega) (by omega) (by omega) (by omega)
  have q1' : R3_Mean_L1 300 (k : Int) l 300 0 0 0 = _ := q1
  refine ⟨b, m, z, q1', ?_⟩
  rcases q2 with ⟨rfl, rfl⟩ | ⟨m1, m2, b1, b2, u, es, h0, h1, hc, hne, e1, e2⟩
  · left
    refine ⟨rfl, rfl, fun u es h0 h1 hc => ?_⟩
    cases es with
    | nil => rfl
    | cons e es => exact absurd (key ⟨u, _, h0, h1, hc, by simp⟩).1 (by omega)
  · right
    exact ⟨m1, m2, b1, b2, m1, (key ⟨u, es, h0, h1, hc, hne⟩).2, u, es, h0, h1, hc, hne, by rw [e1, e2]⟩
end
theorem lowest : ∀ m : Nat, m < 9 → ∀ s : Nat, s < 161 → m = 0 ∨ (R3_Mean_L2 300 300 (s : Int) (m : Int) (m : Int)).map (fun o => (o.1, o.2.1)) = some (((s / Nat.gcd m s : Nat) : Int), ((m / Nat.gcd m s : Nat) : Int)) := by decide +kernel
theorem MW.reduce {k : Nat} {l : List Cost} {s m : Nat} (h : MW k l (s : Int) (m : Int)) : MW k l ((s / Nat.gcd m s : Nat) : Int) ((m / Nat.gcd m s : Nat) : Int) := by
  have m0 := h.b0
  have hgp : 0 < Nat.gcd m s := Nat.gcd_pos_of_pos_left _ (by omega)
  have d1 : s / Nat.gcd m s * Nat.gcd m s = s := Nat.div_mul_cancel (Nat.gcd_dvd_right m s)
  have d2 : m / Nat.gcd m s * Nat.gcd m s = m := Nat.div_mul_cancel (Nat.gcd_dvd_left m s)
  have c3 : 0 < m / Nat.gcd m s := Nat.div_pos (Nat.gcd_le_left _ (by omega)) hgp
  generalize Nat.gcd m s = G at *
  generalize s / G = x at *
  generalize m / G = y at *
  have hG : (0 : Int) < (G : Int) := by omega
  have ar1 : ∀ n : Int, (s : Int) * n = (x : Int) * n * (G : Int) := fun n => by
    rw [← d1, Int.natCast_mul]; simp only [Int.mul_assoc, Int.mul_comm, Int.mul_left_comm]
  have ar2 : ∀ c : Int, c * (m : Int) = c * (y : Int) * (G : Int) := fun c => by
    rw [← d2, Int.natCast_mul]; simp only [Int.mul_assoc]
  refine ⟨by omega, fun u es h0 h1 hc => ?_, ?_⟩
  · have := h.all u es h0 h1 hc
    rw [ar1, ar2] at this
    exact Int.le_of_mul_le_mul_right this hG
  · obtain ⟨u, es, p1, p2, p3, p4, p5⟩ := h.one
    rw [ar1, ar2] at p5
    exact ⟨u, es, p1, p2, p3, p4, Int.eq_of_mul_eq_mul_right (by omega) p5⟩
theorem R3_Mean_ev {k : Nat} {l : List Cost} (hin : InC k l) (hk : k ≤ 8) (hk1 : 1 ≤ k) (hl : l.length ≤ 24) :
    (R3_Mean 300 (k : Int) l = some (0, 0) ∧ ∀ u es, 0 ≤ u → u < (k : Int) → chain l u es u → es = []) ∨ ∃ a b : Nat, R3_Mean 300 (k : Int) l = some ((a : Int), (b : Int)) ∧ MW k l (a : Int) (b : Int) ∧ Nat.gcd b a = 1 := by
  unfold R3_Mean
  obtain ⟨b, m, z, q1, q2⟩ := mean_found hin hk hl hk1
  rw [q1, Option.bind_some]
  rcases q2 with ⟨rfl, rfl, h⟩ | ⟨m1, m2, b1, b2, hM⟩
  · left
    exact ⟨rfl, h⟩
  · right
    obtain ⟨s, rfl⟩ := Int.eq_ofNat_of_zero_le b1
    obtain ⟨m, rfl⟩ := Int.eq_ofNat_of_zero_le (show 0 ≤ m by omega)
    have hlow := (lowest m (by omega) s (by omega)).resolve_left (by omega)
    refine ⟨s / Nat.gcd m s, m / Nat.gcd m s, ?_, hM.reduce, ?_⟩
    · simp only []
      rw [if_neg (by simp; omega)]
      cases ho : R3_Mean_L2 300 300 (s : Int) (m : Int) (m : Int) with
      | none => rw [ho] at hlow; cases hlow
      | some o => rw [ho] at hlow; rw [Option.bind_some]; exact hlow
    · exact Nat.gcd_div_gcd_div_gcd_of_pos_left (by omega)
theorem says_says (n : Int) (l : List Cost) : L3_MeanSays 300 n l = some true := by
  unfold L3_MeanSays
  rw [R3_Costs_ev, Option.bind_some]
  by_cases he : errC n l = 0
  · obtain ⟨k, rfl, hk1, hk8, hl24, hin⟩ := errC_zero he
    rw [if_pos (by simpa using he), Option.bind_some, if_pos rfl]
    rcases R3_Mean_ev hin hk8 hk1 hl24 with ⟨h1, h2⟩ | ⟨a, b, h1, h2, h3⟩
    · rw [h1]
      rcases least_ev (k : Int) l with ⟨he', h⟩ | ⟨_, h, _⟩ | ⟨k', a', b', _, hk', h', hM', hg'⟩
      · exact absurd he he'
      · rw [h]; simp [mErr]
      · obtain rfl : k = k' := by omega
        obtain ⟨u, es, p1, p2, p3, p4, _⟩ := hM'.one
        exact absurd (h2 u es p1 p2 p3) p4
    · rw [h1]
      rcases least_ev (k : Int) l with ⟨he', h⟩ | ⟨_, _, h⟩ | ⟨k', a', b', _, hk', h', hM', hg'⟩
      · exact absurd he he'
      · obtain ⟨u, es, p1, p2, p3, p4, _⟩ := h2.one
        exact absurd (h u es p1 p2 p3) p4
      · obtain rfl : k = k' := by omega
        obtain ⟨rfl, rfl⟩ := hM'.mw.eq h2 hg' h3
        have b0 := hM'.b0
        rw [h']
        have hb : ¬ (b : Int) = 0 := by omega
        have hb' : ¬ b = 0 := by omega
        simp [mErr, he, hb, hb']
  · rw [if_neg (by simpa using he), Option.bind_some, if_neg (by decide)]
    rcases least_ev n l with ⟨he', h⟩ | ⟨he', _, _⟩ | ⟨_, _, _, he', _⟩
    · rw [h]; simp [mErr]
    · exact absurd he' he
    · exact absurd he' he
theorem meanSays_any (w : World) (htc : TyCell w) (n : Int) (hn : (Lit.int .i64 n).wf = true) (A : Option Addr) (cap : Nat) (l : List Cost) (hr : ReadsC w w.heap.size A l) (hl : l.length ≤ maxLen) :
    Calls Tryd.prog 3 #[.int .i64 n, .slice A l.length cap] w fun e w' => e = .returned (.bool true) ∧ Below w.heap.size w w' :=
  L3_MeanSays_ok w htc cap hr (says_says n l)
end Go.Proofs.YthgejnjfikljcaaDoor
