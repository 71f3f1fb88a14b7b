import Derived.Test.YtlecmgdkoanghaaDoorLaE
import Derived.Test.YtlecmgdkoanghaaDoorCsA
/- plain: the document's least number of colours, its order and its colours -/
set_option linter.all false
set_option maxRecDepth 100000
namespace Go.Proofs.YtlecmgdkoanghaaDoor
open Go.RowKit Go.Shelf Pl
/-! ### Enough, Least -/
theorem en_L2 {l : List (Int × Int)} (hl : l.length ≤ 24) (rec : Int → List (Int × Int) → List Int → Int → Option Bool) {o : List Nat} (ho : o.length ≤ 8) (c : Nat) : ∀ (g j : Nat) (b : Bool), o.length < j + g → j ≤ o.length →
    ∃ x, R3_Enough_L2 300 rec l (rowN o) (o.length : Int) (c : Int) g b (j : Int) = some ((b && (List.range' j (o.length - j)).all fun j => !(aL l o.length j && o.getD j 0 == c)), x)
  | 0, j, b, h, hj => by omega
  | g+1, j, b, h, hj => by
    rw [R3_Enough_L2_s]
    by_cases hlt : j < o.length
    · have e : List.range' j (o.length - j) = j :: List.range' (j+1) (o.length - (j+1)) := by
        rw [show o.length - j = (o.length - (j+1)) + 1 by omega, List.range'_succ]
      unfold rowN
      rw [if_pos (by omega), ix_map hlt, Option.bind_some, w64n (by omega), R1_Beside_ev _ _ (by omega) (by omega), e, List.all_cons]
      have hq : (((o.getD j 0 : Nat) : Int) == (c : Int)) = (o.getD j 0 == c) := by rw [Bool.eq_iff_iff, beq_iff_eq, beq_iff_eq]; omega
      have hb : besL l (o.length : Int) (j : Int) = aL l o.length j := rfl
      rw [hq, hb]
      obtain ⟨x1, h1⟩ := en_L2 hl rec ho c g (j+1) b (by omega) (by omega)
      obtain ⟨x2, h2⟩ := en_L2 hl rec ho c g (j+1) false (by omega) (by omega)
      unfold rowN at h1 h2
      cases e1 : (o.getD j 0 == c)
      · rw [if_neg (by decide), Option.bind_some, if_neg (by decide), h1, Bool.and_false]
        exact ⟨x1, by simp⟩
      · rw [if_pos rfl, Option.bind_some]
        cases e2 : aL l o.length j
        · rw [if_neg (by decide), Option.bind_some, if_neg (by decide), h1]
          exact ⟨x1, by simp⟩
        · rw [if_pos rfl, Option.bind_some, if_pos rfl, h2]
          exact ⟨x2, by simp⟩
    · have : j = o.length := by omega
      subst this
      rw [if_neg (by omega), Nat.sub_self]
      exact ⟨_, by simp; rfl⟩
theorem behind_ev (o : List Nat) (c : Nat) (ho : o.length ≤ 100) : R1_Behind 300 (rowN o) (c : Int) = some (rowN (o ++ [c])) := by
  unfold R1_Behind
  unfold appL app rowN
  simp only [List.length_nil, List.length_map, List.nil_append]
  rw [if_pos (by omega), Option.bind_some, List.length_map, if_pos (by omega)]
  simp
theorem en_L1 {l : List (Int × Int)} (hl : l.length ≤ 24) (k d : Nat) (rec : Int → List (Int × Int) → List Int → Int → Option Bool) {o : List Nat} (ho : o.length ≤ 8) (many : Nat) (hm : many ≤ 100)
    (hr : ∀ c, rec (k : Int) l (rowN (o ++ [c])) (many : Int) = some (canM (aL l) many d (o ++ [c]))) : ∀ (g c : Nat), many < c + g → c ≤ many →
    ∃ x : Int ⊕ Bool, R3_Enough_L1 300 rec (k : Int) l (rowN o) (many : Int) (o.length : Int) g (c : Int) = some x ∧ (match x with | .inr r => some r | .inl _ => some false) = some ((List.range' c (many - c)).any fun c => (List.range' 0 o.length).all (fun j => !(aL l o.length j && o.getD j 0 == c)) && canM (aL l) many d (o ++ [c]))
  | 0, c, h, hc => by omega
  | g+1, c, h, hc => by
    rw [R3_Enough_L1_s]
    by_cases hlt : c < many
    · obtain ⟨x, hx⟩ := en_L2 hl rec ho c 300 0 true (by omega) (by omega)
      have e : List.range' c (many - c) = c :: List.range' (c+1) (many - (c+1)) := by
        rw [show many - c = (many - (c+1)) + 1 by omega, List.range'_succ]
      rw [if_pos (by omega), show R3_Enough_L2 300 rec l (rowN o) (o.length : Int) (c : Int) 300 true 0 = _ from hx, Option.bind_some, w64n (by omega), behind_ev o c (by omega), e, List.any_cons, Bool.true_and, Nat.sub_zero]
      dsimp only
      obtain ⟨y, y1, y2⟩ := en_L1 hl k d rec ho many hm hr g (c+1) (by omega) (by omega)
      cases e1 : ((List.range' 0 o.length).all fun j => !(aL l o.length j && o.getD j 0 == c))
      · rw [if_neg (by decide), Option.bind_some, if_neg (by decide), Bool.false_and, Bool.false_or]
        exact ⟨y, y1, y2⟩
      · rw [if_pos rfl, Option.bind_some, hr, Option.bind_some, Bool.true_and]
        cases e2 : canM (aL l) many d (o ++ [c])
        · rw [if_neg (by decide), Option.bind_some, if_neg (by decide), Bool.false_or]
          exact ⟨y, y1, y2⟩
        · rw [if_pos rfl, Option.bind_some, if_pos rfl, Bool.true_or]
          exact ⟨_, rfl, rfl⟩
    · have : c = many := by omega
      subst this
      rw [if_neg (by omega), Nat.sub_self]
      exact ⟨_, rfl, rfl⟩
theorem enough_ev {l : List (Int × Int)} (hl : l.length ≤ 24) {k : Nat} (h8 : k ≤ 8) (many : Nat) (hm : many ≤ 100) : ∀ (d' d : Nat) (o : List Nat), d < d' → o.length + d = k →
    R3_Enough 300 d' (k : Int) l (rowN o) (many : Int) = some (canM (aL l) many d o)
  | 0, d, o, h, _ => by omega
  | d'+1, d, o, h, ho => by
    have hlen : (rowN o).length = o.length := by unfold rowN; rw [List.length_map]
    rw [R3_Enough_s, hlen]
    cases d with
    | zero => rw [if_pos (by rw [beq_iff_eq]; omega)]; rfl
    | succ d =>
      obtain ⟨x, x1, x2⟩ := en_L1 hl k d (R3_Enough 300 d') (o := o) (by omega) many hm (fun c => enough_ev hl h8 many hm d' d (o ++ [c]) (by omega) (by simp; omega)) 300 0 (by omega) (by omega)
      rw [if_neg (by rw [beq_iff_eq]; omega), show R3_Enough_L1 300 (R3_Enough 300 d') (k : Int) l (rowN o) (many : Int) (o.length : Int) 300 0 = _ from x1, Option.bind_some]
      rw [Nat.sub_zero] at x2
      exact x2
theorem least3_L1 {l : List (Int × Int)} (hl : l.length ≤ 24) {k : Nat} (h1 : 1 ≤ k) (h8 : k ≤ 8) : ∀ (g' g m : Nat), g < g' → g + m = k → R3_Least_L1 300 (k : Int) l g' (m : Int) = some ((chiFrom (aL l) k g m : Nat) : Int)
  | 0, g, m, h, _ => by omega
  | g'+1, g, m, h, hm => by
    have he := enough_ev hl h8 m (by omega) 300 k [] (by omega) (by simp)
    rw [R3_Least_L1_s, show R3_Enough 300 300 (k : Int) l [] (m : Int) = _ from he, Option.bind_some, w64n (by omega)]
    cases g with
    | zero => rw [show m = k by omega, can_all]; rfl
    | succ g =>
      unfold chiFrom
      cases canM (aL l) m k []
      · simpa using least3_L1 hl h1 h8 g' g (m+1) (by omega) (by omega)
      · rfl
theorem least3_ev {l : List (Int × Int)} (hl : l.length ≤ 24) {k : Nat} (h1 : 1 ≤ k) (h8 : k ≤ 8) : R3_Least 300 (k : Int) l = some ((chi (aL l) k : Nat) : Int) := by
  have e := least3_L1 hl h1 h8 300 k 0 (by omega) (by omega)
  unfold R3_Least
  rw [show R3_Least_L1 300 (k : Int) l 300 0 = _ from e]
  have h0 : canM (aL l) 0 k [] = false := by
    obtain ⟨j, rfl⟩ : ∃ j, k = j + 1 := ⟨k - 1, by omega⟩
    rfl
  have : chiFrom (aL l) k k 0 = chi (aL l) k := by
    unfold chi
    obtain ⟨j, rfl⟩ : ∃ j, k = j + 1 := ⟨k - 1, by omega⟩
    rw [chiFrom, if_neg (by rw [h0]; decide)]; rfl
  rw [this]; rfl
/-! ### Colours -/
theorem co_L3 {l : List (Int × Int)} (hl : l.length ≤ 24) {os : List Nat} {out : List Int} {k t v : Nat} (h8 : k ≤ 8) (hol : os.length = k) (hok : ∀ x ∈ os, x < k) (hlen : out.length = k) (ht : t ≤ k) (c : Int) : ∀ (g j : Nat) (b : Bool), t < j + g → j ≤ t →
    ∃ x, R3_Colours_L3 300 l (rowN os) out (t : Int) (v : Int) c g b (j : Int) = some ((b && (List.range' j (t - j)).all fun j => !(aL l v (os.getD j 0) && out.getD (os.getD j 0) 0 == c)), x)
  | 0, j, b, h, hj => by omega
  | g+1, j, b, h, hj => by
    rw [R3_Colours_L3_s]
    by_cases hlt : j < t
    · have e : List.range' j (t - j) = j :: List.range' (j+1) (t - (j+1)) := by
        rw [show t - j = (t - (j+1)) + 1 by omega, List.range'_succ]
      have hoj : os.getD j 0 < k := by
        have : os.getD j 0 = os[j]'(by omega) := by simp [List.getD, show j < os.length by omega]
        rw [this]; exact hok _ (List.getElem_mem _)
      unfold rowN
      rw [if_pos (by omega), ix_map (by omega), Option.bind_some, Option.bind_some, w64n (by omega), R1_Beside_ev _ _ (by omega) (by omega), Option.bind_some, e, List.all_cons]
      have hb : besL l (v : Int) ((os.getD j 0 : Nat) : Int) = aL l v (os.getD j 0) := rfl
      rw [hb]
      obtain ⟨x1, h1⟩ := co_L3 (v := v) hl h8 hol hok hlen ht c g (j+1) b (by omega) (by omega)
      obtain ⟨x2, h2⟩ := co_L3 (v := v) hl h8 hol hok hlen ht c g (j+1) false (by omega) (by omega)
      unfold rowN at h1 h2
      cases e1 : aL l v (os.getD j 0)
      · rw [if_neg (by decide), Option.bind_some, if_neg (by decide), h1]
        exact ⟨x1, by simp⟩
      · rw [if_pos rfl, ix_at 0 (by omega), Option.bind_some]
        cases e2 : (out.getD (os.getD j 0) 0 == c)
        · rw [if_neg (by decide), Option.bind_some, if_neg (by decide), h1]
          exact ⟨x1, by simp⟩
        · rw [if_pos rfl, Option.bind_some, if_pos rfl, h2]
          exact ⟨x2, by simp⟩
    · have : j = t := by omega
      subst this
      rw [if_neg (by omega), Nat.sub_self]
      exact ⟨_, by simp; rfl⟩
theorem co_L2 {l : List (Int × Int)} (hl : l.length ≤ 24) {os : List Nat} {out fin : List Int} {k t : Nat} (h8 : k ≤ 8) (hol : os.length = k) (hok : ∀ x ∈ os, x < k) (hlen : out.length = k) (ht : t < k) (G : Gr (aL l) os k k fin)
    (hag : ∀ r, r < t → out.getD (os.getD r 0) 0 = fin.getD (os.getD r 0) (-1)) {z : Nat} (hz : fin.getD (os.getD t 0) (-1) = (z : Int)) : ∀ (g c : Nat), z < c + g → c ≤ z →
    R3_Colours_L2 300 l (rowN os) out (t : Int) ((os.getD t 0 : Nat) : Int) g (c : Int) = some (z : Int)
  | 0, c, h, hc => by omega
  | g+1, c, h, hc => by
    obtain ⟨c', q1, q2, q3, q4⟩ := G.co t ht
    have : c' = z := by rw [hz] at q1; exact (Int.ofNat.inj q1).symm
    subst this
    obtain ⟨x, hx⟩ := co_L3 (v := os.getD t 0) hl h8 hol hok hlen (Nat.le_of_lt ht) (c : Int) 300 0 true (by omega) (by omega)
    rw [R3_Colours_L2_s, show R3_Colours_L3 300 l (rowN os) out (t : Int) ((os.getD t 0 : Nat) : Int) (c : Int) 300 true 0 = _ from hx, Option.bind_some, Bool.true_and, Nat.sub_zero, w64n (by omega)]
    dsimp only
    by_cases e : c = c'
    · subst e
      rw [if_pos]
      rw [List.all_eq_true]
      intro j hj
      have hjt : j < t := by have := List.mem_range'_1.1 hj; omega
      cases ha : aL l (os.getD t 0) (os.getD j 0)
      · rfl
      · rw [Bool.true_and, hag j hjt, beq_eq_false_iff_ne.2 (q4 j hjt ha)]; rfl
    · rw [if_neg]
      · exact co_L2 hl h8 hol hok hlen ht G hag hz g (c+1) (by omega) (by omega)
      · intro q
        obtain ⟨r, r1, r2, r3⟩ := q3 c (by omega)
        have := List.all_eq_true.1 q r (List.mem_range'_1.2 ⟨by omega, by omega⟩)
        rw [r2, hag r r1, r3] at this
        simp at this
theorem co_L1 {l : List (Int × Int)} (hl : l.length ≤ 24) {os : List Nat} {fin : List Int} {k : Nat} (h8 : k ≤ 8) (hol : os.length = k) (hok : ∀ x ∈ os, x < k) (hn : os.Nodup) (G : Gr (aL l) os k k fin) : ∀ (g t : Nat) (out : List Int), k < t + g → t ≤ k → out.length = k → (∀ r, r < t → out.getD (os.getD r 0) 0 = fin.getD (os.getD r 0) (-1)) →
    ∃ x, R3_Colours_L1 300 (k : Int) l (rowN os) g out (t : Int) = some (fin, x)
  | 0, t, out, h, ht, _, _ => by omega
  | g+1, t, out, h, ht, hlen, hag => by
    rw [R3_Colours_L1_s]
    by_cases hlt : t < k
    · obtain ⟨z, q1, q2, q3, q4⟩ := G.co t hlt
      have hoj : os.getD t 0 < k := by
        have : os.getD t 0 = os[t]'(by omega) := by simp [List.getD, show t < os.length by omega]
        rw [this]; exact hok _ (List.getElem_mem _)
      have e2 := co_L2 hl h8 hol hok hlen hlt G hag q1 300 0 (by omega) (by omega)
      have e1 : ix (rowN os) (t : Int) = some ((os.getD t 0 : Nat) : Int) := ix_map (by omega)
      rw [if_pos (by omega), e1, Option.bind_some, show R3_Colours_L2 300 l (rowN os) out (t : Int) ((os.getD t 0 : Nat) : Int) 300 0 = _ from e2, Option.bind_some, st_nat (by omega), Option.bind_some, w64n (by omega)]
      refine co_L1 hl h8 hol hok hn G g (t+1) _ (by omega) (by omega) (by rw [List.length_set]; exact hlen) fun r hr => ?_
      rw [getD_set _ _ _ _ _ (by omega)]
      by_cases e : r = t
      · subst e; rw [if_pos rfl, q1]
      · rw [if_neg fun q => e (getD_inj hn (by omega) (by omega) q)]
        exact hag r (by omega)
    · have : t = k := by omega
      subst this
      rw [if_neg (by omega)]
      have hfo : fin = out := by
        refine List.ext_getElem (by rw [G.len, hlen]) fun v hv1 hv2 => ?_
        obtain ⟨s, s1, s2⟩ := pos_of hol hok hn (v := v) (by omega)
        have := hag s s1
        rw [s2] at this
        simpa [List.getD, hv1, hv2] using this.symm
      exact ⟨_, by rw [hfo]⟩
theorem colours_ev {l : List (Int × Int)} (hl : l.length ≤ 24) {os : List Nat} {fin : List Int} {k : Nat} (h8 : k ≤ 8) (hol : os.length = k) (hok : ∀ x ∈ os, x < k) (hn : os.Nodup) (G : Gr (aL l) os k k fin) : R3_Colours 300 (k : Int) l (rowN os) = some fin := by
  obtain ⟨x, hx⟩ := co_L1 hl h8 hol hok hn G 300 0 (List.replicate k 0) (by omega) (by omega) List.length_replicate (fun r hr => by omega)
  unfold R3_Colours mkI
  rw [if_pos (by omega), Option.bind_some, Int.toNat_natCast, show R3_Colours_L1 300 (k : Int) l (rowN os) 300 (List.replicate k 0) 0 = _ from hx]; rfl
/-! ### Twice -/
theorem tw_L1 {os : List Int} (hl : os.length < 300) : ∀ (g j : Nat), os.length < j + g → j ≤ os.length → (os.take j).Nodup →
    (∃ x, R1_Twice_L1 300 os g (j : Int) = some (.inl x) ∧ os.Nodup) ∨ (R1_Twice_L1 300 os g (j : Int) = some (.inr true) ∧ ¬ os.Nodup)
  | 0, j, h, hj, _ => by omega
  | g+1, j, h, hj, hn => by
    rw [R1_Twice_L1_s]
    by_cases hlt : j < os.length
    · have htk : tk os (j : Int) = some (os.take j) := by unfold tk; rw [if_pos (by omega), Int.toNat_natCast]
      rw [if_pos (by omega), htk, Option.bind_some, ix_nat hlt, Option.bind_some, R1_Has_ev _ (by rw [List.length_take]; omega) (by rw [List.length_take]; omega), Option.bind_some, w64n (by omega)]
      have hs : os.take (j+1) = os.take j ++ [os[j]] := by rw [List.take_succ_eq_append_getElem hlt]
      by_cases hm : os[j] ∈ os.take j
      · rw [decide_eq_true hm, if_pos rfl]
        refine .inr ⟨rfl, fun q => ?_⟩
        have : (os.take (j+1)).Nodup := List.Nodup.sublist (List.take_sublist _ _) q
        rw [hs, List.nodup_append] at this
        exact this.2.2 _ hm _ (List.mem_singleton.2 rfl) rfl
      · rw [decide_eq_false hm, if_neg (by decide)]
        refine tw_L1 hl g (j+1) (by omega) (by omega) ?_
        rw [hs, List.nodup_append]
        exact ⟨hn, by simp, fun x hx y hy e => by rw [List.mem_singleton.1 hy] at e; subst e; exact hm hx⟩
    · have : j = os.length := by omega
      subst this
      rw [if_neg (by omega)]
      rw [List.take_length] at hn
      exact .inl ⟨_, rfl, hn⟩
theorem twice_ev {os : List Int} (hl : os.length < 300) : (R1_Twice 300 os = some false ∧ os.Nodup) ∨ (R1_Twice 300 os = some true ∧ ¬ os.Nodup) := by
  unfold R1_Twice
  rcases tw_L1 hl 300 0 (by omega) (by omega) (by simp) with ⟨x, q1, q2⟩ | ⟨q1, q2⟩
  · rw [show R1_Twice_L1 300 os 300 0 = _ from q1]; exact .inl ⟨rfl, q2⟩
  · rw [show R1_Twice_L1 300 os 300 0 = _ from q1]; exact .inr ⟨rfl, q2⟩
end Go.Proofs.YtlecmgdkoanghaaDoor
