import Derived.Test.YtekfgkeimlidhaaGreatDoorGF
import Derived.Test.YtekfgkeimlidhaaGreatDoorTree
import Derived.Test.YtekfgkeimlidhaaGreatDoorTrEv
/- plain: how far the points are from each other, by Far of the document -/
set_option linter.all false
set_option maxRecDepth 100000
namespace Go.Proofs.YtekfgkeimlidhaaGreatDoor
open Go.RowKit Pl
def ent (M : List (List Int)) (a b : Nat) : Int := (M.getD a []).getD b 0
structure Sh (k : Nat) (M : List (List Int)) : Prop where
  len : M.length = k
  row : ∀ a, a < k → (M.getD a []).length = k
theorem Sh.ix {k : Nat} {M : List (List Int)} (h : Sh k M) {a : Nat} (ha : a < k) : ix M (a : Int) = some (M.getD a []) := ix_at [] (by rw [h.len]; exact ha)
theorem Sh.ix2 {k : Nat} {M : List (List Int)} (h : Sh k M) {a b : Nat} (ha : a < k) (hb : b < k) : Proofs.YtekfgkeimlidhaaGreatDoor.ix (M.getD a []) (b : Int) = some (ent M a b) := ix_at 0 (by rw [h.row a ha]; exact hb)
theorem ent_set {k : Nat} {M : List (List Int)} (h : Sh k M) {a b : Nat} (ha : a < k) (hb : b < k) (x : Int) : Sh k (M.set a ((M.getD a []).set b x)) ∧ ∀ a' b', ent (M.set a ((M.getD a []).set b x)) a' b' = if a' = a ∧ b' = b then x else ent M a' b' := by
  have hM : a < M.length := by rw [h.len]; exact ha
  have hg : ∀ a', (M.set a ((M.getD a []).set b x)).getD a' [] = if a' = a then (M.getD a []).set b x else M.getD a' [] := fun a' => getD_set _ _ _ _ _ hM
  refine ⟨⟨by rw [List.length_set]; exact h.len, fun a' ha' => ?_⟩, fun a' b' => ?_⟩
  · rw [hg]; split
    · rw [List.length_set]; exact h.row a ha
    · exact h.row a' ha'
  · unfold ent
    rw [hg]
    by_cases e : a' = a
    · subst e
      rw [if_pos rfl, getD_set _ _ _ _ _ (by rw [h.row a' ha]; exact hb)]
      by_cases e2 : b' = b
      · rw [if_pos e2, if_pos ⟨rfl, e2⟩]
      · rw [if_neg e2, if_neg (fun c => e2 c.2)]
    · rw [if_neg e, if_neg (fun c => e c.1)]
/-- over c as well -/
def over (f : Nat → Nat → Int) (c a b : Nat) : Int := if 0 ≤ f a c ∧ 0 ≤ f c b ∧ (f a b < 0 ∨ f a c + f c b < f a b) then f a c + f c b else f a b
theorem over_c {f : Nat → Nat → Int} {c : Nat} (hc : f c c = 0) (a : Nat) : over f c a c = f a c := by unfold over; rw [hc]; split <;> omega
theorem over_r {f : Nat → Nat → Int} {c : Nat} (hc : f c c = 0) (b : Nat) : over f c c b = f c b := by unfold over; rw [hc]; split <;> omega
theorem fw_L5 {k c a : Nat} (hk : k ≤ 16) (hc : c < k) (ha : a < k) {f : Nat → Nat → Int} (hf : f c c = 0) (hB : ∀ a b, a < k → b < k → -1 ≤ f a b ∧ f a b < 1000000) : ∀ (g b : Nat) (N : List (List Int)), k < b + g → b ≤ k → Sh k N →
    (∀ a' b', a' < k → b' < k → ent N a' b' = if a' = a ∧ b' < b then over f c a b' else f a' b') → ∃ N' x, R1_Far_L5 300 (k : Int) (c : Int) (a : Int) g N (b : Int) = some (N', x) ∧ Sh k N' ∧ ∀ a' b', a' < k → b' < k → ent N' a' b' = if a' = a then over f c a b' else f a' b'
  | 0, b, N, h, hb, _, _ => by omega
  | g+1, b, N, h, hb, hN, hI => by
    rw [R1_Far_L5_s]
    by_cases hlt : b < k
    · have eac : ent N a c = f a c := by
        rw [hI a c ha hc]; split
        · exact over_c hf a
        · rfl
      have ecb : ent N c b = f c b := by rw [hI c b hc hlt, if_neg (by omega)]
      have eab : ent N a b = f a b := by rw [hI a b ha hlt, if_neg (by omega)]
      have b1 := hB a c ha hc; have b2 := hB c b hc hlt; have b3 := hB a b ha hlt
      rw [if_pos (by omega), hN.ix ha, hN.ix hc]
      simp only [Option.bind_some]
      rw [hN.ix2 ha hc, hN.ix2 hc hlt, hN.ix2 ha hlt, eac, ecb, eab]
      simp only [Option.bind_some]
      rw [w64 (x := f a c + f c b) (by omega) (by omega), w64n (by omega)]
      have keep : over f c a b = f a b → ∃ N' x, R1_Far_L5 300 (k : Int) (c : Int) (a : Int) g N ((b + 1 : Nat) : Int) = some (N', x) ∧ Sh k N' ∧ ∀ a' b', a' < k → b' < k → ent N' a' b' = if a' = a then over f c a b' else f a' b' := fun e =>
        fw_L5 hk hc ha hf hB g (b+1) N (by omega) (by omega) hN (fun a' b' h1 h2 => by
          rw [hI a' b' h1 h2]
          by_cases q : a' = a ∧ b' < b
          · rw [if_pos q, if_pos ⟨q.1, by omega⟩]
          · rw [if_neg q]
            by_cases q2 : a' = a ∧ b' < b + 1
            · rw [if_pos q2]
              have : b' = b := by omega
              subst this; rw [q2.1, e]
            · rw [if_neg q2])
      have turn : over f c a b = f a c + f c b → ∃ N' x, R1_Far_L5 300 (k : Int) (c : Int) (a : Int) g (N.set a ((N.getD a []).set b (f a c + f c b))) ((b + 1 : Nat) : Int) = some (N', x) ∧ Sh k N' ∧ ∀ a' b', a' < k → b' < k → ent N' a' b' = if a' = a then over f c a b' else f a' b' := fun e => by
        obtain ⟨s1, s2⟩ := ent_set hN ha hlt (f a c + f c b)
        refine fw_L5 hk hc ha hf hB g (b+1) _ (by omega) (by omega) s1 (fun a' b' h1 h2 => ?_)
        rw [s2, hI a' b' h1 h2]
        by_cases q : a' = a ∧ b' = b
        · rw [if_pos q, if_pos ⟨q.1, by omega⟩, q.2, e]
        · rw [if_neg q]
          by_cases q2 : a' = a ∧ b' < b
          · rw [if_pos q2, if_pos ⟨q2.1, by omega⟩]
          · rw [if_neg q2, if_neg (by omega)]
      have hst : st N (a : Int) ((N.getD a []).set b (f a c + f c b)) = some (N.set a ((N.getD a []).set b (f a c + f c b))) := st_nat (by rw [hN.len]; exact ha)
      have hst0 : st (N.getD a []) (b : Int) (f a c + f c b) = some ((N.getD a []).set b (f a c + f c b)) := st_nat (by rw [hN.row a ha]; exact hlt)
      by_cases p1 : 0 ≤ f a c
      · by_cases p2 : 0 ≤ f c b
        · by_cases p3 : f a b < 0
          · have e : over f c a b = f a c + f c b := by unfold over; rw [if_pos ⟨p1, p2, .inl p3⟩]
            obtain ⟨N', x, r1, r2⟩ := turn e
            refine ⟨N', x, ?_, r2⟩
            simp only [p1, p2, p3, if_true, Option.bind_some, hst0, hst]
            exact r1
          · by_cases p4 : f a c + f c b < f a b
            · have e : over f c a b = f a c + f c b := by unfold over; rw [if_pos ⟨p1, p2, .inr p4⟩]
              obtain ⟨N', x, r1, r2⟩ := turn e
              refine ⟨N', x, ?_, r2⟩
              simp only [p1, p2, p3, p4, if_true, if_false, Option.bind_some, hst0, hst]
              exact r1
            · have e : over f c a b = f a b := by unfold over; rw [if_neg (by omega)]
              obtain ⟨N', x, r1, r2⟩ := keep e
              refine ⟨N', x, ?_, r2⟩
              simp only [p1, p2, p3, p4, if_true, if_false, Option.bind_some, Bool.false_eq_true]
              exact r1
        · have e : over f c a b = f a b := by unfold over; rw [if_neg (by omega)]
          obtain ⟨N', x, r1, r2⟩ := keep e
          refine ⟨N', x, ?_, r2⟩
          simp only [p1, p2, if_true, if_false, Option.bind_some, Bool.false_eq_true]
          exact r1
      · have e : over f c a b = f a b := by unfold over; rw [if_neg (by omega)]
        obtain ⟨N', x, r1, r2⟩ := keep e
        refine ⟨N', x, ?_, r2⟩
        simp only [p1, if_false, Option.bind_some, Bool.false_eq_true]
        exact r1
    · rw [if_neg (by omega)]
      refine ⟨N, _, rfl, hN, fun a' b' h1 h2 => ?_⟩
      rw [hI a' b' h1 h2]
      by_cases q : a' = a
      · rw [if_pos ⟨q, by omega⟩, if_pos q]
      · rw [if_neg (fun c => q c.1), if_neg q]
theorem fw_L4 {k c : Nat} (hk : k ≤ 16) (hc : c < k) {f : Nat → Nat → Int} (hf : f c c = 0) (hB : ∀ a b, a < k → b < k → -1 ≤ f a b ∧ f a b < 400000) : ∀ (g a : Nat) (N : List (List Int)), k < a + g → a ≤ k → Sh k N →
    (∀ a' b', a' < k → b' < k → ent N a' b' = if a' < a then over f c a' b' else f a' b') → ∃ N' x, R1_Far_L4 300 (k : Int) (c : Int) g N (a : Int) = some (N', x) ∧ Sh k N' ∧ ∀ a' b', a' < k → b' < k → ent N' a' b' = over f c a' b'
  | 0, a, N, h, ha, _, _ => by omega
  | g+1, a, N, h, ha, hN, hI => by
    rw [R1_Far_L4_s]
    by_cases hlt : a < k
    · have hov : ∀ x y, x < k → y < k → -1 ≤ over f c x y ∧ over f c x y < 1000000 := fun x y hx hy => by
        have := hB x c hx hc; have := hB c y hc hy; have := hB x y hx hy
        unfold over; split <;> omega
      obtain ⟨N1, x1, r1, r2, r3⟩ := fw_L5 (f := ent N) hk hc hlt (by
          rw [hI c c hc hc]; split
          · rw [over_c hf]; exact hf
          · exact hf) (fun x y hx hy => by
          rw [hI x y hx hy]; split
          · exact hov x y hx hy
          · have := hB x y hx hy; omega) 300 0 N (by omega) (by omega) hN (fun a' b' _ _ => by rw [if_neg (by omega)])
      have hrow : ∀ b', b' < k → over (ent N) c a b' = over f c a b' := fun b' hb' => by
        have q1 : ent N a c = f a c := by rw [hI a c hlt hc, if_neg (by omega)]
        have q2 : ent N c b' = f c b' := by
          rw [hI c b' hc hb']; split
          · exact over_r hf b'
          · rfl
        have q3 : ent N a b' = f a b' := by rw [hI a b' hlt hb', if_neg (by omega)]
        unfold over; rw [q1, q2, q3]
      obtain ⟨N', x, s1, s2⟩ := fw_L4 hk hc hf hB g (a+1) N1 (by omega) (by omega) r2 (fun a' b' h1 h2 => by
        rw [r3 a' b' h1 h2]
        by_cases q : a' = a
        · subst q; rw [if_pos rfl, if_pos (by omega), hrow b' h2]
        · rw [if_neg q, hI a' b' h1 h2]
          by_cases q2 : a' < a
          · rw [if_pos q2, if_pos (by omega)]
          · rw [if_neg q2, if_neg (by omega)])
      refine ⟨N', x, ?_, s2⟩
      rw [if_pos (by omega), show R1_Far_L5 300 (k : Int) (c : Int) (a : Int) 300 N 0 = some (N1, x1) from r1, Option.bind_some, w64n (by omega)]
      exact s1
    · rw [if_neg (by omega)]
      exact ⟨N, _, rfl, hN, fun a' b' h1 h2 => by rw [hI a' b' h1 h2, if_pos (by omega)]⟩
/-- a way of so many lines, over points below m -/
inductive Wk (A : Nat → Nat → Prop) (m : Nat) : Nat → Nat → Nat → Prop
  | nil (a : Nat) : Wk A m a a 0
  | edge {a b : Nat} : A a b → Wk A m a b 1
  | cons {a c b L : Nat} : A a c → c < m → Wk A m c b L → Wk A m a b (L + 1)
theorem Wk.up {A : Nat → Nat → Prop} {m m' a b L : Nat} (h : Wk A m a b L) (hm : m ≤ m') : Wk A m' a b L := by
  induction h with
  | nil => exact .nil _
  | edge h => exact .edge h
  | cons h hc _ ih => exact .cons h (by omega) ih
theorem Wk.trans {A : Nat → Nat → Prop} {m a c b L L' : Nat} (h : Wk A m a c L) (hc : c < m) (h' : Wk A m c b L') : Wk A m a b (L + L') := by
  induction h with
  | nil => rw [Nat.zero_add]; exact h'
  | edge h => rw [Nat.add_comm]; exact .cons h hc h'
  | @cons a x c L h hx _ ih => have := Wk.cons h hx (ih hc h'); rw [show L + 1 + L' = L + L' + 1 by omega]; exact this
theorem Wk.split {A : Nat → Nat → Prop} {m a b L : Nat} (h : Wk A (m+1) a b L) : Wk A m a b L ∨ ∃ L1 L2, Wk A m a m L1 ∧ Wk A m m b L2 ∧ L1 + L2 ≤ L := by
  induction h with
  | nil => exact .inl (.nil _)
  | edge h => exact .inl (.edge h)
  | @cons a c b L h hc _ ih =>
    by_cases e : c < m
    · rcases ih with ih | ⟨L1, L2, i1, i2, i3⟩
      · exact .inl (.cons h e ih)
      · exact .inr ⟨L1 + 1, L2, .cons h e i1, i2, by omega⟩
    · have : c = m := by omega
      subst this
      rcases ih with ih | ⟨L1, L2, i1, i2, i3⟩
      · exact .inr ⟨1, L, .edge h, ih, by omega⟩
      · exact .inr ⟨1, L2, .edge h, i2, by omega⟩
theorem Wk.last {A : Nat → Nat → Prop} {m a b L : Nat} (h : Wk A m a b L) : (L = 0 ∧ a = b) ∨ ∃ i L', L = L' + 1 ∧ Wk A m a i L' ∧ A i b := by
  induction h with
  | nil => exact .inl ⟨rfl, rfl⟩
  | edge h => exact .inr ⟨_, 0, rfl, .nil _, h⟩
  | @cons a c b L h hc _ ih =>
    rcases ih with ⟨rfl, rfl⟩ | ⟨i, L', rfl, i1, i2⟩
    · exact .inr ⟨a, 0, rfl, .nil _, h⟩
    · exact .inr ⟨i, L' + 1, rfl, .cons h hc i1, i2⟩
/-- the ways over points below c are known -/
structure Flo (k : Nat) (A : Nat → Nat → Prop) (c : Nat) (f : Nat → Nat → Int) : Prop where
  bnd : ∀ a b, a < k → b < k → -1 ≤ f a b ∧ f a b ≤ 2 ^ c
  diag : ∀ a, a < k → f a a = 0
  sound : ∀ a b, a < k → b < k → 0 ≤ f a b → Wk A k a b (f a b).toNat
  all : ∀ a b L, a < k → b < k → Wk A c a b L → 0 ≤ f a b ∧ f a b ≤ L
theorem Flo.next {k : Nat} {A : Nat → Nat → Prop} {c : Nat} {f : Nat → Nat → Int} (h : Flo k A c f) (hc : c < k) : Flo k A (c+1) (over f c) := by
  have hp : (2 : Int) ^ (c + 1) = 2 ^ c + 2 ^ c := by rw [Int.pow_succ]; omega
  have hp0 : (0 : Int) < 2 ^ c := Int.pow_pos (by omega)
  refine ⟨fun a b ha hb => ?_, fun a ha => ?_, fun a b ha hb h0 => ?_, fun a b L ha hb hw => ?_⟩
  · have := h.bnd a b ha hb; have := h.bnd a c ha hc; have := h.bnd c b hc hb
    unfold over; split <;> omega
  · have := h.diag a ha
    unfold over; split <;> omega
  · unfold over at h0 ⊢
    by_cases q : 0 ≤ f a c ∧ 0 ≤ f c b ∧ (f a b < 0 ∨ f a c + f c b < f a b)
    · rw [if_pos q]
      have := (h.sound a c ha hc q.1).trans hc (h.sound c b hc hb q.2.1)
      rw [show (f a c + f c b).toNat = (f a c).toNat + (f c b).toNat by omega]
      exact this
    · rw [if_neg q] at h0 ⊢; exact h.sound a b ha hb h0
  · have hle : ∀ L', 0 ≤ f a b ∧ f a b ≤ L' → 0 ≤ over f c a b ∧ over f c a b ≤ L' := fun L' hh => by
      unfold over; split <;> omega
    rcases hw.split with hw | ⟨L1, L2, w1, w2, hL⟩
    · exact hle L (h.all a b L ha hb hw)
    · have q1 := h.all a c L1 ha hc w1
      have q2 := h.all c b L2 hc hb w2
      unfold over; split <;> omega
theorem fw_L3 {k : Nat} {A : Nat → Nat → Prop} (hk : k ≤ 16) : ∀ (g c : Nat) (N : List (List Int)), k < c + g → c ≤ k → Sh k N → Flo k A c (ent N) → ∃ N' x, R1_Far_L3 300 (k : Int) g N (c : Int) = some (N', x) ∧ Sh k N' ∧ Flo k A k (ent N')
  | 0, c, N, h, hc, _, _ => by omega
  | g+1, c, N, h, hc, hN, hF => by
    rw [R1_Far_L3_s]
    by_cases hlt : c < k
    · have hpow : (2 : Int) ^ c ≤ 65536 := by
        have : (2 : Nat) ^ c ≤ 2 ^ 16 := Nat.pow_le_pow_right (by omega) (by omega)
        have h2 : ((2 ^ c : Nat) : Int) ≤ 65536 := by omega
        simpa using h2
      obtain ⟨N1, x1, r1, r2, r3⟩ := fw_L4 (f := ent N) hk hlt (hF.diag c hlt) (fun a b ha hb => by have := hF.bnd a b ha hb; omega) 300 0 N (by omega) (by omega) hN (fun a' b' _ _ => by rw [if_neg (by omega)])
      have hF1 := hF.next hlt
      have hF2 : Flo k A (c+1) (ent N1) := ⟨fun a b ha hb => by rw [r3 a b ha hb]; exact hF1.bnd a b ha hb, fun a ha => by rw [r3 a a ha ha]; exact hF1.diag a ha, fun a b ha hb h0 => by rw [r3 a b ha hb] at h0 ⊢; exact hF1.sound a b ha hb h0, fun a b L ha hb hw => by rw [r3 a b ha hb]; exact hF1.all a b L ha hb hw⟩
      obtain ⟨N', x, s1, s2⟩ := fw_L3 hk g (c+1) N1 (by omega) (by omega) r2 hF2
      refine ⟨N', x, ?_, s2⟩
      rw [if_pos (by omega), show R1_Far_L4 300 (k : Int) (c : Int) 300 N 0 = some (N1, x1) from r1, Option.bind_some, w64n (by omega)]
      exact s1
    · rw [if_neg (by omega)]
      have : c = k := by omega
      subst this
      exact ⟨N, _, rfl, hN, hF⟩
end Go.Proofs.YtekfgkeimlidhaaGreatDoor
/- plain: the document's Tree, Way -/
set_option linter.all false
set_option maxRecDepth 100000
namespace Go.Proofs.YtekfgkeimlidhaaGreatDoor
open Go.RowKit Pl
theorem besL_ad {k : Nat} {l : List (Int × Int)} (hin : InL k l) (a b : Nat) : besL l (a : Int) (b : Int) = true ↔ Ad k l a b := by
  rw [ad_iff hin]
  unfold besL goes
  rw [Bool.or_eq_true, List.any_eq_true, List.any_eq_true]
  constructor
  · rintro (⟨p, hp, hh⟩ | ⟨p, hp, hh⟩)
    · simp at hh; exact ⟨p, hp, .inl hh⟩
    · simp at hh; exact ⟨p, hp, .inr hh⟩
  · rintro ⟨p, hp, hh | hh⟩
    · exact .inl ⟨p, hp, by simp; exact hh⟩
    · exact .inr ⟨p, hp, by simp; exact hh⟩
def ini (l : List (Int × Int)) (a b : Nat) : Int := if a = b then 0 else if besL l (a : Int) (b : Int) = true then 1 else -1
theorem fw_L2 {k a : Nat} {l : List (Int × Int)} (hk : k ≤ 16) (hl : l.length < 300) : ∀ (g b : Nat) (v : List Int), k < b + g → b ≤ k → v.length = k → (∀ j, j < b → v.getD j 0 = ini l a j) →
    ∃ v' x, R1_Far_L2 300 (k : Int) l true (-1) (a : Int) g v (b : Int) = some (v', x) ∧ v'.length = k ∧ ∀ j, j < k → v'.getD j 0 = ini l a j
  | 0, b, v, h, hb, _, _ => by omega
  | g+1, b, v, h, hb, hv, hI => by
    rw [R1_Far_L2_s]
    by_cases hlt : b < k
    · rw [if_pos (by omega), st_nat (by omega), Option.bind_some, w64n (by omega)]
      have hg1 : ∀ x j, ((v.set b (-1)).set b x).getD j 0 = if j = b then x else v.getD j 0 := fun x j => by
        rw [getD_set _ _ _ _ _ (by rw [List.length_set]; omega)]
        split
        · rfl
        · rename_i c; rw [getD_set _ _ _ _ _ (by omega), if_neg c]
      have hg2 : ∀ j, (v.set b (-1)).getD j 0 = if j = b then -1 else v.getD j 0 := fun j => getD_set _ _ _ _ _ (by omega)
      by_cases e : a = b
      · subst e
        rw [if_pos (by simp), st_nat (by rw [List.length_set]; omega), Option.bind_some]
        refine fw_L2 hk hl g (a+1) _ (by omega) (by omega) (by simp; exact hv) (fun j hj => ?_)
        rw [hg1]
        by_cases q : j = a
        · rw [if_pos q, q]; unfold ini; rw [if_pos rfl]
        · rw [if_neg q]; exact hI j (by omega)
      · have e1 : ¬ (((a : Int) == (b : Int)) = true) := by simp; omega
        have e2 : ((a : Int) != -1) = true := bne_iff_ne.2 (by omega)
        have e3 : ((b : Int) != -1) = true := bne_iff_ne.2 (by omega)
        rw [if_neg e1, if_pos e2, if_pos e3]
        simp only [Option.bind_some, if_true]
        rw [R1_Goes_ev _ _ hl (by omega), R1_Goes_ev _ _ hl (by omega)]
        simp only [Option.bind_some]
        have yes : besL l (a : Int) (b : Int) = true → ∃ v' x, ((st (v.set b (-1)) (b : Int) 1).bind fun y8 => R1_Far_L2 300 (k : Int) l true (-1) (a : Int) g y8 ((b + 1 : Nat) : Int)) = some (v', x) ∧ v'.length = k ∧ ∀ j, j < k → v'.getD j 0 = ini l a j := fun hb1 => by
          rw [st_nat (by rw [List.length_set]; omega), Option.bind_some]
          refine fw_L2 hk hl g (b+1) _ (by omega) (by omega) (by simp; exact hv) (fun j hj => ?_)
          rw [hg1]
          by_cases q : j = b
          · rw [if_pos q, q]; unfold ini; rw [if_neg e, if_pos hb1]
          · rw [if_neg q]; exact hI j (by omega)
        by_cases h1 : goes l (a : Int) (b : Int) = true
        · rw [h1]; simp only [if_true, Option.bind_some]
          exact yes (by unfold besL; rw [h1]; rfl)
        · by_cases h2 : goes l (b : Int) (a : Int) = true
          · have h1' : goes l (a : Int) (b : Int) = false := by simpa using h1
            rw [h1', h2]; simp only [if_true, Option.bind_some, Bool.false_eq_true, if_false]
            exact yes (by unfold besL; rw [h1', h2]; rfl)
          · have h1' : goes l (a : Int) (b : Int) = false := by simpa using h1
            have h2' : goes l (b : Int) (a : Int) = false := by simpa using h2
            rw [h1', h2']; simp only [Option.bind_some, Bool.false_eq_true, if_false]
            refine fw_L2 hk hl g (b+1) _ (by omega) (by omega) (by simp; exact hv) (fun j hj => ?_)
            rw [hg2]
            by_cases q : j = b
            · rw [if_pos q, q]; unfold ini besL; rw [if_neg e, h1', h2']; rfl
            · rw [if_neg q]; exact hI j (by omega)
    · rw [if_neg (by omega)]
      exact ⟨v, _, rfl, hv, fun j hj => hI j (by omega)⟩
theorem fw_L1 {k : Nat} {l : List (Int × Int)} (hk : k ≤ 16) (hl : l.length < 300) : ∀ (g a : Nat) (M : List (List Int)), k < a + g → a ≤ k → M.length = a → (∀ a', a' < a → (M.getD a' []).length = k ∧ ∀ b, b < k → ent M a' b = ini l a' b) →
    ∃ M' x, R1_Far_L1 300 (k : Int) l true (-1) g M (a : Int) = some (M', x) ∧ Sh k M' ∧ ∀ a b, a < k → b < k → ent M' a b = ini l a b
  | 0, a, M, h, ha, _, _ => by omega
  | g+1, a, M, h, ha, hM, hI => by
    rw [R1_Far_L1_s]
    by_cases hlt : a < k
    · have hmk : mkI (k : Int) = some (List.replicate k 0) := by unfold mkI; rw [if_pos (by omega), Int.toNat_natCast]
      obtain ⟨v, x, r1, r2, r3⟩ := fw_L2 (a := a) hk hl 300 0 (List.replicate k 0) (by omega) (by omega) (by simp) (fun j hj => by omega)
      rw [if_pos (by omega), hmk, Option.bind_some, show R1_Far_L2 300 (k : Int) l true (-1) (a : Int) 300 (List.replicate k 0) 0 = some (v, x) from r1, Option.bind_some]
      unfold app
      rw [if_pos (by omega), Option.bind_some, w64n (by omega)]
      have hg : ∀ a', (M ++ [v]).getD a' [] = if a' < a then M.getD a' [] else if a' = a then v else [] := fun a' => by
        rw [List.getD_eq_getElem?_getD, List.getElem?_append]
        by_cases q : a' < a
        · rw [if_pos (by omega), if_pos q, List.getD_eq_getElem?_getD]
        · rw [if_neg (by omega), if_neg q]
          by_cases q2 : a' = a
          · rw [if_pos q2, q2, hM, Nat.sub_self]; rfl
          · rw [if_neg q2, List.getElem?_eq_none (by simp; omega)]; rfl
      refine fw_L1 hk hl g (a+1) (M ++ [v]) (by omega) (by omega) (by simp; omega) (fun a' ha' => ?_)
      unfold ent
      rw [hg]
      by_cases q : a' < a
      · rw [if_pos q]; exact hI a' q
      · rw [if_neg q, if_pos (by omega)]
        have : a' = a := by omega
        subst this
        exact ⟨r2, r3⟩
    · rw [if_neg (by omega)]
      have : a = k := by omega
      subst this
      exact ⟨M, _, rfl, ⟨hM, fun a' ha' => (hI a' ha').1⟩, fun a' b ha' hb => (hI a' ha').2 b hb⟩
theorem far_mat {k : Nat} {l : List (Int × Int)} (hk : k ≤ 16) (hl : l.length < 300) (hin : InL k l) : ∃ M, R1_Far 300 (k : Int) l true (-1) = some M ∧ Sh k M ∧ ∀ a, a < k → Far k (Ad k l) a (M.getD a []) := by
  obtain ⟨M0, x0, r1, r2, r3⟩ := fw_L1 hk hl 300 0 [] (by omega) (by omega) rfl (fun a' h => by omega)
  have h0 : Flo k (Ad k l) 0 (ent M0) := by
    refine ⟨fun a b ha hb => ?_, fun a ha => ?_, fun a b ha hb hh => ?_, fun a b L ha hb hw => ?_⟩
    · rw [r3 a b ha hb]; unfold ini; split
      · simp
      · split <;> simp
    · rw [r3 a a ha ha]; unfold ini; rw [if_pos rfl]
    · rw [r3 a b ha hb] at hh ⊢
      unfold ini at hh ⊢
      by_cases e : a = b
      · subst e; rw [if_pos rfl]; exact .nil _
      · rw [if_neg e] at hh ⊢
        by_cases q : besL l (a : Int) (b : Int) = true
        · rw [if_pos q]; exact .edge ((besL_ad hin a b).1 q)
        · rw [if_neg q] at hh; omega
    · rw [r3 a b ha hb]
      unfold ini
      cases hw with
      | nil => rw [if_pos rfl]; omega
      | edge h =>
        by_cases e : a = b
        · rw [if_pos e]; omega
        · rw [if_neg e, if_pos ((besL_ad hin a b).2 h)]; omega
      | cons _ hc _ => omega
  obtain ⟨M, x, s1, s2, s3⟩ := fw_L3 hk 300 0 M0 (by omega) (by omega) r2 h0
  refine ⟨M, ?_, s2, fun a ha => ?_⟩
  · unfold R1_Far
    rw [show R1_Far_L1 300 (k : Int) l true (-1) 300 [] 0 = some (M0, x0) from r1, Option.bind_some, show R1_Far_L3 300 (k : Int) 300 M0 0 = some (M, x) from s1]
    rfl
  · have step : ∀ i j, i < k → 0 ≤ ent M a i → Ad k l i j → 0 ≤ ent M a j ∧ ent M a j ≤ ent M a i + 1 := fun i j hi h0 hij => by
      have h1 := (s3.sound a i ha hi h0).trans hi (.edge hij)
      have h2 := s3.all a j _ ha (ad_lt hin hij).2 h1
      omega
    refine ⟨s2.row a ha, fun j hj => (s3.bnd a j ha hj).1, s3.diag a ha, step, fun j hj h0 => ?_⟩
    rcases (s3.sound a j ha hj h0).last with ⟨_, e⟩ | ⟨i, L', e, w, hij⟩
    · exact .inl e.symm
    · have hi := (ad_lt hin hij).1
      have h1 := s3.all a i L' ha hi w
      have h2 := step i j hi h1.1 hij
      have h0' : 0 ≤ ent M a j := h0
      exact .inr ⟨i, hi, hij, h1.1, by show ent M a j = ent M a i + 1; omega⟩
theorem far_le {k : Nat} {A : Nat → Nat → Prop} {a : Nat} {o o' : List Int} (hA : ∀ i j, A i j → i < k ∧ j < k) (h : Far k A a o) (h' : Far k A a o') : ∀ n j, j < k → o.getD j 0 = (n : Nat) → 0 ≤ o'.getD j 0 ∧ o'.getD j 0 ≤ n := by
  intro n
  induction n with
  | zero =>
    intro j hj e
    rcases h.down j hj (by omega) with rfl | ⟨i, hi, hij, h0, e2⟩
    · rw [h'.start]; omega
    · omega
  | succ n ih =>
    intro j hj e
    rcases h.down j hj (by omega) with rfl | ⟨i, hi, hij, h0, e2⟩
    · rw [h'.start]; omega
    · have h1 := ih i hi (by omega)
      have h2 := h'.step i j hi h1.1 hij
      omega
theorem far_uniq {k : Nat} {A : Nat → Nat → Prop} {a : Nat} {o o' : List Int} (hA : ∀ i j, A i j → i < k ∧ j < k) (h : Far k A a o) (h' : Far k A a o') (j : Nat) (hj : j < k) : o.getD j 0 = o'.getD j 0 := by
  have l1 := h.low j hj; have l2 := h'.low j hj
  by_cases c : 0 ≤ o.getD j 0
  · have h1 := far_le hA h h' _ j hj (Int.toNat_of_nonneg c).symm
    have h2 := far_le hA h' h _ j hj (Int.toNat_of_nonneg h1.1).symm
    omega
  · by_cases c' : 0 ≤ o'.getD j 0
    · have := far_le hA h' h _ j hj (Int.toNat_of_nonneg c').symm
      omega
    · omega
theorem conn_far {k : Nat} {l : List (Int × Int)} (hin : InL k l) (hk : 0 < k) {o : List Int} (h : Far k (Ad k l) 0 o) : Conn k l ↔ ∀ j, j < k → 0 ≤ o.getD j 0 := by
  constructor
  · intro hc
    exact hc (fun i => 0 ≤ o.getD i 0) (by rw [h.start]; omega) (fun i j hi hij => (h.step i j (ad_lt hin hij).1 hi hij).1)
  · intro hall P hP hs
    have key : ∀ n j, j < k → o.getD j 0 = (n : Nat) → P j := by
      intro n
      induction n with
      | zero =>
        intro j hj e
        rcases h.down j hj (by omega) with rfl | ⟨i, hi, hij, h0, e2⟩
        · exact hP
        · omega
      | succ n ih =>
        intro j hj e
        rcases h.down j hj (by omega) with rfl | ⟨i, hi, hij, h0, e2⟩
        · exact hP
        · exact hs i j (ih i hi (by omega)) hij
    intro i hi
    exact key _ i hi (Int.toNat_of_nonneg (hall i hi)).symm
end Go.Proofs.YtekfgkeimlidhaaGreatDoor
