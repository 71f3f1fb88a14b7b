import Derived.Test.YtgihnflaikmakaaMP
import Derived.Test.YtgihnflaikmakaaF5
import Derived.Test.YtgihnflaikmakaaF6
/- what holds of the ways, over the models -/
set_option linter.all false
set_option maxRecDepth 100000
namespace Go.Proofs.Ytgihnflaikmakaa
open Go.RowKit Pl
theorem check_ev {k : Nat} {l : List (Int × Int)} {a b : Int} (hg : good (k : Int) l) (he : errG (k : Int) l = 0) (hk : k ≤ 8) (hk1 : 1 ≤ k) :
    menger_check 100 (k : Int) l a b = some (if 0 ≤ a ∧ a < k ∧ 0 ≤ b ∧ b < k then (if a = b then 3 else 0) else 1) := by
  unfold menger_check
  rw [mCheck_ev hg, he, Option.bind_some, if_neg (by simp), core_All_ev 0 _ (by simp) (by simp), Option.bind_some, w64 (by omega) (by omega)]
  have e : allIn [a, b] 0 ((k : Int) - 1) = decide (0 ≤ a ∧ a < k ∧ 0 ≤ b ∧ b < k) := by
    rw [Bool.eq_iff_iff]; simp [allIn]; omega
  rw [e]
  by_cases h : 0 ≤ a ∧ a < k ∧ 0 ≤ b ∧ b < k
  · rw [if_pos (by simpa using h), if_pos h]
    by_cases h2 : a = b
    · rw [if_pos (by simpa using h2), if_pos h2]
    · rw [if_neg (by simpa using h2), if_neg h2]
  · rw [if_neg (by simpa using h), if_neg h]
/-- what is asked is well formed -/
def Ok (n : Int) (l : List (Int × Int)) (a b : Int) (k x y : Nat) : Prop := n = (k : Int) ∧ a = (x : Int) ∧ b = (y : Int) ∧ errG n l = 0 ∧ k ≤ 8 ∧ 1 ≤ k ∧ x < k ∧ y < k ∧ x ≠ y ∧ InL k l ∧ (∀ p ∈ l, p.1 ≠ p.2) ∧ l.length ≤ 24
theorem ways_ev (n : Int) (l : List (Int × Int)) (a b : Int) (hg : good n l) :
    (∃ k x y m S, Ok n l a b k x y ∧ Found k l x y m S ∧ menger_Ways 100 n l a b = some (((m : Nat) : Int), 0) ∧ menger_Side 100 n l a b = some ((memb S).map Int.ofNat, 0)) ∨
    (∃ e, e ≠ 0 ∧ menger_Ways 100 n l a b = some (0, e) ∧ menger_Side 100 n l a b = some ([], e) ∧ e = (if errG n l ≠ 0 then errG n l else if 0 ≤ a ∧ a < n ∧ 0 ≤ b ∧ b < n then 3 else 1)) := by
  by_cases he : errG n l = 0
  · obtain ⟨k, rfl, hk1, hk8, hl24, hin, hne⟩ := errG_zero he
    have hc := check_ev (a := a) (b := b) hg he hk8 hk1
    by_cases h : 0 ≤ a ∧ a < k ∧ 0 ≤ b ∧ b < k
    · rw [if_pos h] at hc
      by_cases h2 : a = b
      · right
        rw [if_pos h2] at hc
        refine ⟨3, by decide, ?_, ?_, ?_⟩
        · unfold menger_Ways; rw [hc]; rfl
        · unfold menger_Side; rw [hc]; rfl
        · rw [if_neg (by simp [he]), if_pos h]
      · left
        rw [if_neg h2] at hc
        obtain ⟨x, hx⟩ := Int.eq_ofNat_of_zero_le h.1
        obtain ⟨y, hy⟩ := Int.eq_ofNat_of_zero_le h.2.2.1
        subst hx; subst hy
        obtain ⟨m, S, f1, f2⟩ := find_ev (a := x) (b := y) hk8 (by omega) (by omega) (by omega) hl24 hin hne
        refine ⟨k, x, y, m, S, ⟨rfl, rfl, rfl, he, hk8, hk1, by omega, by omega, by omega, hin, hne, hl24⟩, f2, ?_, ?_⟩
        · unfold menger_Ways; rw [hc, Option.bind_some, if_neg (by simp), f1]; rfl
        · unfold menger_Side; rw [hc, Option.bind_some, if_neg (by simp), f1, Option.bind_some]
          have : sList S = some ((memb S).map Int.ofNat) := by unfold sList; rw [if_pos f2.lt]; rfl
          show (sList S).bind _ = _
          rw [this]; rfl
    · right
      rw [if_neg h] at hc
      refine ⟨1, by decide, ?_, ?_, ?_⟩
      · unfold menger_Ways; rw [hc]; rfl
      · unfold menger_Side; rw [hc]; rfl
      · rw [if_neg (by simp [he]), if_neg h]
  · right
    have hc : menger_check 100 n l a b = some (errG n l) := by
      unfold menger_check
      rw [mCheck_ev hg, Option.bind_some, if_pos (by simpa using he)]
    refine ⟨errG n l, he, ?_, ?_, ?_⟩
    · unfold menger_Ways; rw [hc, Option.bind_some, if_pos (by simpa using he)]
    · unfold menger_Side; rw [hc, Option.bind_some, if_pos (by simpa using he)]
    · rw [if_pos he]
theorem cut_compl (l : List (Int × Int)) (S : Nat → Bool) : cut l (fun i => !S i) = cut l S := by
  unfold cut
  congr 1
  refine List.filter_congr fun p _ => ?_
  show ((!S p.1.toNat) != (!S p.2.toNat)) = (S p.1.toNat != S p.2.toNat)
  cases S p.1.toNat <;> cases S p.2.toNat <;> rfl
/-- as many back -/
theorem Found.back {k : Nat} {l : List (Int × Int)} {a b m S m' S' : Nat} (h : Found k l a b m S) (h' : Found k l b a m' S') : m = m' := by
  have h1 := (h.least (fun i => !S'.testBit i) (by simp [h'.hasnt]) (by simp [h'.has])).1
  have h2 := (h'.least (fun i => !S.testBit i) (by simp [h.hasnt]) (by simp [h.has])).1
  rw [cut_compl, h'.many] at h1
  rw [cut_compl, h.many] at h2
  omega
theorem fact_ev : L3_mengerFact 100 = some true := by decide +kernel
theorem three_says {n : Int} {l : List (Int × Int)} (a b c : Int) (hg : good n l) : L3_MengerThree 100 n l a b c = some true := by
  unfold L3_MengerThree
  rw [fact_ev, Option.bind_some, if_pos rfl]
  rcases ways_ev n l a b hg with ⟨k, x, y, m, S, ok, f, w, _⟩ | ⟨e, he, w, _, _⟩
  · rcases ways_ev n l b c hg with ⟨k2, y2, z, m2, S2, ok2, f2, w2, _⟩ | ⟨e2, he2, w2, _, _⟩
    · rcases ways_ev n l a c hg with ⟨k3, x3, z3, m3, S3, ok3, f3, w3, _⟩ | ⟨e3, he3, w3, _, _⟩
      · rw [w, w2, w3]
        obtain ⟨rfl, rfl, rfl, _⟩ := ok
        obtain ⟨e1, e2, rfl, _⟩ := ok2
        obtain ⟨e3, e4, e5, _⟩ := ok3
        obtain rfl : k = k2 := by omega
        obtain rfl : y = y2 := by omega
        obtain rfl : k = k3 := by omega
        obtain rfl : x = x3 := by omega
        obtain rfl : z = z3 := by omega
        have key : m ≤ m3 ∨ m2 ≤ m3 := by
          cases hy : S3.testBit y
          · left; have := (f.least (fun i => S3.testBit i) f3.has hy).1; rw [f3.many] at this; exact this
          · right; have := (f2.least (fun i => S3.testBit i) hy f3.hasnt).1; rw [f3.many] at this; exact this
        simp only [Option.bind_some]
        by_cases h1 : m2 < m
        · have h2 : m2 ≤ m3 := by omega
          simp [h1, h2]
        · have h2 : m ≤ m3 := by omega
          simp [h1, h2]
      · rw [w, w2, w3]; simp [he3]
    · rw [w, w2]
      rcases ways_ev n l a c hg with ⟨k3, x3, z3, m3, S3, ok3, f3, w3, _⟩ | ⟨e3, he3, w3, _, _⟩ <;> rw [w3] <;> simp [he2]
  · rw [w]
    rcases ways_ev n l b c hg with ⟨k2, y2, z, m2, S2, ok2, f2, w2, _⟩ | ⟨e2, he2, w2, _, _⟩ <;> rcases ways_ev n l a c hg with ⟨k3, x3, z3, m3, S3, ok3, f3, w3, _⟩ | ⟨e3, he3, w3, _, _⟩ <;> rw [w2, w3] <;> simp [he]
theorem mem_members {S : Nat} (hS : S < 65536) (x : Int) : x ∈ (memb S).map Int.ofNat ↔ 0 ≤ x ∧ S.testBit x.toNat = true := by
  rw [List.mem_map]
  constructor
  · rintro ⟨y, hy, rfl⟩
    exact ⟨Int.natCast_nonneg _, by simpa using (mem_memb hS).1 hy⟩
  · rintro ⟨h0, h1⟩
    refine ⟨x.toNat, (mem_memb hS).2 h1, ?_⟩
    show ((x.toNat : Nat) : Int) = x
    omega
theorem filter_len_le {α : Type} {p q : α → Bool} : ∀ (l : List α), (∀ x, p x = true → q x = true) → (l.filter p).length ≤ (l.filter q).length
  | [], _ => Nat.le_refl _
  | x :: l, h => by
    have ih := filter_len_le l h
    rw [List.filter_cons, List.filter_cons]
    by_cases hp : p x = true
    · rw [if_pos hp, if_pos (h x hp), List.length_cons, List.length_cons]; omega
    · rw [if_neg hp]; split <;> simp <;> omega
theorem memb_len_le (S : Nat) : (memb S).length ≤ 16 := by
  unfold memb; have := List.length_filter_le (fun i => S.testBit i) (List.range 16); simpa using this
theorem cut_drop (l : List (Int × Int)) (S : Nat → Bool) (t : Nat) (h : t < l.length) : cut (l.drop t) S = cut (l.drop (t+1)) S + if S l[t].1.toNat != S l[t].2.toNat then 1 else 0 := by
  unfold cut
  rw [List.drop_eq_getElem_cons h, List.filter_cons]
  split <;> simp
theorem away_L1 {k : Nat} {l : List (Int × Int)} (hin : InL k l) (hk : k ≤ 8) (hl : l.length ≤ 1000) {T : Nat} (hT : T < 256) : ∀ g t c : Nat, l.length < g + t → t ≤ l.length → c ≤ t →
    R3_Away_L1 100 l (T : Int) g (c : Int) (t : Int) = some (((c + cut (l.drop t) (fun i => T.testBit i) : Nat) : Int), (l.length : Int))
  | 0, t, c, h, _, _ => by omega
  | g+1, t, c, h, ht, hc => by
    rw [R3_Away_L1_s]
    by_cases hlt : t < l.length
    · obtain ⟨a, b, ea, eb, ha, hb⟩ := hin.at_ hlt
      rw [if_pos (by omega), ix_nat hlt]
      simp only [Option.bind_some, ea, eb]
      rw [R3_Member_ev T hT a (by omega), R3_Member_ev T hT b (by omega)]
      simp only [Option.bind_some]
      rw [w64n (by omega), w64n (by omega), cut_drop l _ t hlt, ea, eb, Int.toNat_natCast, Int.toNat_natCast]
      by_cases h1 : (T.testBit a != T.testBit b) = true
      · rw [if_pos h1, if_pos h1, away_L1 hin hk hl hT g (t+1) (c+1) (by omega) (by omega) (by omega)]
        congr 3; omega
      · rw [if_neg h1, if_neg h1, away_L1 hin hk hl hT g (t+1) c (by omega) (by omega) (by omega)]
        congr 3
    · obtain rfl : t = l.length := by omega
      rw [if_neg (by omega), List.drop_length]; rfl
theorem away_ev {k : Nat} {l : List (Int × Int)} (hin : InL k l) (hk : k ≤ 8) (hl : l.length ≤ 90) {T : Nat} (hT : T < 256) : R3_Away 100 l (T : Int) = some ((cut l (fun i => T.testBit i) : Nat) : Int) := by
  unfold R3_Away
  have h := away_L1 hin hk (by omega) hT 100 0 0 (by omega) (by omega) (by omega)
  rw [List.drop_zero, Nat.zero_add] at h
  have h' : R3_Away_L1 100 l (T : Int) 100 0 0 = _ := h
  rw [h']; rfl
theorem cut_L1 {k : Nat} {l : List (Int × Int)} (hin : InL k l) (hk : k ≤ 8) (hl : l.length ≤ 1000) {S : Nat} (hS : S < 65536) : ∀ g t c : Nat, l.length < g + t → t ≤ l.length → c ≤ t →
    L3_MengerCut_L1 100 l ((memb S).map Int.ofNat) g (c : Int) (t : Int) = some (((c + cut (l.drop t) (fun i => S.testBit i) : Nat) : Int), (l.length : Int))
  | 0, t, c, h, _, _ => by omega
  | g+1, t, c, h, ht, hc => by
    rw [L3_MengerCut_L1_s]
    have hml : ((memb S).map Int.ofNat).length < 100 := by rw [List.length_map]; have := memb_len_le S; omega
    by_cases hlt : t < l.length
    · obtain ⟨a, b, ea, eb, ha, hb⟩ := hin.at_ hlt
      rw [if_pos (by omega), ix_nat hlt]
      simp only [Option.bind_some, ea, eb, R1_Has_ev _ hml (by omega : ((memb S).map Int.ofNat).length < 9223372036854775807)]
      have e : ∀ a : Nat, decide ((a : Int) ∈ (memb S).map Int.ofNat) = S.testBit a := fun a => by
        rw [Bool.eq_iff_iff, decide_eq_true_eq, mem_members hS, Int.toNat_natCast]
        exact ⟨fun h => h.2, fun h => ⟨by omega, h⟩⟩
      rw [e, e, w64n (by omega), w64n (by omega), cut_drop l _ t hlt, ea, eb, Int.toNat_natCast, Int.toNat_natCast]
      by_cases h1 : (S.testBit a != S.testBit b) = true
      · rw [if_pos h1, if_pos h1, cut_L1 hin hk hl hS g (t+1) (c+1) (by omega) (by omega) (by omega)]
        congr 3; omega
      · rw [if_neg h1, if_neg h1, cut_L1 hin hk hl hS g (t+1) c (by omega) (by omega) (by omega)]
        congr 3
    · obtain rfl : t = l.length := by omega
      rw [if_neg (by omega), List.drop_length]; rfl
theorem cut_says {n : Int} {l : List (Int × Int)} (a b set : Int) (hg : good n l) : L3_MengerCut 100 n l a b set = some true := by
  unfold L3_MengerCut
  rw [fact_ev, Option.bind_some, if_pos rfl]
  rcases ways_ev n l a b hg with ⟨k, x, y, m, S, ok, f, w, w'⟩ | ⟨e, he, w, w', _⟩
  · rw [w, w']
    obtain ⟨rfl, rfl, rfl, he, hk8, hk1, hx, hy, hxy, hin, hne, hl24⟩ := ok
    have hml : ((memb S).map Int.ofNat).length < 100 := by rw [List.length_map]; have := memb_len_le S; omega
    have hm63 : ((memb S).map Int.ofNat).length < 9223372036854775807 := by omega
    have h1 : allIn ((memb S).map Int.ofNat) 0 (wrap64 ((k : Int) - 1)) = true := by
      rw [w64 (by omega) (by omega)]
      unfold allIn
      rw [List.all_eq_true]
      intro z hz
      rw [mem_members f.lt] at hz
      have := f.below _ hz.2
      simp; omega
    have h2 : ((x : Int) ∈ (memb S).map Int.ofNat) := (mem_members f.lt _).2 ⟨by omega, by simpa using f.has⟩
    have h3 : ¬ ((y : Int) ∈ (memb S).map Int.ofNat) := fun h => by have := ((mem_members f.lt _).1 h).2; rw [Int.toNat_natCast, f.hasnt] at this; cases this
    have h4 := cut_L1 hin hk8 (by omega) f.lt 100 0 0 (by omega) (by omega) (by omega)
    rw [List.drop_zero, Nat.zero_add, f.many] at h4
    have h4' : L3_MengerCut_L1 100 l ((memb S).map Int.ofNat) 100 0 0 = _ := h4
    simp only [Option.bind_some, R1_All_ev _ _ hml hm63, R1_Has_ev _ hml hm63, h1, h2, h3, h4', L3_in_ev, decide_true, decide_false]
    by_cases hset : 0 ≤ set ∧ set ≤ 255
    · obtain ⟨T, hT⟩ := Int.eq_ofNat_of_zero_le hset.1
      subst hT
      have hT : T < 256 := by omega
      rw [R3_Member_ev T hT x (by omega), R3_Member_ev T hT y (by omega), away_ev hin hk8 (by omega) hT]
      simp only [hset, decide_true, Option.bind_some, and_self]
      cases hTx : T.testBit x
      · simp
      · cases hTy : T.testBit y
        · have key := f.least (fun i => T.testBit i) hTx hTy
          have hM : R3_Members 100 (T : Int) = some ((memb T).map Int.ofNat) := R3_Members_ev T hT
          rw [hM]
          have k1 : ((m : Nat) : Int) ≤ ((cut l (fun i => T.testBit i) : Nat) : Int) := by have := key.1; omega
          by_cases k2 : ((m : Nat) : Int) < ((cut l (fun i => T.testBit i) : Nat) : Int)
          · simp [k1, k2]
          · have k3 : cut l (fun i => T.testBit i) = m := by omega
            have k4 : (memb S).length ≤ (memb T).length := filter_len_le _ (fun i hi => key.2 k3 i hi)
            simp [k3, k4]
        · simp
    · simp only [hset, decide_false]
      simp
  · rw [w]; simp [he]
def degL (l : List (Int × Int)) (v : Int) : Nat := (l.filter fun p => p.1 == v || p.2 == v).length
theorem degL_drop (l : List (Int × Int)) (v : Int) (t : Nat) (h : t < l.length) : degL (l.drop t) v = degL (l.drop (t+1)) v + if (l[t].1 == v || l[t].2 == v) = true then 1 else 0 := by
  unfold degL
  rw [List.drop_eq_getElem_cons h, List.filter_cons]
  split <;> simp
theorem both_L1 {l : List (Int × Int)} (a b : Int) (hl : l.length ≤ 1000) : ∀ g t x y : Nat, l.length < g + t → t ≤ l.length → x ≤ t → y ≤ t →
    L3_MengerBoth_L1 100 l a b g (x : Int) (y : Int) (t : Int) = some (((x + degL (l.drop t) a : Nat) : Int), ((y + degL (l.drop t) b : Nat) : Int), (l.length : Int))
  | 0, t, x, y, h, _, _, _ => by omega
  | g+1, t, x, y, h, ht, hx, hy => by
    rw [L3_MengerBoth_L1_s]
    by_cases hlt : t < l.length
    · rw [if_pos (by omega), ix_nat hlt]
      simp only [Option.bind_some]
      have e : ∀ v : Int, (if (l[t].1 == v) = true then some true else if (l[t].2 == v) = true then some true else some false) = some (l[t].1 == v || l[t].2 == v) := fun v => by
        cases (l[t].1 == v) <;> cases (l[t].2 == v) <;> rfl
      rw [e, e, w64n (by omega), w64n (by omega), w64n (by omega), degL_drop l a t hlt, degL_drop l b t hlt]
      simp only [Option.bind_some]
      by_cases h1 : (l[t].1 == a || l[t].2 == a) = true <;> by_cases h2 : (l[t].1 == b || l[t].2 == b) = true
      · rw [if_pos h1, if_pos h2, if_pos h1, if_pos h2, both_L1 a b hl g (t+1) (x+1) (y+1) (by omega) (by omega) (by omega) (by omega)]
        rw [show x + 1 + degL (l.drop (t+1)) a = x + (degL (l.drop (t+1)) a + 1) by omega, show y + 1 + degL (l.drop (t+1)) b = y + (degL (l.drop (t+1)) b + 1) by omega]
      · rw [if_pos h1, if_neg h2, if_pos h1, if_neg h2, both_L1 a b hl g (t+1) (x+1) y (by omega) (by omega) (by omega) (by omega)]
        rw [show x + 1 + degL (l.drop (t+1)) a = x + (degL (l.drop (t+1)) a + 1) by omega]; rfl
      · rw [if_neg h1, if_pos h2, if_neg h1, if_pos h2, both_L1 a b hl g (t+1) x (y+1) (by omega) (by omega) (by omega) (by omega)]
        rw [show y + 1 + degL (l.drop (t+1)) b = y + (degL (l.drop (t+1)) b + 1) by omega]; rfl
      · rw [if_neg h1, if_neg h2, if_neg h1, if_neg h2, both_L1 a b hl g (t+1) x y (by omega) (by omega) (by omega) (by omega)]
        rfl
    · obtain rfl : t = l.length := by omega
      rw [if_neg (by omega), List.drop_length]; rfl
theorem cut_one {k : Nat} {l : List (Int × Int)} (hin : InL k l) (hne : ∀ p ∈ l, p.1 ≠ p.2) (a : Nat) : cut l (fun i => i == a) = degL l (a : Int) := by
  unfold cut degL
  congr 1
  refine List.filter_congr fun p hp => ?_
  have h1 := hin p hp
  have h2 := hne p hp
  have e1 : (p.1.toNat == a) = (p.1 == (a : Int)) := by rw [Bool.eq_iff_iff]; simp; omega
  have e2 : (p.2.toNat == a) = (p.2 == (a : Int)) := by rw [Bool.eq_iff_iff]; simp; omega
  show ((p.1.toNat == a) != (p.2.toNat == a)) = _
  rw [e1, e2]
  cases h3 : (p.1 == (a : Int)) <;> cases h4 : (p.2 == (a : Int)) <;> try rfl
  simp at h3 h4
  omega
theorem cut_erase (S : Nat → Bool) : ∀ (l : List (Int × Int)) (i : Nat), cut (l.eraseIdx i) S ≤ cut l S ∧ cut l S ≤ cut (l.eraseIdx i) S + 1
  | [], i => by simp [cut]
  | p :: l, 0 => by
    have e : (p :: l).eraseIdx 0 = l := rfl
    rw [e]
    unfold cut
    rw [List.filter_cons]; split <;> simp
  | p :: l, i+1 => by
    have ih := cut_erase S l i
    have e : (p :: l).eraseIdx (i+1) = p :: l.eraseIdx i := rfl
    rw [e]
    unfold cut at ih ⊢
    rw [List.filter_cons, List.filter_cons]
    by_cases h : (S p.1.toNat != S p.2.toNat) = true
    · rw [if_pos h, if_pos h, List.length_cons, List.length_cons]; omega
    · rw [if_neg h, if_neg h]; exact ih
theorem both_says {n : Int} {l : List (Int × Int)} (a b i : Int) (hg : good n l) : L3_MengerBoth 100 n l a b i = some true := by
  unfold L3_MengerBoth
  rw [fact_ev, Option.bind_some, if_pos rfl]
  rcases ways_ev n l a b hg with ⟨k, x, y, m, S, ok, f, w, _⟩ | ⟨e, he, w, _, _⟩
  · rw [w]
    obtain ⟨rfl, rfl, rfl, he, hk8, hk1, hx, hy, hxy, hin, hne, hl24⟩ := ok
    rcases ways_ev (k : Int) l (y : Int) (x : Int) hg with ⟨k2, y2, x2, m2, S2, ok2, f2, w2, _⟩ | ⟨e2, he2, w2, _, q⟩
    · obtain ⟨q1, q2, q3, _⟩ := ok2
      obtain rfl : k = k2 := by omega
      obtain rfl : y = y2 := by omega
      obtain rfl : x = x2 := by omega
      obtain rfl := f.back f2
      rw [w2]
      have h1 := both_L1 (l := l) (x : Int) (y : Int) (by omega) 100 0 0 0 (by omega) (by omega) (by omega) (by omega)
      rw [List.drop_zero, Nat.zero_add, Nat.zero_add] at h1
      have h1' : L3_MengerBoth_L1 100 l (x : Int) (y : Int) 100 0 0 0 = _ := h1
      have d1 := (f.least (fun i => i == x) (by simp) (by simp; omega)).1
      have d2 := (f2.least (fun i => i == y) (by simp) (by simp; omega)).1
      rw [cut_one hin hne] at d1 d2
      have n1 : ¬ ((degL l (x : Int) : Nat) : Int) < ((m : Nat) : Int) := by omega
      have n2 : ¬ ((degL l (y : Int) : Nat) : Int) < ((m : Nat) : Int) := by omega
      have n3 : ¬ ((m : Nat) : Int) < 0 := by omega
      simp only [Option.bind_some, h1', L3_in_ev, n1, n2, n3, if_false]
      rw [w64 (by omega) (by omega)]
      by_cases hi : 0 ≤ i ∧ i ≤ (l.length : Int) - 1
      · obtain ⟨j, hj⟩ := Int.eq_ofNat_of_zero_le hi.1
        subst hj
        have hjl : j < l.length := by omega
        rw [R1_But_ev (by omega) (by omega)]
        have hlen : (l.eraseIdx j).length ≤ 24 := by rw [List.length_eraseIdx]; split <;> omega
        have hin' : InL k (l.eraseIdx j) := fun p hp => hin p (List.mem_of_mem_eraseIdx hp)
        have hne' : ∀ p ∈ l.eraseIdx j, p.1 ≠ p.2 := fun p hp => hne p (List.mem_of_mem_eraseIdx hp)
        have he' := errG_ok hk1 hk8 hlen hin' hne'
        have hg' : good (k : Int) (l.eraseIdx j) := ⟨hg.1, by unfold maxLen; omega⟩
        obtain ⟨m3, S3, f3, g3⟩ := find_ev (a := x) (b := y) hk8 hx hy hxy hlen hin' hne'
        have w3 : menger_Ways 100 (k : Int) (l.eraseIdx j) (x : Int) (y : Int) = some (((m3 : Nat) : Int), 0) := by
          unfold menger_Ways
          rw [check_ev hg' he' hk8 hk1, if_pos (by omega), if_neg (by omega), Option.bind_some, if_neg (by simp), f3]; rfl
        have c1 := (g3.least (fun i => S.testBit i) f.has f.hasnt).1
        have c2 := (f.least (fun i => S3.testBit i) g3.has g3.hasnt).1
        have c3 := (cut_erase (fun i => S.testBit i) l j).1
        have c4 := (cut_erase (fun i => S3.testBit i) l j).2
        rw [f.many] at c3
        rw [g3.many] at c4
        simp only [hi, decide_true, if_true, Option.bind_some, w3, and_self]
        have hml := cut_le l (fun i => S.testBit i)
        rw [f.many] at hml
        rw [w64 (by omega) (by omega)]
        by_cases hm : m3 = m
        · simp [hm]
        · have : m3 + 1 = m := by omega
          have e1 : ((m3 : Nat) : Int) = (m : Int) - 1 := by omega
          simp [hm, e1]
      · simp only [hi, decide_false]
        simp
    · exfalso
      rw [if_neg (by simp [he]), if_pos (by omega)] at q
      have hc := check_ev (a := (y : Int)) (b := (x : Int)) hg he hk8 hk1
      rw [if_pos (by omega), if_neg (by omega)] at hc
      unfold menger_Ways at w2
      rw [hc, Option.bind_some, if_neg (by simp)] at w2
      cases hf : menger_find 100 (k : Int) l (y : Int) (x : Int) with
      | none => rw [hf] at w2; cases w2
      | some z => rw [hf] at w2; simp at w2; omega
  · rw [w]; simp [he]
end Go.Proofs.Ytgihnflaikmakaa
