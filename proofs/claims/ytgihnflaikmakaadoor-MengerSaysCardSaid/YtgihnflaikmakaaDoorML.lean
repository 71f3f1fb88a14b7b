import Derived.Test.YtgihnflaikmakaaDoorMP
import Derived.Test.YtgihnflaikmakaaDoorF3
/- what holds of the ways, over the models -/
set_option linter.all false
set_option maxRecDepth 100000
namespace Go.Proofs.YtgihnflaikmakaaDoor
open Go.RowKit Pl
theorem check_ev {k : Nat} {l : List (Int × Int)} {a b : Int} (hg : good (k : Int) l) (he : errG (k : Int) l = 0) (hk : k ≤ 8) (hk1 : 1 ≤ k) :
    menger_check 300 (k : Int) l a b = some (if 0 ≤ a ∧ a < k ∧ 0 ≤ b ∧ b < k then (if a = b then 3 else 0) else 1) := by
  unfold menger_check
  rw [mCheck_ev hg, he, Option.bind_some, if_neg (by simp), core_All_ev 0 _ (by simp) (by simp), Option.bind_some, w64 (by omega) (by omega)]
  have e : allIn [a, b] 0 ((k : Int) - 1) = decide (0 ≤ a ∧ a < k ∧ 0 ≤ b ∧ b < k) := by
    rw [Bool.eq_iff_iff]; simp [allIn]; omega
  rw [e]
  by_cases h : 0 ≤ a ∧ a < k ∧ 0 ≤ b ∧ b < k
  · rw [if_pos (by simpa using h), if_pos h]
    by_cases h2 : a = b
    · rw [if_pos (by simpa using h2), if_pos h2]
    · rw [if_neg (by simpa using h2), if_neg h2]
  · rw [if_neg (by simpa using h), if_neg h]
/-- what is asked is well formed -/
def Ok (n : Int) (l : List (Int × Int)) (a b : Int) (k x y : Nat) : Prop := n = (k : Int) ∧ a = (x : Int) ∧ b = (y : Int) ∧ errG n l = 0 ∧ k ≤ 8 ∧ 1 ≤ k ∧ x < k ∧ y < k ∧ x ≠ y ∧ InL k l ∧ (∀ p ∈ l, p.1 ≠ p.2) ∧ l.length ≤ 24
theorem ways_ev (n : Int) (l : List (Int × Int)) (a b : Int) (hg : good n l) :
    (∃ k x y m S, Ok n l a b k x y ∧ Found k l x y m S ∧ menger_Ways 300 n l a b = some (((m : Nat) : Int), 0) ∧ menger_Side 300 n l a b = some ((memb S).map Int.ofNat, 0)) ∨
    (∃ e, e ≠ 0 ∧ menger_Ways 300 n l a b = some (0, e) ∧ menger_Side 300 n l a b = some ([], e) ∧ e = (if errG n l ≠ 0 then errG n l else if 0 ≤ a ∧ a < n ∧ 0 ≤ b ∧ b < n then 3 else 1)) := by
  by_cases he : errG n l = 0
  · obtain ⟨k, rfl, hk1, hk8, hl24, hin, hne⟩ := errG_zero he
    have hc := check_ev (a := a) (b := b) hg he hk8 hk1
    by_cases h : 0 ≤ a ∧ a < k ∧ 0 ≤ b ∧ b < k
    · rw [if_pos h] at hc
      by_cases h2 : a = b
      · right
        rw [if_pos h2] at hc
        refine ⟨3, by decide, ?_, ?_, ?_⟩
        · unfold menger_Ways; rw [hc]; rfl
        · unfold menger_Side; rw [hc]; rfl
        · rw [if_neg (by simp [he]), if_pos h]
      · left
        rw [if_neg h2] at hc
        obtain ⟨x, hx⟩ := Int.eq_ofNat_of_zero_le h.1
        obtain ⟨y, hy⟩ := Int.eq_ofNat_of_zero_le h.2.2.1
        subst hx; subst hy
        obtain ⟨m, S, f1, f2⟩ := find_ev (a := x) (b := y) hk8 (by omega) (by omega) (by omega) hl24 hin hne
        refine ⟨k, x, y, m, S, ⟨rfl, rfl, rfl, he, hk8, hk1, by omega, by omega, by omega, hin, hne, hl24⟩, f2, ?_, ?_⟩
        · unfold menger_Ways; rw [hc, Option.bind_some, if_neg (by simp), f1]; rfl
        · unfold menger_Side; rw [hc, Option.bind_some, if_neg (by simp), f1, Option.bind_some]
          have : sList S = some ((memb S).map Int.ofNat) := by unfold sList; rw [if_pos f2.lt]; rfl
          show (sList S).bind _ = _
          rw [this]; rfl
    · right
      rw [if_neg h] at hc
      refine ⟨1, by decide, ?_, ?_, ?_⟩
      · unfold menger_Ways; rw [hc]; rfl
      · unfold menger_Side; rw [hc]; rfl
      · rw [if_neg (by simp [he]), if_neg h]
  · right
    have hc : menger_check 300 n l a b = some (errG n l) := by
      unfold menger_check
      rw [mCheck_ev hg, Option.bind_some, if_pos (by simpa using he)]
    refine ⟨errG n l, he, ?_, ?_, ?_⟩
    · unfold menger_Ways; rw [hc, Option.bind_some, if_pos (by simpa using he)]
    · unfold menger_Side; rw [hc, Option.bind_some, if_pos (by simpa using he)]
    · rw [if_pos he]
theorem cut_compl (l : List (Int × Int)) (S : Nat → Bool) : cut l (fun i => !S i) = cut l S := by
  unfold cut
  congr 1
  refine List.filter_congr fun p _ => ?_
  show ((!S p.1.toNat) != (!S p.2.toNat)) = (S p.1.toNat != S p.2.toNat)
  cases S p.1.toNat <;> cases S p.2.toNat <;> rfl
/-- as many back -/
theorem Found.back {k : Nat} {l : List (Int × Int)} {a b m S m' S' : Nat} (h : Found k l a b m S) (h' : Found k l b a m' S') : m = m' := by
  have h1 := (h.least (fun i => !S'.testBit i) (by simp [h'.hasnt]) (by simp [h'.has])).1
  have h2 := (h'.least (fun i => !S.testBit i) (by simp [h.hasnt]) (by simp [h.has])).1
  rw [cut_compl, h'.many] at h1
  rw [cut_compl, h.many] at h2
  omega
theorem mem_members {S : Nat} (hS : S < 65536) (x : Int) : x ∈ (memb S).map Int.ofNat ↔ 0 ≤ x ∧ S.testBit x.toNat = true := by
  rw [List.mem_map]
  constructor
  · rintro ⟨y, hy, rfl⟩
    exact ⟨Int.natCast_nonneg _, by simpa using (mem_memb hS).1 hy⟩
  · rintro ⟨h0, h1⟩
    refine ⟨x.toNat, (mem_memb hS).2 h1, ?_⟩
    show ((x.toNat : Nat) : Int) = x
    omega
theorem filter_len_le {α : Type} {p q : α → Bool} : ∀ (l : List α), (∀ x, p x = true → q x = true) → (l.filter p).length ≤ (l.filter q).length
  | [], _ => Nat.le_refl _
  | x :: l, h => by
    have ih := filter_len_le l h
    rw [List.filter_cons, List.filter_cons]
    by_cases hp : p x = true
    · rw [if_pos hp, if_pos (h x hp), List.length_cons, List.length_cons]; omega
    · rw [if_neg hp]; split <;> simp <;> omega
theorem memb_len_le (S : Nat) : (memb S).length ≤ 16 := by
  unfold memb; have := List.length_filter_le (fun i => S.testBit i) (List.range 16); simpa using this
theorem cut_drop (l : List (Int × Int)) (S : Nat → Bool) (t : Nat) (h : t < l.length) : cut (l.drop t) S = cut (l.drop (t+1)) S + if S l[t].1.toNat != S l[t].2.toNat then 1 else 0 := by
  unfold cut
  rw [List.drop_eq_getElem_cons h, List.filter_cons]
  split <;> simp
theorem away_L1 {k : Nat} {l : List (Int × Int)} (hin : InL k l) (hk : k ≤ 8) (hl : l.length ≤ 1000) {T : Nat} (hT : T < 256) : ∀ g t c : Nat, l.length < g + t → t ≤ l.length → c ≤ t →
    R3_Away_L1 300 l (T : Int) g (c : Int) (t : Int) = some (((c + cut (l.drop t) (fun i => T.testBit i) : Nat) : Int), (l.length : Int))
  | 0, t, c, h, _, _ => by omega
  | g+1, t, c, h, ht, hc => by
    rw [R3_Away_L1_s]
    by_cases hlt : t < l.length
    · obtain ⟨a, b, ea, eb, ha, hb⟩ := hin.at_ hlt
      rw [if_pos (by omega), ix_nat hlt]
      simp only [Option.bind_some, ea, eb]
      rw [R3_Member_ev T hT a (by omega), R3_Member_ev T hT b (by omega)]
      simp only [Option.bind_some]
      rw [w64n (by omega), w64n (by omega), cut_drop l _ t hlt, ea, eb, Int.toNat_natCast, Int.toNat_natCast]
      by_cases h1 : (T.testBit a != T.testBit b) = true
      · rw [if_pos h1, if_pos h1, away_L1 hin hk hl hT g (t+1) (c+1) (by omega) (by omega) (by omega)]
        congr 3; omega
      · rw [if_neg h1, if_neg h1, away_L1 hin hk hl hT g (t+1) c (by omega) (by omega) (by omega)]
        congr 3
    · obtain rfl : t = l.length := by omega
      rw [if_neg (by omega), List.drop_length]; rfl
theorem away_ev {k : Nat} {l : List (Int × Int)} (hin : InL k l) (hk : k ≤ 8) (hl : l.length ≤ 90) {T : Nat} (hT : T < 256) : R3_Away 300 l (T : Int) = some ((cut l (fun i => T.testBit i) : Nat) : Int) := by
  unfold R3_Away
  have h := away_L1 hin hk (by omega) hT 300 0 0 (by omega) (by omega) (by omega)
  rw [List.drop_zero, Nat.zero_add] at h
  have h' : R3_Away_L1 300 l (T : Int) 300 0 0 = _ := h
  rw [h']; rfl
end Go.Proofs.YtgihnflaikmakaaDoor
