import Derived.Test.YtlecmgdkoanghaaDoorByE
import Derived.Test.YtlecmgdkoanghaaDoorLa
/- plain: what color.Last gives -/
set_option linter.all false
set_option maxRecDepth 100000
namespace Go.Proofs.YtlecmgdkoanghaaDoor
open Go.RowKit Go.Shelf Pl
theorem memb_and {x m : Nat} : memb (x &&& m) = (memb m).filter (fun v => x.testBit v) := by
  unfold memb
  rw [List.filter_filter]
  refine List.filter_congr fun v _ => ?_
  rw [Nat.testBit_and]
theorem bit_lt {m n j : Nat} (hm : m < 2 ^ n) (hb : m.testBit j = true) : j < n := by
  rcases Nat.lt_or_ge j n with h1 | h1
  · exact h1
  · rw [Nat.testBit_lt_two_pow (Nat.lt_of_lt_of_le hm (Nat.pow_le_pow_right (by omega) h1))] at hb; cases hb
theorem memb_ne {m : Nat} (hm : m < 65536) (h : m ≠ 0) : memb m ≠ [] := by
  intro e
  refine h (Nat.eq_of_testBit_eq fun i => ?_)
  rw [Nat.zero_testBit]
  refine Bool.eq_false_iff.2 fun q => ?_
  have := (mem_memb hm).2 q
  rw [e] at this; cases this
/-- how many of a set are beside a point -/
def dS (a : Nat → Nat → Bool) (S v : Nat) : Nat := ((memb S).filter (a v)).length
theorem len_ev {bes : List Nat} {a : Nat → Nat → Bool} (hb : ∀ v, bes.getD v 0 < 65536) (hba : ∀ v u, (bes.getD v 0).testBit u = a v u) {S v : Nat} (hS : S < 65536) :
    sAnd (bes.getD v 0) S = some (bes.getD v 0 &&& S) ∧ sLen (bes.getD v 0 &&& S) = some ((dS a S v : Nat) : Int) := by
  refine ⟨by unfold sAnd; rw [if_pos ⟨hb v, hS⟩], ?_⟩
  unfold sLen dS
  rw [if_pos (Nat.lt_of_le_of_lt Nat.and_le_right hS), memb_and, List.filter_congr fun u _ => hba v u]
theorem la_L2 {bes : List Nat} {a : Nat → Nat → Bool} (hb : ∀ v, bes.getD v 0 < 65536) (hba : ∀ v u, (bes.getD v 0).testBit u = a v u) {left : Nat} (hS : left < 65536) : ∀ (xs : List Nat) (b : Nat), b < bes.length → (∀ x ∈ xs, x < bes.length) →
    ∃ b' : Nat, color_Last_L2 300 bes left xs (b : Int) = some (b' : Int) ∧ (b' = b ∨ b' ∈ xs) ∧ dS a left b' ≤ dS a left b ∧ ∀ x ∈ xs, dS a left b' ≤ dS a left x
  | [], b, _, _ => ⟨b, by rw [color_Last_L2_n], .inl rfl, Nat.le_refl _, fun x hx => by cases hx⟩
  | x :: xs, b, hbl, hx => by
    have hxl := hx x List.mem_cons_self
    have e1 := len_ev hb hba (S := left) (v := x) hS
    have e2 := len_ev hb hba (S := left) (v := b) hS
    rw [color_Last_L2_c, if_neg (by omega), ix_at 0 hxl, Option.bind_some, e1.1, Option.bind_some, e1.2, Option.bind_some, ix_at 0 hbl, Option.bind_some, e2.1, Option.bind_some, e2.2, Option.bind_some]
    by_cases c : dS a left x < dS a left b
    · rw [if_pos (by omega), Option.bind_some, if_pos rfl]
      obtain ⟨b', q1, q2, q3, q4⟩ := la_L2 hb hba hS xs x hxl (fun y hy => hx y (List.mem_cons_of_mem _ hy))
      refine ⟨b', q1, .inr ?_, by omega, fun y hy => ?_⟩
      · rcases q2 with q2 | q2
        · rw [q2]; exact List.mem_cons_self
        · exact List.mem_cons_of_mem _ q2
      · rcases List.mem_cons.1 hy with rfl | hy
        · exact q3
        · exact q4 y hy
    · rw [if_neg (by omega), Option.bind_some, if_neg (by decide)]
      obtain ⟨b', q1, q2, q3, q4⟩ := la_L2 hb hba hS xs b hbl (fun y hy => hx y (List.mem_cons_of_mem _ hy))
      refine ⟨b', q1, ?_, q3, fun y hy => ?_⟩
      · rcases q2 with q2 | q2
        · exact .inl q2
        · exact .inr (List.mem_cons_of_mem _ q2)
      · rcases List.mem_cons.1 hy with rfl | hy
        · omega
        · exact q4 y hy
/-- how many beside a point are not among some -/
def dN (a : Nat → Nat → Bool) (k : Nat) (gone : List Nat) (v : Nat) : Nat := ((List.range k).filter fun u => decide (u ∉ gone) && a v u).length
structure La (a : Nat → Nat → Bool) (k : Nat) (os : List Nat) (M left : Nat) : Prop where
  nd : os.Nodup
  mem : ∀ v, v ∈ os ↔ v < k ∧ left.testBit v = false
  lt : left < 2 ^ k
  deg : ∀ pre v post, os = pre ++ v :: post → dN a k (v :: post) v ≤ M
  m16 : M ≤ 16
  ex : ∃ S, 0 < S ∧ S < 2 ^ k ∧ ∀ v, S.testBit v = true → M ≤ dS a S v
theorem dS_le (a : Nat → Nat → Bool) (S v : Nat) : dS a S v ≤ 16 := by
  have h1 := List.length_filter_le (a v) (memb S)
  have h2 := List.length_filter_le (fun i => S.testBit i) (List.range 16)
  rw [List.length_range] at h2
  unfold memb at h1; unfold dS memb; omega
theorem la_L1 {a : Nat → Nat → Bool} {bes : List Nat} {k : Nat} (h8 : k ≤ 8) (hbl : bes.length = k) (hb : ∀ v, bes.getD v 0 < 65536) (hba : ∀ v u, (bes.getD v 0).testBit u = a v u) (hirr : ∀ v, a v v = false) : ∀ (g : Nat) (os : List Nat) (M left : Nat), k - os.length < g → os.length ≤ k → La a k os M left →
    ∃ os' M', color_Last_L1 300 bes g (rowN os) (M : Int) left = some (rowN os', ((M' : Nat) : Int), 0) ∧ La a k os' M' 0
  | 0, os, M, left, h, _, _ => by omega
  | g+1, os, M, left, h, hol, L => by
    have hp := Nat.pow_le_pow_right (n := 2) (by omega) h8
    have h16 : left < 65536 := by have := L.lt; omega
    rw [color_Last_L1_s]
    by_cases hz : left = 0
    · subst hz
      rw [if_neg (by decide)]
      exact ⟨os, M, rfl, L⟩
    · rw [if_pos (bne_iff_ne.2 hz)]
      unfold sEach
      rw [if_pos h16, Option.bind_some]
      have hml : ∀ x ∈ memb left, x < bes.length := fun x hx => by rw [hbl]; exact bit_lt L.lt ((mem_memb h16).1 hx)
      obtain ⟨b, e1, e2, e3⟩ : ∃ b : Nat, color_Last_L2 300 bes left (memb left) (-1) = some (b : Int) ∧ b ∈ memb left ∧ ∀ x ∈ memb left, dS a left b ≤ dS a left x := by
        have hne := memb_ne h16 hz
        cases hm : memb left with
        | nil => exact absurd hm hne
        | cons x xs =>
          rw [hm] at hml
          obtain ⟨b', q1, q2, q3, q4⟩ := la_L2 (a := a) hb hba h16 xs x (hml x List.mem_cons_self) (fun y hy => hml y (List.mem_cons_of_mem _ hy))
          refine ⟨b', ?_, ?_, fun y hy => ?_⟩
          · rw [color_Last_L2_c, if_pos (by decide), Option.bind_some, if_pos rfl]; exact q1
          · rcases q2 with q2 | q2
            · rw [q2]; exact List.mem_cons_self
            · exact List.mem_cons_of_mem _ q2
          · rcases List.mem_cons.1 hy with rfl | hy
            · exact q3
            · exact q4 y hy
      have hbit := (mem_memb h16).1 e2
      have hbk := bit_lt L.lt hbit
      have hlen := len_ev hb hba (S := left) (v := b) h16
      rw [e1, Option.bind_some, ix_at 0 (by omega), Option.bind_some, hlen.1, Option.bind_some, hlen.2, Option.bind_some]
      have hap : appL [(b : Int)] (rowN os) = some (rowN (b :: os)) := by
        unfold appL rowN
        rw [List.length_map, if_pos (by rw [List.length_singleton]; omega)]; rfl
      have hwo : sWithout left (b : Int) = some (ndiff left (2 ^ b)) := by
        unfold sWithout; rw [if_pos ⟨h16, by omega, by omega⟩, Int.toNat_natCast]
      have hgm : gmax (M : Int) ((dS a left b : Nat) : Int) = ((max M (dS a left b) : Nat) : Int) := by
        unfold gmax
        split <;> omega
      rw [hap, Option.bind_some, hwo, Option.bind_some, hgm]
      have hbo : b ∉ os := fun q => by rw [((L.mem b).1 q).2] at hbit; cases hbit
      have hmem : ∀ v, v ∈ b :: os ↔ v < k ∧ (ndiff left (2 ^ b)).testBit v = false := fun v => by
        rw [List.mem_cons, L.mem, ndiff_testBit, Nat.testBit_two_pow]
        by_cases e : v = b
        · subst e; simp; exact hbk
        · have e' : ¬ b = v := fun q => e q.symm
          simp [e, e']
      have hle : (b :: os).length ≤ k := by
        have := nodup_len_le (l := b :: os) (l' := List.range k) (List.nodup_cons.2 ⟨hbo, L.nd⟩) (fun x hx => List.mem_range.2 ((hmem x).1 hx).1)
        rwa [List.length_range] at this
      have hdb : dN a k (b :: os) b = dS a left b := by
        unfold dN dS memb
        rw [List.filter_filter]
        have e : List.range 16 = List.range k ++ (List.range (16 - k)).map (k + ·) := by
          rw [← List.range_add]; congr 1; omega
        rw [e, List.filter_append]
        have e0 : ((List.range (16 - k)).map (k + ·)).filter (fun i => a b i && left.testBit i) = [] := by
          rw [List.filter_eq_nil_iff]
          intro x hx
          obtain ⟨y, _, rfl⟩ := List.mem_map.1 hx
          rw [Nat.testBit_lt_two_pow (Nat.lt_of_lt_of_le L.lt (Nat.pow_le_pow_right (by omega) (by omega)))]; simp
        rw [e0, List.append_nil]
        congr 1
        refine List.filter_congr fun u hu => ?_
        have huk := List.mem_range.1 hu
        by_cases eu : u = b
        · subst eu; rw [hirr]; simp
        · have e1 : (u ∉ b :: os) ↔ left.testBit u = true := by
            rw [hmem u, ndiff_testBit, Nat.testBit_two_pow]
            have e' : ¬ b = u := fun q => eu q.symm
            simp [huk, e']
          by_cases hq : left.testBit u = true
          · rw [decide_eq_true (e1.2 hq), hq, Bool.true_and, Bool.and_true]
          · rw [decide_eq_false (fun z => hq (e1.1 z)), Bool.eq_false_iff.2 hq, Bool.false_and, Bool.and_false]
      refine la_L1 h8 hbl hb hba hirr g (b :: os) _ _ (by simp at hle ⊢; omega) hle ⟨List.nodup_cons.2 ⟨hbo, L.nd⟩, hmem, Nat.lt_of_le_of_lt (ndiff_le _ _) L.lt, fun pre v post he => ?_, ?_, ?_⟩
      · cases pre with
        | nil =>
          rw [List.nil_append] at he
          obtain ⟨rfl, rfl⟩ := List.cons.inj he
          rw [hdb]; exact Nat.le_max_right _ _
        | cons p pre =>
          rw [List.cons_append] at he
          obtain ⟨_, he⟩ := List.cons.inj he
          exact Nat.le_trans (L.deg pre v post he) (Nat.le_max_left _ _)
      · have := dS_le a left b; have := L.m16; omega
      · by_cases c : M < dS a left b
        · rw [Nat.max_eq_right (by omega)]
          exact ⟨left, by omega, L.lt, fun v hv => e3 v ((mem_memb h16).2 hv)⟩
        · rw [Nat.max_eq_left (by omega)]
          exact L.ex
theorem last_ev {k : Nat} {l : List (Int × Int)} (h1 : 1 ≤ k) (h8 : k ≤ 8) (h24 : l.length ≤ 24) (hin : InL k l) (hne : ∀ p ∈ l, p.1 ≠ p.2) :
    ∃ os M, color_Last 300 (k : Int) l = some (rowN os, ((M : Nat) : Int), 0) ∧ La (aL l) k os M 0 := by
  have hg : good (k : Int) l := ⟨wf8 h8, by unfold maxLen; omega⟩
  have he := errG_ok h1 h8 h24 hin hne
  have hr := besM_row hin
  have hp := Nat.pow_le_pow_right (n := 2) (by omega) h8
  obtain ⟨os, M, e1, e2⟩ := la_L1 (a := aL l) (bes := besM k l) h8 hr.1 (fun v => getD_lt (fun m hm => by have := hr.2 m hm; omega) v) (fun v u => adj_besL hin v u) (aL_irr hne) 300 [] 0 (2 ^ k - 1) (by simp; omega) (by simp) ⟨List.nodup_nil, fun v => by
      rw [Nat.testBit_two_pow_sub_one]; simp, by have := Nat.two_pow_pos k; omega, fun pre v post he => absurd he (by simp), by omega, ⟨1, by omega, by have := Nat.pow_le_pow_right (n := 2) (by omega) h1; omega, fun v _ => Nat.zero_le _⟩⟩
  refine ⟨os, M, ?_, e2⟩
  unfold color_Last
  rw [mCheck_ev hg, he, Option.bind_some, if_neg (by decide), mBeside_ev hg he, Option.bind_some]
  unfold sBelow
  rw [if_pos (by omega), Int.toNat_natCast, Option.bind_some, show color_Last_L1 300 (besM k l) 300 [] 0 (2 ^ k - 1) = _ from e1]; rfl
end Go.Proofs.YtlecmgdkoanghaaDoor
