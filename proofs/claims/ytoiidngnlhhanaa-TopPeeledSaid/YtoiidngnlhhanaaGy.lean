import Derived.Test.YtoiidngnlhhanaaAl
import Derived.Test.YtoiidngnlhhanaaSev
import Derived.Test.YtoiidngnlhhanaaBy
/- plain: what color.By computes -/
set_option linter.all false
set_option maxRecDepth 100000
namespace Go.Proofs.Ytoiidngnlhhanaa
open Go.RowKit Go.Shelf Pl
/-- the first t points of an order have their colours -/
structure Gr (a : Nat → Nat → Bool) (os : List Nat) (k t : Nat) (out : List Int) : Prop where
  len : out.length = k
  un : ∀ v, v < k → v ∉ os.take t → out.getD v (-1) = -1
  co : ∀ s, s < t → ∃ c : Nat, out.getD (os.getD s 0) (-1) = (c : Int) ∧ c ≤ s ∧ (∀ d, d < c → ∃ r, r < s ∧ a (os.getD s 0) (os.getD r 0) = true ∧ out.getD (os.getD r 0) (-1) = (d : Int)) ∧
    ∀ r, r < s → a (os.getD s 0) (os.getD r 0) = true → out.getD (os.getD r 0) (-1) ≠ (c : Int)
theorem by_L3 (out : List Int) : ∀ (xs : List Nat) (has : Nat), (∀ x ∈ xs, x < out.length ∧ -1 ≤ out.getD x (-1) ∧ out.getD x (-1) < 8) → has < 256 →
    ∃ h', color_By_L3 300 out xs has = some h' ∧ h' < 256 ∧ ∀ c, h'.testBit c = true ↔ has.testBit c = true ∨ ∃ x ∈ xs, out.getD x (-1) = (c : Int)
  | [], has, hx, hh => ⟨has, by rw [color_By_L3_n], hh, fun c => by simp⟩
  | x :: xs, has, hx, hh => by
    obtain ⟨h1, h2, h3⟩ := hx x List.mem_cons_self
    rw [color_By_L3_c, ix_at (-1) h1, Option.bind_some]
    by_cases c : 0 ≤ out.getD x (-1)
    · obtain ⟨y, hy⟩ := Int.eq_ofNat_of_zero_le c
      rw [if_pos c, Option.bind_some]
      have hw : sWith has (out.getD x (-1)) = some (has ||| 2 ^ y) := by
        unfold sWith; rw [if_pos ⟨by omega, c, by omega⟩, hy, Int.toNat_natCast]
      have hlt : has ||| 2 ^ y < 256 := Nat.or_lt_two_pow (n := 8) hh (Nat.pow_lt_pow_right (by omega) (by omega))
      obtain ⟨h', e1, e2, e3⟩ := by_L3 out xs (has ||| 2 ^ y) (fun z hz => hx z (List.mem_cons_of_mem _ hz)) hlt
      rw [hw, Option.bind_some]
      refine ⟨h', e1, e2, fun d => ?_⟩
      rw [e3 d, Nat.testBit_or, Nat.testBit_two_pow, Bool.or_eq_true, decide_eq_true_eq]
      constructor
      · rintro ((q | q) | ⟨z, hz, q⟩)
        · exact .inl q
        · exact .inr ⟨x, List.mem_cons_self, by rw [hy, q]⟩
        · exact .inr ⟨z, List.mem_cons_of_mem _ hz, q⟩
      · rintro (q | ⟨z, hz, q⟩)
        · exact .inl (.inl q)
        · rcases List.mem_cons.1 hz with rfl | hz
          · exact .inl (.inr (by omega))
          · exact .inr ⟨z, hz, q⟩
    · rw [if_neg c]
      obtain ⟨h', e1, e2, e3⟩ := by_L3 out xs has (fun z hz => hx z (List.mem_cons_of_mem _ hz)) hh
      refine ⟨h', e1, e2, fun d => ?_⟩
      rw [e3 d]
      constructor
      · rintro (q | ⟨z, hz, q⟩)
        · exact .inl q
        · exact .inr ⟨z, List.mem_cons_of_mem _ hz, q⟩
      · rintro (q | ⟨z, hz, q⟩)
        · exact .inl q
        · rcases List.mem_cons.1 hz with rfl | hz
          · omega
          · exact .inr ⟨z, hz, q⟩
theorem by_L4 {out : List Int} {v has z : Nat} (hv : v < out.length) (hh : has < 256) (hz : has.testBit z = false) (hz8 : z < 60) : ∀ (g c : Nat), c ≤ z → z < c + g →
    ∃ m : Nat, color_By_L4 300 (v : Int) has g (out.set v (c : Int)) = some (out.set v (m : Int)) ∧ c ≤ m ∧ m ≤ z ∧ has.testBit m = false ∧ ∀ d, c ≤ d → d < m → has.testBit d = true
  | 0, c, h, hg => by omega
  | g+1, c, h, hg => by
    have hl : v < (out.set v (c : Int)).length := by rw [List.length_set]; exact hv
    have hs : sHas has (c : Int) = some (has.testBit c) := by unfold sHas; rw [if_pos ⟨by omega, by omega, by omega⟩, Int.toNat_natCast]
    rw [color_By_L4_s, ix_at (-1) hl, getD_set _ _ _ _ _ hv, if_pos rfl, Option.bind_some, hs, Option.bind_some]
    by_cases e : has.testBit c = true
    · have hne : c ≠ z := fun q => by subst q; rw [hz] at e; cases e
      rw [if_pos e, Option.bind_some, w64n (by omega), st_nat hl, Option.bind_some, List.set_set]
      obtain ⟨m, m1, m2, m3, m4, m5⟩ := by_L4 hv hh hz hz8 g (c+1) (by omega) (by omega)
      refine ⟨m, m1, by omega, m3, m4, fun d hd hdm => ?_⟩
      by_cases q : d = c
      · rw [q]; exact e
      · exact m5 d (by omega) hdm
    · rw [if_neg e]
      exact ⟨c, rfl, Nat.le_refl _, h, Bool.eq_false_iff.2 e, fun d h1 h2 => by omega⟩
theorem by_L2 {a : Nat → Nat → Bool} {bes os : List Nat} {k : Nat} (h8 : k ≤ 8) (hbl : bes.length = k) (hb : ∀ v, bes.getD v 0 < 65536) (hba : ∀ v u, (bes.getD v 0).testBit u = a v u) (hbk : ∀ v u, a v u = true → u < k) (hol : os.length = k) (hok : ∀ x ∈ os, x < k) (hn : os.Nodup)
    (hirr : ∀ v, a v v = false) : ∀ (g t : Nat) (out : List Int), k < t + g → t ≤ k → Gr a os k t out → ∃ out', color_By_L2 300 (rowN os) bes g (t : Int) out = some out' ∧ Gr a os k k out'
  | 0, t, out, h, ht, _ => by omega
  | g+1, t, out, h, ht, G => by
    rw [color_By_L2_s]
    by_cases hlt : t < k
    · obtain ⟨v, hv⟩ : ∃ v, v = os.getD t 0 := ⟨_, rfl⟩
      have hvk : v < k := by
        rw [hv]
        have e : os.getD t 0 = os[t] := by simp [List.getD, hol, hlt]
        rw [e]; exact hok _ (List.getElem_mem _)
      have hin : ∀ x, x < k → out.getD x (-1) ≠ -1 → ∃ r, r < t ∧ os.getD r 0 = x ∧ ∃ c : Nat, out.getD x (-1) = (c : Int) ∧ c ≤ r := by
        intro x hx hc
        have hm : x ∈ os.take t := Classical.byContradiction fun q => hc (G.un x hx q)
        obtain ⟨r, r1, r2, r3⟩ := mem_take' hm
        obtain ⟨c, c1, c2, _⟩ := G.co r r1
        exact ⟨r, r1, r3, c, by rw [← r3]; exact c1, c2⟩
      have hrange : ∀ x, x < k → -1 ≤ out.getD x (-1) ∧ out.getD x (-1) < 8 := by
        intro x hx
        by_cases q : out.getD x (-1) = -1
        · omega
        · obtain ⟨r, r1, r2, c, c1, c2⟩ := hin x hx q
          omega
      obtain ⟨h', e1, e2, e3⟩ := by_L3 out (memb (bes.getD v 0)) 0 (fun x hx => by
        have hxa := (mem_memb (hb v)).1 hx
        rw [hba] at hxa
        have hxk := hbk _ _ hxa
        exact ⟨by rw [G.len]; exact hxk, hrange x hxk⟩) (by omega)
      have e3' : ∀ c, h'.testBit c = true ↔ ∃ x, a v x = true ∧ out.getD x (-1) = (c : Int) := by
        intro c
        rw [e3 c, Nat.zero_testBit]
        constructor
        · rintro (q | ⟨x, hx, q⟩)
          · cases q
          · exact ⟨x, by rw [← hba]; exact (mem_memb (hb v)).1 hx, q⟩
        · rintro ⟨x, hx, q⟩
          exact .inr ⟨x, (mem_memb (hb v)).2 (by rw [hba]; exact hx), q⟩
      have hzt : h'.testBit t = false := by
        refine Bool.eq_false_iff.2 fun q => ?_
        obtain ⟨x, x1, x2⟩ := (e3' t).1 q
        obtain ⟨r, r1, r2, c, c1, c2⟩ := hin x (hbk _ _ x1) (by omega)
        omega
      have hvl : v < out.length := by rw [G.len]; exact hvk
      obtain ⟨m, m1, m2, m3, m4, m5⟩ := by_L4 hvl e2 hzt (by omega) 300 0 (by omega) (by omega)
      have hne : ∀ r, r < t → os.getD r 0 ≠ v := fun r hr q => by
        have := getD_inj hn (r := r) (s := t) (by omega) (by omega) (by rw [q, hv])
        omega
      have hkeep : ∀ r, r < t → (out.set v (m : Int)).getD (os.getD r 0) (-1) = out.getD (os.getD r 0) (-1) := fun r hr => by
        rw [getD_set _ _ _ _ _ hvl, if_neg (hne r hr)]
      have hself : (out.set v (m : Int)).getD v (-1) = (m : Int) := by rw [getD_set _ _ _ _ _ hvl, if_pos rfl]
      have G' : Gr a os k (t+1) (out.set v (m : Int)) := by
        refine ⟨by rw [List.length_set]; exact G.len, fun u hu hm => ?_, fun s hs => ?_⟩
        · have huv : u ≠ v := fun q => hm (by rw [q, hv]; exact take_mem' (by omega) (by omega))
          rw [getD_set _ _ _ _ _ hvl, if_neg huv]
          refine G.un u hu fun q => hm ?_
          obtain ⟨r, r1, r2, r3⟩ := mem_take' q
          rw [← r3]; exact take_mem' (by omega) r2
        · by_cases es : s = t
          · subst es
            refine ⟨m, by rw [← hv]; exact hself, m3, fun d hd => ?_, fun r hr har => ?_⟩
            · obtain ⟨x, x1, x2⟩ := (e3' d).1 (m5 d (Nat.zero_le _) hd)
              obtain ⟨r, r1, r2, _⟩ := hin x (hbk _ _ x1) (by omega)
              exact ⟨r, r1, by rw [← hv, r2]; exact x1, by rw [hkeep r r1, r2]; exact x2⟩
            · rw [hkeep r hr]
              intro q
              have : h'.testBit m = true := (e3' m).2 ⟨_, by rw [hv]; exact har, q⟩
              rw [m4] at this; cases this
          · obtain ⟨c, c1, c2, c3, c4⟩ := G.co s (by omega)
            refine ⟨c, by rw [hkeep s (by omega)]; exact c1, c2, fun d hd => ?_, fun r hr har => ?_⟩
            · obtain ⟨r, r1, r2, r3⟩ := c3 d hd
              exact ⟨r, r1, r2, by rw [hkeep r (by omega)]; exact r3⟩
            · rw [hkeep r (by omega)]; exact c4 r hr har
      obtain ⟨out', o1, o2⟩ := by_L2 h8 hbl hb hba hbk hol hok hn hirr g (t+1) _ (by omega) (by omega) G'
      refine ⟨out', ?_, o2⟩
      unfold rowN at o1 ⊢
      rw [List.length_map, hol, if_pos (by omega), ix_map (by omega), Option.bind_some, ← hv, ix_at 0 (by omega), Option.bind_some]
      unfold sEach
      rw [if_pos (hb v), Option.bind_some, e1, Option.bind_some, st_nat hvl, Option.bind_some]
      rw [show color_By_L4 300 (v : Int) h' 300 (out.set v 0) = _ from m1, Option.bind_some, w64n (by omega)]
      exact o1
    · have : t = k := by omega
      subst this
      unfold rowN
      rw [List.length_map, hol, if_neg (by omega)]
      exact ⟨out, rfl, G⟩
/-- the first double of an order -/
theorem by_L1 {os : List Int} (hl : os.length < 300) : ∀ (g j : Nat), os.length < j + g → j ≤ os.length → (os.take j).Nodup →
    (color_By_L1 300 os g (j : Int) = some (.inl ()) ∧ os.Nodup) ∨ (color_By_L1 300 os g (j : Int) = some (.inr ([], 6)) ∧ ¬ os.Nodup)
  | 0, j, h, hj, _ => by omega
  | g+1, j, h, hj, hn => by
    rw [color_By_L1_s]
    by_cases hlt : j < os.length
    · have htk : tk os (j : Int) = some (os.take j) := by unfold tk; rw [if_pos (by omega), Int.toNat_natCast]
      rw [if_pos (by omega), ix_nat hlt, Option.bind_some, htk, Option.bind_some, slContains_ev _ (by rw [List.length_take]; omega), Option.bind_some, w64n (by omega)]
      have hs : os.take (j+1) = os.take j ++ [os[j]] := by rw [List.take_succ_eq_append_getElem hlt]
      by_cases hm : os[j] ∈ os.take j
      · rw [decide_eq_true hm, if_pos rfl]
        refine .inr ⟨rfl, fun q => ?_⟩
        have : (os.take (j+1)).Nodup := List.Nodup.sublist (List.take_sublist _ _) q
        rw [hs, List.nodup_append] at this
        exact this.2.2 _ hm _ (List.mem_singleton.2 rfl) rfl
      · rw [decide_eq_false hm, if_neg (by decide)]
        refine by_L1 hl g (j+1) (by omega) (by omega) ?_
        rw [hs, List.nodup_append]
        exact ⟨hn, by simp, fun x hx y hy e => by rw [List.mem_singleton.1 hy] at e; subst e; exact hm hx⟩
    · have : j = os.length := by omega
      subst this
      rw [if_neg (by omega)]
      rw [List.take_length] at hn
      exact .inl ⟨rfl, hn⟩
end Go.Proofs.Ytoiidngnlhhanaa
