import Derived.Test.YthgejnjfikljcaaMC
import Derived.Test.YthgejnjfikljcaaML
import Derived.Test.YthgejnjfikljcaaF4
/- MeanShift -/
set_option linter.all false
set_option maxRecDepth 100000
namespace Go.Proofs.Ythgejnjfikljcaa
open Go.RowKit Pl
theorem turn_L1 (l : List Cost) (hl : l.length ≤ 24) : ∀ g t out, t < g → t ≤ l.length → out = turn (l.drop t) →
    ∃ z, L3_MeanShift_L1 300 l g out ((t : Int) - 1) = some (turn l, z)
  | 0, t, out, h, _, _ => by omega
  | g+1, t, out, h, ht, ho => by
    rw [L3_MeanShift_L1_s]
    cases t with
    | zero => rw [if_neg (by omega)]; rw [List.drop_zero] at ho; exact ⟨_, by rw [ho]⟩
    | succ t =>
      have e1 : (((t + 1 : Nat) : Int) - 1) = (t : Int) := by omega
      have hlen : (turn (l.drop (t+1))).length ≤ 24 := by rw [turn_len, List.length_drop]; omega
      rw [e1, if_pos (by omega), ix_nat (show t < l.length by omega)]
      simp only [Option.bind_some]
      rw [show app out (l[t].2.1, l[t].1, l[t].2.2) = some (out ++ [(l[t].2.1, l[t].1, l[t].2.2)]) from if_pos (by rw [ho]; omega), Option.bind_some, w64 (by omega) (by omega)]
      refine turn_L1 l hl g t _ (by omega) (by omega) ?_
      rw [ho, List.drop_eq_getElem_cons (show t < l.length by omega)]
      unfold turn
      rw [List.reverse_cons, List.map_append]; rfl
theorem more_L2 (l : List Cost) (c : Int) (hc : 0 ≤ c ∧ c ≤ 20) (hl : l.length ≤ 24) (hb : ∀ e ∈ l, 0 ≤ e.2.2 ∧ e.2.2 ≤ 20) : ∀ g t out, l.length < g + t → t ≤ l.length → out = (l.take t).map (mo c) →
    ∃ z, L3_MeanShift_L2 300 l c g out (t : Int) = some (l.map (mo c), z)
  | 0, t, out, h, _, _ => by omega
  | g+1, t, out, h, ht, ho => by
    rw [L3_MeanShift_L2_s]
    by_cases hlt : t < l.length
    · have hlen : out.length ≤ 24 := by rw [ho, List.length_map, List.length_take]; omega
      have hbt := hb l[t] (List.getElem_mem hlt)
      rw [if_pos (by omega), ix_nat hlt]
      simp only [Option.bind_some]
      rw [w64 (by omega) (by omega), show app out (l[t].1, l[t].2.1, l[t].2.2 + c) = some (out ++ [(l[t].1, l[t].2.1, l[t].2.2 + c)]) from if_pos (by omega), Option.bind_some, w64n (by omega)]
      have := more_L2 l c hc hl hb g (t+1) (out ++ [(l[t].1, l[t].2.1, l[t].2.2 + c)]) (by omega) (by omega) (by
        rw [ho, List.take_succ_eq_append_getElem hlt, List.map_append]; rfl)
      exact this
    · obtain rfl : t = l.length := by omega
      rw [if_neg (by omega), ho, List.take_length]; exact ⟨_, rfl⟩
theorem errs_more {n : Int} {c : Int} : ∀ {l : List Cost}, errCs n l = 0 → errCs n (l.map (mo c)) = 0 ∨ errCs n (l.map (mo c)) = 1
  | [], _ => .inl rfl
  | e :: l, h => by
    unfold errCs at h
    split at h
    · cases h
    · rename_i h1
      split at h
      · cases h
      · rename_i h2
        rw [List.map_cons]
        unfold errCs
        by_cases q : ¬ (((0 ≤ (mo c e).1 ∧ (mo c e).1 ≤ n - 1) ∧ (0 ≤ (mo c e).2.1 ∧ (mo c e).2.1 ≤ n - 1)) ∧ (0 ≤ (mo c e).2.2 ∧ (mo c e).2.2 ≤ 20))
        · rw [if_pos q]; exact .inr rfl
        · rw [if_neg q, if_neg (show ¬ (mo c e).1 = (mo c e).2.1 from h2)]
          exact errs_more h
theorem shift_says (n : Int) (l : List Cost) (c : Int) : L3_MeanShift 300 n l c = some true := by
  unfold L3_MeanShift
  rw [fact_ev, Option.bind_some, if_pos rfl]
  rcases least_ev n l with ⟨he, h⟩ | ⟨he, h, _⟩ | ⟨k, a, b, he, rfl, h, hM, hg⟩
  · rw [h]; simp [he]
  · rw [h]; simp
  · obtain ⟨k', hk', hk1, hk8, hl24, hin⟩ := errC_zero he
    obtain rfl : k = k' := by omega
    have a1 := hM.a1; have b0 := hM.b0; have b1 := hM.b1
    obtain ⟨z, t1⟩ := turn_L1 l hl24 300 l.length [] (by omega) (Nat.le_refl _) (by rw [List.drop_length]; rfl)
    have t1' : L3_MeanShift_L1 300 l 300 [] ((l.length : Int) - 1) = _ := t1
    have hMt := turn_mw hM.mw
    have t2 : mean_Least 300 (k : Int) (turn l) = some ((a : Int), (b : Int), 0) := by
      rcases least_ev (k : Int) (turn l) with ⟨he', _⟩ | ⟨_, _, h3⟩ | ⟨k', a', b', _, hk', h', hM', hg'⟩
      · exact absurd (errC_of hk1 hk8 (by rw [turn_len]; exact hl24) (turn_in hin)) he'
      · obtain ⟨u, es, p1, p2, p3, p4, _⟩ := hMt.one
        exact absurd (h3 u es p1 p2 p3) p4
      · obtain rfl : k = k' := by omega
        obtain ⟨rfl, rfl⟩ := hMt.eq hM'.mw hg hg'
        exact h'
    rw [h, Option.bind_some, if_neg (by simp), w64 (show -9223372036854775808 ≤ (l.length : Int) - 1 by omega) (by omega), t1', Option.bind_some, t2, Option.bind_some]
    simp only [bne_self_eq_false, Bool.false_eq_true, if_false, Option.bind_some]
    rw [L3_in_ev, Option.bind_some]
    by_cases hc : 0 ≤ c ∧ c ≤ 20
    · obtain ⟨z2, m1⟩ := more_L2 l c hc hl24 (fun e he => (hin e he).2.2.1) 300 0 [] (by omega) (Nat.zero_le _) rfl
      have m1' : L3_MeanShift_L2 300 l c 300 [] 0 = _ := m1
      rw [if_pos (decide_eq_true hc), m1', Option.bind_some, R3_Costs_ev]
      have hMm := mo_mw (c := c) hM.mw
      have hw : wrap64 ((a : Int) + wrap64 (c * (b : Int))) = (a : Int) + c * (b : Int) := by
        have := small_mul (x := c) (y := (b : Int)) (by omega) (by omega) (by omega) (by omega)
        rw [w64 (x := c * (b : Int)) (by omega) (by omega), w64 (by omega) (by omega)]
      have hcb : ∃ a2 : Nat, (a2 : Int) = (a : Int) + c * (b : Int) ∧ Nat.gcd b a2 = 1 := by
        obtain ⟨c', rfl⟩ := Int.eq_ofNat_of_zero_le hc.1
        exact ⟨a + c' * b, by push_cast; rfl, by rw [Nat.gcd_add_mul_right_right]; exact hg⟩
      rcases least_ev (k : Int) (l.map (mo c)) with ⟨he', h'⟩ | ⟨_, _, h3⟩ | ⟨k', a', b', _, hk', h', hM', hg'⟩
      · have e1 : errC (k : Int) (l.map (mo c)) = 1 := by
          have := errs_more (c := c) (errCs_of hin)
          unfold errC at he' ⊢
          rw [if_neg (by omega), if_neg (by rw [List.length_map]; omega)] at he' ⊢
          exact this.resolve_left he'
        rw [h', e1]; simp
      · obtain ⟨u, es, p1, p2, p3, p4, _⟩ := hMm.one
        exact absurd (h3 u es p1 p2 p3) p4
      · obtain rfl : k = k' := by omega
        obtain ⟨a2, q1, q2⟩ := hcb
        rw [← q1] at hMm
        obtain ⟨rfl, rfl⟩ := hMm.eq hM'.mw q2 hg'
        rw [h', hw, q1]
        have i1 : decide ((1 : Int) ≤ (b' : Int) ∧ (b' : Int) ≤ 8) = true := by simp; omega
        simp only [Option.bind_some, L3_in_ev, i1]
        simp
    · rw [if_neg (by simpa using hc)]
theorem meanShift_any (w : World) (n : Int) (hn : (Lit.int .i64 n).wf = true) (A : Option Addr) (cap : Nat) (l : List Cost) (hr : ReadsC w w.heap.size A l) (hl : l.length ≤ maxLen) (c : Int) (hc : (Lit.int .i64 c).wf = true) :
    Calls Try.prog 4 #[.int .i64 n, .slice A l.length cap, .int .i64 c] w fun e w' => e = .returned (.bool true) ∧ Below w.heap.size w w' :=
  L3_MeanShift_ok w cap hr (shift_says n l c)
end Go.Proofs.Ythgejnjfikljcaa
