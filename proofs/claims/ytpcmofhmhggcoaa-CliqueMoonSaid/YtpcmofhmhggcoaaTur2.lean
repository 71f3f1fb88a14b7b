import Derived.Test.YtpcmofhmhggcoaaG5
import Derived.Test.YtpcmofhmhggcoaaEv1
import Derived.Test.YtpcmofhmhggcoaaTur
set_option linter.all false
namespace Go.Proofs.Ytpcmofhmhggcoaa
open Go.RowKit Go.Shelf Pl
theorem L3_in_ev (F : Nat) (n a b : Int) : L3_in F n a b = some (decide (a ≤ n ∧ n ≤ b)) := by
  unfold L3_in
  by_cases h1 : a ≤ n <;> by_cases h2 : n ≤ b <;> simp [h1, h2]
theorem pc_le (f : Nat → Bool) : ∀ n, pc f n ≤ n
  | 0 => Nat.le_refl _
  | n+1 => by have := pc_le f n; unfold pc; split <;> omega
theorem tri_le (f : Nat → Nat → Bool) : ∀ n ≤ 8, tri f n ≤ 8 * n
  | 0, _ => Nat.le_refl _
  | n+1, h => by have := tri_le f n (by omega); have := pc_le (f n) n; unfold tri; omega
theorem md_ev {a r : Nat} (h : 1 ≤ r) : md (a : Int) (r : Int) = some ((a % r : Nat) : Int) := by
  unfold md; rw [if_neg (by omega), Int.ofNat_tmod]
theorem tur_L2 {F : Nat} {l : List (Int × Int)} {r : Nat} (hr : 1 ≤ r) (a : Nat) (ha : a ≤ 8) (hF : l.length < F) (hl : l.length < 9223372036854775807) (p m : Nat) (hp : p ≤ 1000) (hm : m ≤ 1000) : ∀ g b, a < g + b → b ≤ a →
    L3_CliqueTuran_L2 F l (r : Int) (a : Int) g ((p + pc (fun b => besL l a b) b : Nat) : Int) ((m + pc (fun b => a % r != b % r) b : Nat) : Int) (b : Int) =
      some (((p + pc (fun b => besL l a b) a : Nat) : Int), ((m + pc (fun b => a % r != b % r) a : Nat) : Int), (a : Int))
  | 0, b, h, hb => by omega
  | g+1, b, h, hb => by
    rw [L3_CliqueTuran_L2_s]
    have q1 := pc_le (fun b => besL l a b) b
    have q2 := pc_le (fun b => a % r != b % r) b
    by_cases hlt : b < a
    · have ih := tur_L2 hr a ha hF hl p m hp hm g (b+1) (by omega) (by omega)
      rw [if_pos (by omega), R1_Beside_ev _ _ hF hl, Option.bind_some]
      simp only [md_ev hr, Option.bind_some]
      rw [w64n (by omega), w64n (by omega), w64n (by omega)]
      have e1 : ((((a % r : Nat) : Int) != ((b % r : Nat) : Int)) = true) ↔ (a % r != b % r) = true := by simp; omega
      by_cases x1 : besL l a b = true <;> by_cases x2 : (a % r != b % r) = true
      · rw [if_pos x1, if_pos (e1.2 x2), ← ih]
        simp only [pc, x1, x2, if_true, ← Nat.add_assoc]
      · rw [if_pos x1, if_neg (fun h => x2 (e1.1 h)), ← ih]
        simp only [pc, x1, x2, if_true, ← Nat.add_assoc]; simp
      · rw [if_neg x1, if_pos (e1.2 x2), ← ih]
        simp only [pc, x1, x2, if_true, ← Nat.add_assoc]; simp
      · rw [if_neg x1, if_neg (fun h => x2 (e1.1 h)), ← ih]
        simp only [pc, x1, x2]; simp
    · have : b = a := by omega
      rw [if_neg (by omega), this]
theorem tur_L1 {F : Nat} {l : List (Int × Int)} {r : Nat} (hr : 1 ≤ r) (n : Nat) (hn : n ≤ 8) (hF : l.length < F) (hF9 : 9 < F) (hl : l.length < 9223372036854775807) : ∀ g a, n < g + a → a ≤ n →
    L3_CliqueTuran_L1 F (n : Int) l (r : Int) g ((tri (fun a b => besL l a b) a : Nat) : Int) ((tur a r : Nat) : Int) (a : Int) =
      some (((tri (fun a b => besL l a b) n : Nat) : Int), ((tur n r : Nat) : Int), (n : Int))
  | 0, a, h, ha => by omega
  | g+1, a, h, ha => by
    rw [L3_CliqueTuran_L1_s]
    by_cases hlt : a < n
    · have q1 := tri_le (fun a b => besL l a b) a (by omega)
      have q2 := tri_le (fun a b => a % r != b % r) a (by omega)
      have h2 := tur_L2 hr a (by omega) hF hl (tri (fun a b => besL l a b) a) (tur a r) (by omega) (by unfold tur; omega) F 0 (by omega) (by omega)
      have ih := tur_L1 hr n hn hF hF9 hl g (a+1) (by omega) (by omega)
      simp only [pc, Nat.add_zero] at h2
      rw [if_pos (by omega), show (0 : Int) = ((0 : Nat) : Int) from rfl, h2, Option.bind_some, w64n (by omega)]
      exact ih
    · have : a = n := by omega
      rw [if_neg (by omega), this]
theorem mostOf_le {ms : List Nat} {c : Nat} (h : ∀ m ∈ ms, (memb m).length ≤ c) : mostOf ms ≤ c := by
  unfold mostOf
  have key : ∀ (ms : List Nat) (a : Nat), a ≤ c → (∀ m ∈ ms, (memb m).length ≤ c) → ms.foldl (fun a m => max a (memb m).length) a ≤ c := by
    intro ms
    induction ms with
    | nil => intro a h _; exact h
    | cons x ms ih => intro a h h2; exact ih _ (Nat.max_le.2 ⟨h, h2 x List.mem_cons_self⟩) (fun m hm => h2 m (List.mem_cons_of_mem _ hm))
  exact key ms 0 (by omega) h
/-- what whole finds lies in has and may -/
theorem whole_sub (bes : List Nat) : ∀ (d has may not K : Nat), may < 65536 → K ∈ wholeM bes d has may not → ∀ v, K.testBit v = true → has.testBit v = true ∨ may.testBit v = true := by
  intro d
  induction d with
  | zero =>
    intro has may not K _ hK v hv
    unfold wholeM at hK
    split at hK
    · split at hK
      · simp at hK; subst hK; exact .inl hv
      · cases hK
    · cases hK
  | succ d ih =>
    intro has may not K hm hK v hv
    unfold wholeM at hK
    split at hK
    · split at hK
      · simp at hK; subst hK; exact .inl hv
      · cases hK
    · have key : ∀ (pts : List Nat) (st : List Nat × Nat × Nat), (∀ i ∈ pts, may.testBit i = true) → (∀ j, st.2.1.testBit j = true → may.testBit j = true) → (∀ K ∈ st.1, ∀ v, K.testBit v = true → has.testBit v = true ∨ may.testBit v = true) →
          ∀ K ∈ (pts.foldl (wstep (wholeM bes d) bes has) st).1, ∀ v, K.testBit v = true → has.testBit v = true ∨ may.testBit v = true := by
        intro pts
        induction pts with
        | nil => intro st _ _ h; exact h
        | cons i pts ih2 =>
          intro st hp hs h
          refine ih2 _ (fun j hj => hp j (List.mem_cons_of_mem _ hj)) (fun j hj => ?_) ?_
          · simp only [wstep, ndiff_testBit, Bool.and_eq_true] at hj; exact hs j hj.1
          · intro K hK v hv
            simp only [wstep] at hK
            rcases List.mem_append.1 hK with hK | hK
            · exact h K hK v hv
            · have hst : st.2.1 < 65536 := by
                refine Nat.lt_pow_two_of_testBit (n := 16) _ fun i hi => ?_
                cases e : st.2.1.testBit i
                · rfl
                · have := hs i e
                  rw [Nat.testBit_lt_two_pow (Nat.lt_of_lt_of_le hm (Nat.pow_le_pow_right (n := 2) (by omega) hi))] at this; cases this
              rcases ih _ _ _ K (and_lt hst) hK v hv with h1 | h1
              · rw [Nat.testBit_or, Nat.testBit_two_pow, Bool.or_eq_true, decide_eq_true_eq] at h1
                rcases h1 with h1 | rfl
                · exact .inl h1
                · exact .inr (hp _ List.mem_cons_self)
              · rw [Nat.testBit_and, Bool.and_eq_true] at h1
                exact .inr (hs v h1.1)
      exact key _ _ (fun i hi => memb_bit hi) (fun _ h => h) (fun _ h => (by cases h)) K hK v hv
theorem adj_besL {n : Nat} {l : List (Int × Int)} (h : InL n l) (i j : Nat) : adj (besM n l) i j = besL l i j := by
  unfold adj besL goes
  rw [besM_bit h, ]
  have e : ∀ p ∈ l, (decide (p.1.toNat = i) && decide (p.2.toNat = j)) = (p.1 == (i : Int) && p.2 == (j : Int)) ∧ (decide (p.2.toNat = i) && decide (p.1.toNat = j)) = (p.1 == (j : Int) && p.2 == (i : Int)) := by
    intro p hp
    have := h p hp
    constructor <;> rw [Bool.eq_iff_iff] <;> simp <;> omega
  congr 1
  · rw [Bool.eq_iff_iff, List.any_eq_true, List.any_eq_true]
    exact ⟨fun ⟨p, hp, h1⟩ => ⟨p, hp, by rw [← (e p hp).1]; exact h1⟩, fun ⟨p, hp, h1⟩ => ⟨p, hp, by rw [(e p hp).1]; exact h1⟩⟩
  · rw [Bool.eq_iff_iff, List.any_eq_true, List.any_eq_true]
    exact ⟨fun ⟨p, hp, h1⟩ => ⟨p, hp, by rw [← (e p hp).2]; exact h1⟩, fun ⟨p, hp, h1⟩ => ⟨p, hp, by rw [(e p hp).2]; exact h1⟩⟩
theorem most_bounds {k : Nat} {l : List (Int × Int)} (h1 : 1 ≤ k) (h8 : k ≤ 8) (hin : InL k l) (hne : ∀ p ∈ l, p.1 ≠ p.2) : 1 ≤ mostOf (cliquesM k l) ∧ mostOf (cliquesM k l) ≤ k := by
  constructor
  · exact clique_most (besM k l) (besM_sym hin) (besM_ne hin hne) h8 [0] (by simp) (by simp; omega) (by intro u hu v hv hne; simp at hu hv; omega)
  · refine mostOf_le fun m hm => ?_
    have hs := whole_sub (besM k l) 8 0 (2 ^ k - 1) 0 m (by have := Nat.pow_le_pow_right (n := 2) (by omega) h8; omega) hm
    have h2 : (memb m).length ≤ (List.range k).length := by
      refine nodup_len_le (List.nodup_range.filter _) fun x hx => ?_
      have := memb_bit hx
      rcases hs x this with h | h
      · rw [Nat.zero_testBit] at h; cases h
      · rw [ones_bit, decide_eq_true_eq] at h; exact List.mem_range.2 h
    simpa using h2
theorem turan_says {n : Int} {l : List (Int × Int)} (hg : good n l) : ∃ F, L3_CliqueTuran F n l = some true := by
  refine ⟨l.length + 10, ?_⟩
  generalize hF : l.length + 10 = F
  unfold L3_CliqueTuran
  simp only [mFact, mMost, if_pos hg, Option.bind_some]
  by_cases he : errG n l = 0
  · obtain ⟨k, rfl, hk1, hk8, hl24, hin, hne⟩ := errG_zero he
    have hl : l.length < 9223372036854775807 := by omega
    obtain ⟨b1, b2⟩ := most_bounds hk1 hk8 hin hne
    have hm : mostM (k : Int) l = ((mostOf (cliquesM k l) : Nat) : Int) := by unfold mostM; rw [if_pos he]; rfl
    have hT := tur_L1 (F := F) (l := l) b1 k hk8 (by omega) (by omega) hl F 0 (by omega) (by omega)
    have hb := turan_range (a := adj (besM k l)) (r := mostOf (cliquesM k l)) (besM_sym hin) (besM_ne hin hne) hk8 b1 (Nat.le_trans b2 hk8) (fun C c1 c2 c3 => clique_most (besM k l) (besM_sym hin) (besM_ne hin hne) hk8 C c1 c2 c3)
    have ht : tri (adj (besM k l)) k = tri (fun a b => besL l a b) k := by
      rw [show adj (besM k l) = fun a b : Nat => besL l a b from funext fun i => funext fun j => adj_besL hin i j]
    rw [ht] at hb
    rw [hm]
    generalize mostOf (cliquesM k l) = r at *
    simp only [L3_in_ev, R1_Lines_ev (show l.length < F by omega) hl, he, Option.bind_some]
    have h3 : decide ((1 : Int) ≤ (r : Int) ∧ (r : Int) ≤ (k : Int)) = true := by simp; omega
    simp only [tri, tur] at hT
    simp only [h3]
    have hT' : L3_CliqueTuran_L1 F (k : Int) l (r : Int) F 0 0 0 = _ := hT
    simp [hT']
    exact hb
  · have hm : mostM n l = 0 := by unfold mostM; rw [if_neg he]
    rw [hm]; simp [he]
theorem cliqueTuran_any (w : World) (n : Int) (hn : (Lit.int .i64 n).wf = true) (A : Option Addr) (cap : Nat) (l : List (Int × Int)) (hr : ReadsL w w.heap.size A l) (hl : l.length ≤ maxLen) :
    Calls Try.prog 4 #[.int .i64 n, .slice A l.length cap] w fun e w' => e = .returned (.bool true) ∧ Below w.heap.size w w' := by
  obtain ⟨F, h⟩ := turan_says (n := n) (l := l) ⟨hn, hl⟩
  exact L3_CliqueTuran_ok w cap hr h
end Go.Proofs.Ytpcmofhmhggcoaa
