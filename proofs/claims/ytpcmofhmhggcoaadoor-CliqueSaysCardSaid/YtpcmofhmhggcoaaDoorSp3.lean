import Derived.Test.YtpcmofhmhggcoaaDoorSp2
/- CliqueSays -/
set_option linter.all false
set_option maxRecDepth 100000
namespace Go.Proofs.YtpcmofhmhggcoaaDoor
open Go.RowKit Go.Shelf
open Pl hiding adj nodup_len_le maskOf maskOf_bit maskOf_lt memb_less
theorem rows_L1 {a : List (List Int)} (ha : a.length ≤ 256) (hr : ∀ x ∈ a, x.length ≤ 16) : ∀ (g i : Nat), a.length < i + g → i ≤ a.length → ∃ x, SE_Rows_L1 300 a a g (i : Int) = some (.inl x)
  | 0, i, h, hi => by omega
  | g+1, i, h, hi => by
    rw [SE_Rows_L1_s]
    by_cases hlt : i < a.length
    · have hi1 := ix_at (l := a) (i := i) [] hlt
      have hm : a.getD i [] ∈ a := by
        have : a.getD i [] = a[i] := by simp [List.getD, hlt]
        rw [this]; exact List.getElem_mem _
      have := hr _ hm
      rw [if_pos (by omega), hi1, Option.bind_some, Option.bind_some, SE_Ints_ev (by omega) (by omega), Option.bind_some, if_pos (by simp), w64n (by omega)]
      exact rows_L1 ha hr g (i+1) (by omega) (by omega)
    · rw [if_neg (by omega)]; exact ⟨_, rfl⟩
theorem rows_self {a : List (List Int)} (ha : a.length ≤ 256) (hr : ∀ x ∈ a, x.length ≤ 16) : SE_Rows 300 a a = some true := by
  unfold SE_Rows
  obtain ⟨x, hx⟩ := rows_L1 ha hr 300 0 (by omega) (by omega)
  rw [if_neg (by simp), show SE_Rows_L1 300 a a 300 0 = _ from hx]; rfl
theorem bound_of {k T : Nat} (h : ∀ v, T.testBit v = true → v < k) : T < 2 ^ k := by
  refine Nat.lt_pow_two_of_testBit T fun v hv => ?_
  cases e : T.testBit v
  · rfl
  · have := h v e; omega
/-- what whole finds are the sets that none can join -/
theorem whole_iff {l : List (Int × Int)} {k : Nat} (h1 : 1 ≤ k) (h8 : k ≤ 8) (hin : InL k l) (hne : ∀ p ∈ l, p.1 ≠ p.2) (T : Nat) : T ∈ cliquesM k l ↔ 1 ≤ T ∧ T < 2 ^ k ∧ MaxP l k T := by
  have hp := Nat.pow_le_pow_right (n := 2) (by omega) h8
  have hsym := besM_sym hin
  have hnl : NoLoop (besM k l) := besM_ne hin hne
  have hadj : ∀ i j, Pl.adj (besM k l) i j = aL l i j := fun i j => adj_besL hin i j
  constructor
  · intro hT
    have hf := (whole_sound (besM k l) hsym hnl 8 0 (2 ^ k - 1) 0 (fun u v hu => by rw [Nat.zero_testBit] at hu; cases hu) (fun v _ u hu => by rw [Nat.zero_testBit] at hu; cases hu)).2 T hT
    have hmx : MaxP l k T := by
      refine ⟨fun u v hu hv hne' => by rw [← hadj]; exact hf.clq u v hu hv hne', fun v hv hfalse => ?_⟩
      obtain ⟨u, u1, u2⟩ := hf.max v (.inl (by rw [ones_bit]; exact decide_eq_true hv)) hfalse
      exact ⟨u, u1, by rw [← hadj]; exact u2⟩
    refine ⟨?_, bound_of fun v hv => ?_, hmx⟩
    · rcases Nat.eq_zero_or_pos T with h | h
      · subst h
        obtain ⟨u, u1, _⟩ := hmx.2 0 (by omega) (Nat.zero_testBit 0)
        rw [Nat.zero_testBit] at u1; cases u1
      · exact h
    · rcases hf.sub v hv with h | h
      · rw [Nat.zero_testBit] at h; cases h
      · rw [ones_bit] at h; exact of_decide_eq_true h
  · rintro ⟨_, hT, hm⟩
    refine whole_complete (besM k l) hsym hnl 8 0 (2 ^ k - 1) 0 T ?_ (by omega) (by omega) ?_ ?_ ?_ ?_ ?_
    · have e : ∀ j ≤ 8, (memb (2 ^ j - 1)).length ≤ 8 := by decide
      exact e k h8
    · intro v _ u hu; rw [Nat.zero_testBit] at hu; cases hu
    · intro v hv; rw [Nat.zero_testBit] at hv; cases hv
    · intro v hv; right; rw [ones_bit, decide_eq_true_eq]; exact bitLt hT hv
    · intro u v hu hv hne'; rw [hadj]; exact hm.1 u v hu hv hne'
    · intro v hv hf
      have hvk : v < k := by
        rcases hv with h | h
        · rw [ones_bit] at h; exact of_decide_eq_true h
        · rw [Nat.zero_testBit] at h; cases h
      obtain ⟨u, u1, u2⟩ := hm.2 v hvk hf
      exact ⟨u, u1, by rw [hadj]; exact u2⟩
theorem memb_inj {S T : Nat} (hS : S < 65536) (hT : T < 65536) (h : memb S = memb T) : S = T := by
  refine Nat.eq_of_testBit_eq fun v => ?_
  rw [Bool.eq_iff_iff, ← mem_memb hS, ← mem_memb hT, h]
theorem cliques_ev {l : List (Int × Int)} {k : Nat} (h1 : 1 ≤ k) (h8 : k ≤ 8) (h24 : l.length ≤ 24) (hin : InL k l) (hne : ∀ p ∈ l, p.1 ≠ p.2) : R3_Cliques 300 (k : Int) l = some ((cliquesM k l).map membI) ∧ (cliquesM k l).length ≤ 256 := by
  have hp := Nat.pow_le_pow_right (n := 2) (by omega) h8
  have hnl : NoLoop (besM k l) := besM_ne hin hne
  obtain ⟨Bs, x, q1, q2, q3, q4⟩ := cl_L1 (l := l) h24 h8 300 1 [] (by omega) (Nat.one_le_two_pow) (by simp)
  have hBs : ∀ T ∈ Bs, T < 65536 := fun T hT => by have := (q2 T).1 hT; omega
  rw [List.nil_append] at q4
  have hnd : (Bs.map memb).Nodup := by
    rw [List.Nodup, List.pairwise_map]
    refine q3.imp_of_mem fun {a b} ha hb hlt e => ?_
    have := memb_inj (hBs a ha) (hBs b hb) e; omega
  have hA : ∀ a ∈ Bs.map memb, a.length ≤ 16 := fun a ha => by
    obtain ⟨T, _, rfl⟩ := List.mem_map.1 ha
    exact memb_len16 T
  obtain ⟨Cs, u, y, r1, r2, r3⟩ := sel_ev hA hnd (by rw [List.length_map]; omega)
  have hcs : Cs = (cliquesM k l).map memb := by
    refine sorted_unique r2 ?_ fun a => ?_
    · rw [List.pairwise_map]
      have hs := (whole_sorted (besM k l) hnl 8 0 (2 ^ k - 1) 0 (by omega) (fun u v hu => by rw [Nat.zero_testBit] at hu; cases hu)).1
      refine List.Pairwise.imp_of_mem ?_ hs
      intro S T hS hT hlow
      have mS := (whole_iff h1 h8 hin hne S).1 hS
      have mT := (whole_iff h1 h8 hin hne T).1 hT
      refine memb_ahead (by omega) (by omega) hlow ?_
      obtain ⟨b, b1, b2, _⟩ := hlow
      obtain ⟨v, v1, v2⟩ := mT.2.2.2 b (bitLt mS.2.1 b1) b2
      refine ⟨v, v1, ?_⟩
      cases e : S.testBit v
      · rfl
      · have hvb : v ≠ b := fun e2 => by subst e2; rw [v1] at b2; cases b2
        have := mS.2.2.1 v b e b1 hvb
        rw [v2] at this; cases this
    · rw [r3, List.mem_map, List.mem_map]
      constructor
      · rintro ⟨T, hT, rfl⟩; exact ⟨T, (whole_iff h1 h8 hin hne T).2 ((q2 T).1 hT), rfl⟩
      · rintro ⟨T, hT, rfl⟩; exact ⟨T, (q2 T).2 ((whole_iff h1 h8 hin hne T).1 hT), rfl⟩
  have hlen : (cliquesM k l).length ≤ 256 := by
    have hnd2 := (whole_sound (besM k l) (besM_sym hin) hnl 8 0 (2 ^ k - 1) 0 (fun u v hu => by rw [Nat.zero_testBit] at hu; cases hu) (fun v _ u hu => by rw [Nat.zero_testBit] at hu; cases hu)).1
    have := nodup_len_le (l := cliquesM k l) (l' := List.range (2 ^ k)) hnd2 (fun T hT => List.mem_range.2 ((whole_iff h1 h8 hin hne T).1 hT).2.1)
    rw [List.length_range] at this; omega
  refine ⟨?_, hlen⟩
  unfold R3_Cliques
  have e1 : (Bs.map fun m => rowN (memb m)) = rowsN (Bs.map memb) := by unfold rowsN; rw [List.map_map]; rfl
  rw [List.nil_append, e1] at q1
  have q1' : R3_Cliques_L1 300 (k : Int) l 300 [] 1 = some (rowsN (Bs.map memb), x) := q1
  have hrl : (rowsN (Bs.map memb)).length = (Bs.map memb).length := by unfold rowsN; rw [List.length_map]
  rw [q1', Option.bind_some]
  dsimp only
  have hmk : mkB ((rowsN (Bs.map memb)).length : Int) = some (List.replicate (Bs.map memb).length false) := by
    unfold mkB; rw [hrl, if_pos (by rw [List.length_map]; omega), Int.toNat_natCast]
  rw [hmk, Option.bind_some, r1, Option.bind_some, hcs]
  unfold rowsN; rw [List.map_map]; rfl
/-- the size of the greatest one -/
theorem most_is {bes : List Nat} (hsym : ∀ i j, Pl.adj bes i j = Pl.adj bes j i) (hnl : NoLoop bes) {k : Nat} (h8 : k ≤ 8) (P : Nat → Prop) (hP : ∀ T, T < 2 ^ k → (P T ↔ Clq bes T)) {W : Nat}
    (h1 : ∀ T, T < 2 ^ k → P T → (memb T).length ≤ W) (h2 : W = 0 ∨ ∃ T, T < 2 ^ k ∧ P T ∧ (memb T).length = W) : mostOf (wholeM bes 8 0 (2 ^ k - 1) 0) = W := by
  have hp := Nat.pow_le_pow_right (n := 2) (by omega) h8
  have hf := (whole_sound bes hsym hnl 8 0 (2 ^ k - 1) 0 (fun u v hu => by rw [Nat.zero_testBit] at hu; cases hu) (fun v _ u hu => by rw [Nat.zero_testBit] at hu; cases hu)).2
  refine Nat.le_antisymm ?_ ?_
  · have key : ∀ (ms : List Nat) (a : Nat), a ≤ W → (∀ m ∈ ms, (memb m).length ≤ W) → ms.foldl (fun a m => max a (memb m).length) a ≤ W := by
      intro ms
      induction ms with
      | nil => intro a ha _; exact ha
      | cons m ms ih =>
        intro a ha hm
        exact ih _ (Nat.max_le.2 ⟨ha, hm m List.mem_cons_self⟩) (fun x hx => hm x (List.mem_cons_of_mem _ hx))
    refine key _ 0 (Nat.zero_le _) fun T hT => ?_
    have hlt : T < 2 ^ k := bound_of fun v hv => by
      rcases (hf T hT).sub v hv with h | h
      · rw [Nat.zero_testBit] at h; cases h
      · rw [ones_bit] at h; exact of_decide_eq_true h
    exact h1 T hlt ((hP T hlt).2 (hf T hT).clq)
  · rcases h2 with h | ⟨T, t1, t2, t3⟩
    · omega
    · obtain ⟨M, m1, m2, m3⟩ := clique_in bes hsym hnl h8 T t1 ((hP T t1).1 t2)
      have := memb_subset m3
      have h4 := mostOf_ge m1
      rw [← t3]; exact Nat.le_trans this h4
theorem big_ev {l : List (Int × Int)} {k : Nat} (h8 : k ≤ 8) (h24 : l.length ≤ 24) (is : Bool) : ∃ W : Nat, R3_Biggest 300 (k : Int) l is = some (W : Int) ∧ (∀ T, T < 2 ^ k → ClqI l is T → (memb T).length ≤ W) ∧ (W = 0 ∨ ∃ T, T < 2 ^ k ∧ ClqI l is T ∧ (memb T).length = W) := by
  have hp := Nat.pow_le_pow_right (n := 2) (by omega) h8
  obtain ⟨W, x, q1, _, q3, q4⟩ := big_L1 (l := l) h24 is h8 300 0 0 (by omega) (Nat.zero_le _)
  refine ⟨W, ?_, fun T h => q3 T (Nat.zero_le _) h, q4⟩
  unfold R3_Biggest
  rw [show R3_Biggest_L1 300 (k : Int) l is 300 0 0 = _ from q1]; rfl
theorem csays_ev {n : Int} {l : List (Int × Int)} (hg : good n l) : L3_CliqueSays 300 n l = some true := by
  unfold L3_CliqueSays
  rw [R1_Lines_big (by omega), Option.bind_some]
  unfold mAll mMost mApart mErr
  rw [if_pos hg, if_pos hg, if_pos hg]
  by_cases he : errG n l = 0
  · obtain ⟨k, rfl, h1, h8, h24, hin, hne⟩ := errG_zero he
    have hadj : ∀ i j, Pl.adj (besM k l) i j = aL l i j := fun i j => adj_besL hin i j
    have hnl : NoLoop (besM k l) := besM_ne hin hne
    have hr := besM_row hin
    have hs := besM_sym hin
    obtain ⟨W1, w1, w2, w3⟩ := big_ev (l := l) h8 h24 true
    obtain ⟨W2, z1, z2, z3⟩ := big_ev (l := l) h8 h24 false
    obtain ⟨c1, c2⟩ := cliques_ev h1 h8 h24 hin hne
    have e1 : mostOf (cliquesM k l) = W1 := by
      refine most_is hs hnl h8 (ClqI l true) (fun T hT => ?_) w2 w3
      constructor
      · intro h u v hu hv hne'; rw [hadj]; exact h u v hu hv hne'
      · intro h u v hu hv hne'; rw [← hadj]; exact h u v hu hv hne'
    have e2 : mostOf (apartsM k l) = W2 := by
      refine most_is (others_sym hr.1 hr.2 hs) (others_loop _ k hr.1) h8 (ClqI l false) (fun T hT => ?_) z2 z3
      have hb : ∀ u v, T.testBit u = true → T.testBit v = true → u ≠ v → (Pl.adj (othersM (besM k l) k) u v = true ↔ aL l u v = false) := by
        intro u v hu hv hne'
        have hbit := others_bit (besM k l) k hr.1 u v (bitLt hT hu)
        have hb2 : Pl.adj (othersM (besM k l) k) u v = (decide (v < k) && !decide (u = v) && !(aL l u v)) := by rw [← hadj]; exact hbit
        rw [hb2, decide_eq_true (bitLt hT hv), decide_eq_false hne']
        simp
      constructor
      · intro h u v hu hv hne'; exact (hb u v hu hv hne').2 (h u v hu hv hne')
      · intro h u v hu hv hne'; exact (hb u v hu hv hne').1 (h u v hu hv hne')
    have hA : apartM (k : Int) l = (W2 : Int) := by unfold apartM; rw [if_pos he, Int.toNat_natCast, e2]
    have hM : mostM (k : Int) l = (W1 : Int) := by unfold mostM; rw [if_pos he, Int.toNat_natCast, e1]
    have hrows : SE_Rows 300 ((cliquesM k l).map membI) ((cliquesM k l).map membI) = some true := rows_self (by rw [List.length_map]; exact c2) (fun x hx => by
      obtain ⟨T, _, rfl⟩ := List.mem_map.1 hx
      unfold membI; rw [List.length_map]; exact memb_len16 T)
    rw [he, if_pos (by decide), Option.bind_some, if_pos rfl, c1, Option.bind_some, w1, Option.bind_some, z1, Option.bind_some, Option.bind_some, hA, hM, Int.toNat_natCast]
    simp [he, hrows]
  · rw [if_neg (by rw [beq_iff_eq]; exact he), Option.bind_some, if_neg (by decide), Option.bind_some]
    have hA : apartM n l = 0 := by unfold apartM; rw [if_neg he]
    have hM : mostM n l = 0 := by unfold mostM; rw [if_neg he]
    have hrows : SE_Rows 300 [] [] = some true := rows_self (by simp) (by simp)
    rw [hA, hM, if_neg he]
    simp [hrows]
theorem cliqueSays_any (w : World) (htc : TyCell w) (n : Int) (hn : (Lit.int .i64 n).wf = true) (A : Option Addr) (cap : Nat) (l : List (Int × Int)) (hr : ReadsL w w.heap.size A l) (hl : l.length ≤ maxLen) :
    Calls Tryd.prog 3 #[.int .i64 n, .slice A l.length cap] w fun e w' => e = .returned (.bool true) ∧ Below w.heap.size w w' :=
  L3_CliqueSays_ok w htc cap hr (csays_ev ⟨hn, hl⟩)
end Go.Proofs.YtpcmofhmhggcoaaDoor
