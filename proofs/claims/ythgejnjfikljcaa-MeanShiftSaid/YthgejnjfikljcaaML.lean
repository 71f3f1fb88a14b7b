import Derived.Test.YthgejnjfikljcaaMK
import Derived.Test.YthgejnjfikljcaaF3
/- MeanKarp -/
set_option linter.all false
set_option maxRecDepth 100000
namespace Go.Proofs.Ythgejnjfikljcaa
open Go.RowKit Pl
theorem fact_ev : L3_meanFact 300 = some true := by decide +kernel
/-- the lines of the way up to i -/
def Upto (k : Nat) (l : List Cost) (way : List Int) (i : Nat) (sum many : Int) : Prop :=
  (i = 0 ∧ sum = 0 ∧ many = 0) ∨ (0 < i ∧ ∃ w0 e0 wi ei es, ix way 0 = some w0 ∧ ix l w0 = some e0 ∧ ix way ((i : Int) - 1) = some wi ∧ ix l wi = some ei ∧ chain l e0.1 es ei.2.1 ∧ es.length = i ∧ cst es = sum ∧ many = (i : Int))
theorem ix_mem {α : Type} {l : List α} {i : Int} {x : α} (h : ix l i = some x) : x ∈ l := by
  obtain ⟨_, _, h2⟩ := ix_some h
  exact List.mem_of_getElem? h2
theorem way_L1 {k : Nat} {l : List Cost} {a b : Int} (hin : InC k l) (hl : l.length ≤ 24) (hM : Mean k l a b) (way : List Int) : ∀ g i sum many, 40 < g + i → i ≤ 40 → i ≤ way.length → Upto k l way i sum many →
    ∃ r, L3_MeanKarp_L1 300 l way a b g sum many (i : Int) = some r ∧ r ≠ .inr false
  | 0, i, sum, many, h, _, _, _ => by omega
  | g+1, i, sum, many, h, hi, hiw, hU => by
    have a0 := hM.a0; have a1 := hM.a1; have b0 := hM.b0; have b1 := hM.b1
    rw [L3_MeanKarp_L1_s]
    by_cases hlt : i < way.length ∧ i < 40
    · have c1 : (i : Int) < (way.length : Int) := by omega
      have c2 : (i : Int) < 40 := by omega
      rw [if_pos c1, if_pos c2]
      simp only [Option.bind_some, if_true, ix_nat hlt.1, L3_in_ev]
      rw [w64 (show -9223372036854775808 ≤ (l.length : Int) - 1 by omega) (by omega)]
      by_cases hx : 0 ≤ way[i] ∧ way[i] ≤ (l.length : Int) - 1
      · rw [if_pos (by simpa using hx)]
        obtain ⟨x, hxx⟩ := Int.eq_ofNat_of_zero_le hx.1
        have hxl : x < l.length := by omega
        have hix : ix l (way[i]) = some l[x] := by rw [hxx]; exact ix_nat hxl
        have hel : l[x] ∈ l := List.getElem_mem hxl
        obtain ⟨q1, q2, q3, q4⟩ := hin _ hel
        simp only [hix, Option.bind_some]
        have fin : ∀ (w0 : Int) (e0 : Cost) (es : List Cost), ix way 0 = some w0 → ix l w0 = some e0 → chain l e0.1 (es ++ [l[x]]) l[x].2.1 → es.length = i → cst es = sum → many = (i : Int) →
            ∃ r, ((((ix way 0).bind fun y18 => (ix l y18).bind fun y19 => if (y19.1 == l[x].2.1) = true then if wrap64 (wrap64 (sum + l[x].2.2) * b) < wrap64 (a * wrap64 (many + 1)) then some true else some false else some false).bind fun b17 => if b17 = true then some (Sum.inr false) else L3_MeanKarp_L1 300 l way a b g (wrap64 (sum + l[x].2.2)) (wrap64 (many + 1)) (wrap64 ((i : Int) + 1))) : Option ((Int × Int × Int) ⊕ Bool)) = some r ∧ r ≠ .inr false := by
          intro w0 e0 es h1 h2 h3 h4 h5 h6
          have e0m := hin e0 (ix_mem h2)
          have hcst := chain_cost hin _ h3
          rw [cst_app, List.length_append] at hcst
          simp only [cst, List.length_cons, List.length_nil] at hcst
          have s1 : wrap64 (sum + l[x].2.2) = sum + l[x].2.2 := w64 (by omega) (by omega)
          have s2 : wrap64 (many + 1) = many + 1 := w64 (by omega) (by omega)
          have p1 := small_mul (x := sum + l[x].2.2) (y := b) (by omega) (by omega) (by omega) (by omega)
          have p2 := small_mul (x := a) (y := many + 1) (by omega) (by omega) (by omega) (by omega)
          have s3 : wrap64 ((sum + l[x].2.2) * b) = (sum + l[x].2.2) * b := w64 (by omega) (by omega)
          have s4 : wrap64 (a * (many + 1)) = a * (many + 1) := w64 (by omega) (by omega)
          rw [h1, Option.bind_some, h2, Option.bind_some, s1, s2, s3, s4, w64n (by omega)]
          obtain ⟨r, r1, r2⟩ := way_L1 hin hl hM way g (i+1) (sum + l[x].2.2) (many + 1) (by omega) (by omega) (by omega) (.inr ⟨by omega, w0, e0, way[i], l[x], es ++ [l[x]], h1, h2, by
            have : (((i+1 : Nat) : Int) - 1) = (i : Int) := by omega
            rw [this]; exact ix_nat hlt.1, hix, h3, by simp [h4], by rw [cst_app, h5]; simp [cst], by omega⟩)
          by_cases hcl : e0.1 = l[x].2.1
          · rw [if_pos (by simpa using hcl)]
            have hno : ¬ ((sum + l[x].2.2) * b < a * (many + 1)) := by
              rw [← hcl] at h3
              have := hM.all e0.1 (es ++ [l[x]]) e0m.1.1 e0m.1.2 h3
              rw [cst_app, List.length_append, h4, h5] at this
              simp only [cst, List.length_cons, List.length_nil] at this
              have e1 : ((i + (0 + 1) : Nat) : Int) = many + 1 := by omega
              rw [e1, Int.add_zero] at this
              omega
            rw [if_neg hno]
            exact ⟨r, by simpa using r1, r2⟩
          · rw [if_neg (by simpa using hcl)]
            exact ⟨r, by simpa using r1, r2⟩
        rcases hU with ⟨hi0, rfl, rfl⟩ | ⟨hi0, w0, e0, wi, ei, es, u1, u2, u3, u4, u5, u6, u7, u8⟩
        · subst hi0
          have hw0 : ix way 0 = some way[0] := ix_nat hlt.1
          obtain ⟨r, r1, r2⟩ := fin way[0] l[x] [] hw0 hix ⟨hel, rfl, rfl⟩ rfl rfl rfl
          refine ⟨r, ?_, r2⟩
          have n0 : ¬ (0 < ((0 : Nat) : Int)) := by omega
          rw [if_neg n0, Option.bind_some, if_neg (by decide)]
          exact r1
        · have n0 : 0 < (i : Int) := by omega
          have s0 : wrap64 ((i : Int) - 1) = (i : Int) - 1 := w64 (by omega) (by omega)
          rw [if_pos n0, s0, u3, Option.bind_some, u4, Option.bind_some]
          by_cases hch : ei.2.1 = l[x].1
          · have hb : (ei.2.1 != l[x].1) = false := by simp [hch]
            obtain ⟨r, r1, r2⟩ := fin w0 e0 es u1 u2 ((chain_app es).2 ⟨_, u5, hel, hch.symm, rfl⟩) u6 u7 u8
            refine ⟨r, ?_, r2⟩
            rw [if_neg (by rw [hb]; decide), Option.bind_some, if_neg (by decide)]
            exact r1
          · have hb : (ei.2.1 != l[x].1) = true := by simpa using hch
            rw [if_pos hb, Option.bind_some, if_pos rfl]
            exact ⟨_, rfl, by simp⟩
      · rw [if_neg (by simpa using hx)]
        exact ⟨_, rfl, by simp⟩
    · have hb : (if (i : Int) < (way.length : Int) then if (i : Int) < 40 then some true else some false else some false) = some false := by
        by_cases h1 : (i : Int) < (way.length : Int)
        · rw [if_pos h1, if_neg (by omega)]
        · rw [if_neg h1]
      rw [hb, Option.bind_some, if_neg (by decide)]
      exact ⟨_, rfl, by simp⟩
theorem karp_says (n : Int) (l : List Cost) (way : List Int) : L3_MeanKarp 300 n l way = some true := by
  unfold L3_MeanKarp
  rw [fact_ev, Option.bind_some, if_pos rfl]
  rcases least_ev n l with ⟨he, h⟩ | ⟨he, h, _⟩ | ⟨k, a, b, he, rfl, h, hM, _⟩
  · rw [h]; simp [he]
  · rw [h]; simp
  · obtain ⟨k', hk', hk1, hk8, hl24, hin⟩ := errC_zero he
    obtain rfl : k = k' := by omega
    obtain ⟨r, r1, r2⟩ := way_L1 hin hl24 hM way 300 0 0 0 (by omega) (by omega) (Nat.zero_le _) (.inl ⟨rfl, rfl, rfl⟩)
    have r1' : L3_MeanKarp_L1 300 l way (a : Int) (b : Int) 300 0 0 0 = some r := r1
    have i1 : decide ((1 : Int) ≤ (b : Int) ∧ (b : Int) ≤ 8) = true := by have := hM.b0; have := hM.b1; simp; omega
    have i2 : decide ((0 : Int) ≤ (a : Int) ∧ (a : Int) ≤ 160) = true := by have := hM.a0; have := hM.a1; simp; omega
    rw [h]
    simp only [Option.bind_some, L3_in_ev, i1, i2, r1']
    cases r with
    | inl z => simp
    | inr z =>
      cases z with
      | false => exact absurd rfl r2
      | true => simp
theorem meanKarp_any (w : World) (n : Int) (hn : (Lit.int .i64 n).wf = true) (A : Option Addr) (cap : Nat) (l : List Cost) (hr : ReadsC w w.heap.size A l) (hl : l.length ≤ maxLen) (A2 : Option Addr) (cap2 : Nat) (l2 : List Int) (hr2 : ReadsI w w.heap.size A2 l2 ∧ l2.length ≤ maxLen ∧ ∀ n ∈ l2, (Lit.int .i64 n).wf = true) :
    Calls Try.prog 3 #[.int .i64 n, .slice A l.length cap, .slice A2 l2.length cap2] w fun e w' => e = .returned (.bool true) ∧ Below w.heap.size w w' :=
  L3_MeanKarp_ok w cap hr cap2 hr2.1 (karp_says n l l2)
end Go.Proofs.Ythgejnjfikljcaa
