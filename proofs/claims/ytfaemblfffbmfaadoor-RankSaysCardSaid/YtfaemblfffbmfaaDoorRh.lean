import Derived.Test.YtfaemblfffbmfaaDoorRg
import Derived.Test.YtfaemblfffbmfaaDoorRs
/- RankSays -/
set_option linter.all false
set_option maxRecDepth 100000
namespace Go.Proofs.YtfaemblfffbmfaaDoor
open Go.RowKit Pl
section
variable {F : Nat} {n : Int} {l : List (List Int)} {ws : List Int}
theorem mErr_self (c : Int) : mErr c c = some true := by unfold mErr; rw [decide_eq_true rfl]
/-- the two halves: what is wrong with the things (and whether it is fair), then the choice -/
theorem says_of {e : Int} {f : Bool} {o : Int} {L : List Int} {s b : Int} (h1 : R3_Lists F n l = some e) (h2 : rank_Check F n l = some e) (h3 : rank_Fair F n l = some (f, e)) (h4 : (if (e == 0) = true then (R3_Fair F n l).bind fun y8 => if y8 = true then some true else some false else some false) = some f)
    (h5 : (((if (e == 0) = true then if ((ws.length : Int) != n) = true then some true else some false else some false).bind fun b10 => if b10 = true then some (3 : Int) else some e).bind fun o9 => ((if (o9 == 0) = true then (R1_All F ws 0 20).bind fun y13 => if y13 = true then some false else some true else some false).bind fun b12 => if b12 = true then some (1 : Int) else some o9)) = some o)
    (h6 : ((if (o == 0) = true then some true else some false).bind fun b15 => if b15 = true then (R3_Greedy F n l ws).bind fun y16 => (R3_Best F n l ws).bind fun y17 => some (y16.1, y16.2, y17) else some (([] : List Int), (0 : Int), (0 : Int))) = some (L, s, b))
    (h7 : rank_Greedy F n l ws = some (L, s, o)) (h8 : rank_Best F n l ws = some (b, o)) (hL : L.length < F) (hL2 : L.length < 9223372036854775807) : L4_RankSays F n l ws = some true := by
  unfold L4_RankSays
  rw [h1, Option.bind_some, h2, Option.bind_some, mErr_self, Option.bind_some, h3, Option.bind_some]
  dsimp only
  rw [mErr_self, Option.bind_some, if_pos rfl, h4, Option.bind_some, if_pos (by rw [beq_self_eq_true]), Option.bind_some, ← Option.bind_assoc, h5, Option.bind_some, h6, Option.bind_some, h7, Option.bind_some]
  dsimp only
  rw [mErr_self, Option.bind_some, if_pos rfl, SE_Ints_ev hL hL2, decide_eq_true rfl, Option.bind_some, if_pos rfl, Option.bind_some, if_pos rfl, if_pos (by rw [beq_self_eq_true]), Option.bind_some, h8, Option.bind_some]
  dsimp only
  rw [if_pos rfl, Option.bind_some, if_pos rfl, Option.bind_some, if_pos rfl, mErr_self, Option.bind_some, if_pos rfl, Option.bind_some, if_pos rfl, if_pos (by rw [beq_self_eq_true]), Option.bind_some]
theorem says_bad (hF : ∀ r ∈ l, r.length < F) (hF2 : 300 ≤ F) (hL : ∀ r ∈ l, r.length ≤ 9223372036854775807) (hW : ws.length < F) (hW2 : ws.length ≤ 9223372036854775807) (h : errR n l ≠ 0) : L4_RankSays F n l ws = some true := by
  have hn : ¬ ((errR n l == 0) = true) := by rw [beq_iff_eq]; exact h
  have hw : errW n l ws = errR n l := by unfold errW; rw [if_pos h]
  refine says_of (e := errR n l) (f := false) (o := errR n l) (L := []) (s := 0) (b := 0) (lists_ev hF hF2 hL) (check_ev hF hF2 hL) (fair_bad hF hF2 hL h) (if_neg hn) ?_ ?_ ?_ ?_ (by simp; omega) (by simp)
  · rw [if_neg hn, Option.bind_some, if_neg (by decide), Option.bind_some, if_neg hn, Option.bind_some, if_neg (by decide)]
  · rw [if_neg hn, Option.bind_some, if_neg (by decide)]
  · rw [greedy_bad hF hF2 hL hW hW2 (by rw [hw]; exact h), hw]
  · rw [best_bad hF hF2 hL hW hW2 (by rw [hw]; exact h), hw]
theorem z00 : ((0 : Int) == 0) = true := rfl
theorem says_good (h : errR n l = 0) : L4_RankSays 300 n l ws = some true := by
  obtain ⟨k, rfl, h1, h6, h24, hl⟩ := errR_zero h
  have hF : ∀ r ∈ l, r.length < 300 := fun r hr => by have := row_len h6 (hl r hr); omega
  have hL : ∀ r ∈ l, r.length ≤ 9223372036854775807 := fun r hr => by have := hF r hr; omega
  have hli := lists_ev (F := 300) (n := (k : Int)) hF (by omega) hL
  have hch := check_ev (F := 300) (n := (k : Int)) hF (by omega) hL
  rw [h] at hli hch
  obtain ⟨f, f1, f2⟩ := fair_ev (F := 300) h1 h6 hl h24 (by omega) hch
  obtain ⟨f', g1, g2⟩ := dfair_ev h6 hl h24
  have hff : f' = f := by rw [Bool.eq_iff_iff, g2, f2]
  subst hff
  have h4 : (if ((0 : Int) == 0) = true then (R3_Fair 300 (k : Int) l).bind fun y8 => if y8 = true then some true else some false else some false) = some f' := by
    rw [if_pos z00, g1, Option.bind_some]; cases f' <;> rfl
  by_cases hlen : (ws.length : Int) = (k : Int)
  · have hne : ¬ (((ws.length : Int) != (k : Int)) = true) := by simp [hlen]
    have hall := R1_AllG_ev (F := 300) (l := ws) 0 20 (by omega) (by omega)
    have hwe := worth_ev (F := 300) (n := (k : Int)) (ws := ws) hF (by omega) hL (by omega) (by omega)
    cases ha : allIn ws 0 20
    · have hw : errW (k : Int) l ws = 1 := by unfold errW; rw [if_neg (fun q => q h), if_neg (fun q => q hlen), if_neg (by rw [ha]; decide)]
      have hb : errW (k : Int) l ws ≠ 0 := by rw [hw]; decide
      refine says_of (e := 0) (f := f') (o := 1) (L := []) (s := 0) (b := 0) hli hch f1 h4 ?_ rfl ?_ ?_ (by simp) (by simp)
      · rw [if_pos z00, if_neg hne, Option.bind_some, if_neg (by decide), Option.bind_some, if_pos z00, hall, ha]; rfl
      · rw [greedy_bad hF (by omega) hL (by omega) (by omega) hb, hw]
      · rw [best_bad hF (by omega) hL (by omega) (by omega) hb, hw]
    · have hw : errW (k : Int) l ws = 0 := by unfold errW; rw [if_neg (fun q => q h), if_neg (fun q => q hlen), if_pos ha]
      rw [hw] at hwe
      have hwk : ws.length = k := by omega
      obtain ⟨ord, o1, o2, o3, o4, o5⟩ := greedy_ev (F := 300) h1 h6 hl h24 (by omega) hwe hwk ha
      obtain ⟨b, b1, b2, b3⟩ := best_ev (F := 300) h6 hl h24 (by omega) hwe hwk ha
      obtain ⟨b', c1, c2, c3⟩ := dbest_ev h6 hl h24 hwk ha
      have hbb : b' = b := by
        obtain ⟨s, s1, s2, s3⟩ := b3
        obtain ⟨s', t1, t2, t3⟩ := c3
        have := b2 s' t1 t2; have := c2 s s1 s2; omega
      subst hbb
      have hgr := dgreedy_ev h6 hl h24 hwk ha o1 o2 o3
      have hm := mb16 (G (mayB l) ord 0)
      refine says_of (e := 0) (f := f') (o := 0) (L := membI (G (mayB l) ord 0)) (s := sumL (wof ws) (memb (G (mayB l) ord 0))) (b := b') hli hch f1 h4 ?_ ?_ o4 b1 (by rw [lenM]; omega) (by rw [lenM]; omega)
      · rw [if_pos z00, if_neg hne, Option.bind_some, if_neg (by decide), Option.bind_some, if_pos z00, hall, ha]; rfl
      · rw [if_pos z00, Option.bind_some, if_pos rfl, hgr, Option.bind_some, c1, Option.bind_some]
  · have hne : ((ws.length : Int) != (k : Int)) = true := by rw [bne_iff_ne]; exact hlen
    have hwo : rank_worth 300 (k : Int) l ws = some 3 := by
      unfold rank_worth
      rw [hch, Option.bind_some, if_neg (by decide), if_pos hne]
    refine says_of (e := 0) (f := f') (o := 3) (L := []) (s := 0) (b := 0) hli hch f1 h4 ?_ rfl ?_ ?_ (by simp) (by simp)
    · rw [if_pos z00, if_pos hne, Option.bind_some, if_pos rfl]; rfl
    · unfold rank_Greedy; rw [hwo]; rfl
    · unfold rank_Best; rw [hwo]; rfl
end
def mxL (l : List (List Int)) : Nat := l.foldr (fun r a => r.length + a) 0
theorem mxL_lt : ∀ {l : List (List Int)} {r : List Int}, r ∈ l → r.length ≤ mxL l
  | a :: l, r, h => by
    show r.length ≤ a.length + mxL l
    rcases List.mem_cons.1 h with rfl | h
    · omega
    · have := mxL_lt h; omega
theorem rankSays_any (w : World) (htc : TyCell w) (n : Int) (hn : (Lit.int .i64 n).wf = true) (A : Option Addr) (cap : Nat) (l : List (List Int)) (hr : ReadsR w w.heap.size A l ∧ l.length ≤ maxLen ∧ ∀ r ∈ l, r.length ≤ maxLen ∧ ∀ n ∈ r, (Lit.int .i64 n).wf = true)
    (A2 : Option Addr) (cap2 : Nat) (ws : List Int) (hr2 : ReadsI w w.heap.size A2 ws ∧ ws.length ≤ maxLen ∧ ∀ n ∈ ws, (Lit.int .i64 n).wf = true) :
    Calls Tryd.prog 3 #[.int .i64 n, .slice A l.length cap, .slice A2 ws.length cap2] w fun e w' => e = .returned (.bool true) ∧ Below w.heap.size w w' := by
  by_cases h : errR n l = 0
  · exact L4_RankSays_ok w htc cap hr.1 cap2 hr2.1 (says_good h)
  · exact L4_RankSays_ok (F := 300 + mxL l + ws.length) w htc cap hr.1 cap2 hr2.1 (says_bad (fun r hr' => by have := mxL_lt hr'; omega) (by omega) (fun r hr' => by have := (hr.2.2 r hr').1; unfold maxLen at this; omega) (by omega) (by have := hr2.2.1; unfold maxLen at this; omega) h)
end Go.Proofs.YtfaemblfffbmfaaDoor
