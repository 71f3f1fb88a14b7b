import Derived.Test.YtnfijblmigjlhaaB6
namespace Go.Proofs.Ytnfijblmigjlhaa
open Go.RowKit Pl
theorem modc (i k n : Nat) : ((i : Int) + k) % (n : Int) = (((i + k) % n : Nat) : Int) := by rw [Int.natCast_emod]; norm_cast
theorem drewN_below {w w' : World} (h : Below w.heap.size w w') (n : Nat) : Below w.heap.size w (w'.drewN n) := ⟨h.os, h.tape, h.output, h.size, h.block⟩
theorem least_facts {s l : Nat} (h : okB s l = true) : (s = 1 → ringM s l = [0]) ∧ (s ≠ 1 → 2 * l ≤ (ringM s l).length ∧ ∀ i, i < l → (ringM s l)[i]? = some 0 ∧ (ringM s l)[(ringM s l).length - 1 - i]? = some ((s:Int)-1)) := by
  have h' := h
  simp only [okB, Bool.and_eq_true, decide_eq_true_eq] at h'
  have := allB_at least_all (by omega) (by omega) h
  unfold chkLeast at this
  constructor
  · intro hs
    rw [if_pos (by simpa using hs)] at this
    simpa using this
  · intro hs
    rw [if_neg (by simpa using hs)] at this
    simp only [Bool.and_eq_true, decide_eq_true_eq, List.all_eq_true, List.mem_range, beq_iff_eq] at this
    exact ⟨this.1, this.2⟩
set_option maxHeartbeats 1000000 in
theorem bruijnLeast_any (w : World) (a0 : Int) (_ : (Lit.int .i64 a0).wf = true) (a1 : Int) (_ : (Lit.int .i64 a1).wf = true) :
    Calls Try.prog 5 #[.int .i64 a0, .int .i64 a1] w fun e w' => e = .returned (.bool true) ∧ Below w.heap.size w w' := by
  by_cases h : errB a0 a1 = 0
  · obtain ⟨s, l, rfl, rfl, hB⟩ := okB_nat h
    clear h
    have hB' := hB
    simp only [okB, Bool.and_eq_true, decide_eq_true_eq] at hB'
    obtain ⟨⟨⟨⟨h1, h2⟩, h3⟩, h4⟩, h5⟩ := hB'
    obtain ⟨rp1, rp2⟩ := ring_pos hB
    obtain ⟨lf1, lf2⟩ := least_facts hB
    by_cases hs : s = 1
    · have HRg := fun w => Lib.hid (ring_eq s l hB w _ (lf1 hs))
      clear lf1 lf2 hB h5 rp1 rp2
      have hsb : ((s : Int) == 1) = true := by simp; omega
      have HS := Lib.hid hs; clear hs
      go_enter Try.func5, Try.ntmps5
      go_wp2_with fail
      refine (bfact_any _).mono ?_; rintro e w1 ⟨rfl, hb⟩
      have HB := Lib.hid hb; clear hb
      go_wp2_with fail
      refine (HRg _).out.mono ?_; rintro e w2 ⟨A, cap, rfl, hr, hb⟩
      have H1 := Lib.hid hr; have HB2 := Lib.hid (HB.out.trans (hb.mono HB.out.size)); clear hr hb
      go_wp2_with fail
      have hB12 : Below w2.heap.size w2 (w2.alloc (.cells ([0].map (Value.int .i64)).toArray 3)) := (Below.refl _ w2).alloc (Nat.le_refl _) _
      refine (ints_any A (some ⟨w2.heap.size, 0, none⟩) cap 1 [0] [0] _ ((Reads.below H1.out hB12).more hB12.size) (lit_reads [0] 3 w2) (by decide)).mono ?_; rintro e w' ⟨rfl, n, rfl⟩
      go_wp2_with fail
      go_ret
      exact ⟨rfl, drewN_below (HB2.out.trans (hB12.mono HB2.out.size)) _⟩
    · obtain ⟨q1, q2⟩ := lf2 hs
      have HRg := fun w => Lib.hid (ring_ok s l hB w)
      have HQ := Lib.hid q2
      clear lf1 lf2 hB h5 q2
      generalize ringM s l = R at *
      have hsb : ((s : Int) == 1) = false := by simp; omega
      have HS := Lib.hid hs; clear hs
      have hl1 : ¬ ((l : Int) < 1) := by omega
      have hl2 : ¬ ((R.length : Int) < 2 * (l : Int)) := by omega
      go_enter Try.func5, Try.ntmps5
      go_wp2_with fail
      refine (bfact_any _).mono ?_; rintro e w1 ⟨rfl, hb⟩
      have HB := Lib.hid hb; clear hb
      go_wp2_with fail
      refine (HRg _).out.mono ?_; rintro e w2 ⟨v, rfl, ho, hb⟩
      obtain ⟨g, rcap, rfl, hg1, hg2, hcell⟩ := own_open ho rp1
      have HC := Lib.hid hcell; have HB2 := Lib.hid (HB.out.trans (hb.mono HB.out.size)); clear ho hb hcell
      go_wp2_with fail
      go_loop [8] (fun i => ∃ k : Nat, k ≤ l ∧ i = .int .i64 k) (fun i => l - (intOf i).toNat)
      case atStart => exact ⟨0, Nat.zero_le _, rfl⟩
      case round =>
        obtain ⟨i, hi, rfl⟩ := hrel
        by_cases hlt : i < l
        · obtain ⟨x1, x2⟩ := HQ.out i hlt
          have c1 := HC.out i (.int .i64 0) (by simp [x1])
          have c2 := HC.out (R.length - 1 - i) (.int .i64 ((s : Int) - 1)) (by simp [x2])
          clear x1 x2
          have ix : ((R.length : Int) - 1 - i).toNat = R.length - 1 - i := by omega
          have hbb : (((s : Int) - 1) != ((s : Int) - 1)) = false := by simp
          go_wp2_with fail
          go_round
          case rel => exact ⟨i + 1, by omega, by go_num⟩
          case measure => simp [intOf] <;> omega
        · go_wp2_with fail
          go_ret
          exact ⟨rfl, HB2.out⟩
  · have HRg := fun w => Lib.hid (ring_bad a0 a1 h w)
    clear h
    generalize errB a0 a1 = q at *
    go_enter Try.func5, Try.ntmps5
    go_wp2_with fail
    refine (bfact_any _).mono ?_; rintro e w1 ⟨rfl, hb⟩
    have HB := Lib.hid hb; clear hb
    go_wp2_with fail
    refine (HRg _).out.mono ?_; rintro e w2 ⟨rfl, hb⟩
    have HB2 := Lib.hid (HB.out.trans (hb.mono HB.out.size)); clear hb
    go_wp2_with fail
    go_ret
    exact ⟨rfl, HB2.out⟩
/-- what is found stands there -/
theorem findM_some {R word : List Int} {i : Nat} (h : findM R word = some i) : i < R.length ∧ ∀ k (hk : k < word.length), ∃ h2, R[(i + k) % R.length]'h2 = word[k] := by
  unfold findM at h
  rw [List.find?_range_eq_some] at h
  obtain ⟨h1, h2, _⟩ := h
  have hl : i < R.length := by simpa using h2
  refine ⟨hl, fun k hk => ⟨Nat.mod_lt _ (by omega), ?_⟩⟩
  have e : subw R i word.length = word := by simpa using h1
  have := congrArg (fun l => l[k]?) e
  simp only [subw, List.getElem?_map, List.getElem?_range hk, Option.map_some, List.getElem?_eq_getElem hk, Option.some.injEq] at this
  rw [← this]
  simp [List.getD, Nat.mod_lt _ (show R.length > 0 by omega)]
set_option maxHeartbeats 1000000 in
theorem findlaw_found (s : Nat) (A : Option Addr) (cap : Nat) (word : List Int) (w : World) (hr : ReadsI w w.heap.size A word) (hB : okB s word.length = true) (hall : inAll word 0 (s - 1) = true) (i : Nat) (hf : findM (ringM s word.length) word = some i) :
    Calls Try.prog 4 #[.int .i64 s, .slice A word.length cap] w fun e w' => e = .returned (.bool true) ∧ Below w.heap.size w w' := by
  have HF : ∀ w : World, ReadsI w w.heap.size A word → Hid (Calls Try.prog 11 #[.int .i64 s, .slice A word.length cap] w fun e w' => e = .returned (.tuple #[.int .i64 i, .nilIface]) ∧ Below w.heap.size w w') := fun w hr =>
    (find_ok s A cap word w hr hB hall).mono fun e w' ⟨h1, h2⟩ => ⟨by rw [h1, hf]; rfl, h2⟩
  obtain ⟨hi, hk⟩ := findM_some hf
  have HRg := fun w => Lib.hid (ring_ok s word.length hB w)
  have HK := Lib.hid hk
  have hwl : word.length ≤ 6 := by
    simp only [okB, Bool.and_eq_true, decide_eq_true_eq] at hB; omega
  have rp := (ring_pos hB).2
  have HF' := Lib.hid HF
  clear hf hall hB hk HF
  generalize ringM s word.length = R at *
  go_enter Try.func4, Try.ntmps4
  go_wp2_with fail
  refine (bfact_any _).mono ?_; rintro e w1 ⟨rfl, hb⟩
  have hr1 : ReadsI w1 w1.heap.size A word := (Reads.below hr hb).more hb.size
  have HB := Lib.hid hb; clear hb hr
  go_wp2_with fail
  refine (HF'.out _ hr1).out.mono ?_; rintro e w2 ⟨rfl, hb⟩
  have hr2 : ReadsI w2 w2.heap.size A word := (Reads.below hr1 hb).more hb.size
  have HB2 := Lib.hid (HB.out.trans (hb.mono HB.out.size)); clear hb hr1
  go_wp2_with fail
  refine (HRg _).out.mono ?_; rintro e w3 ⟨v, rfl, ho, hb⟩
  obtain ⟨g, rcap, rfl, hg1, hg2, hcell⟩ := own_open ho (by omega)
  have hr3 : ReadsI w3 w3.heap.size A word := (Reads.below hr2 hb).more hb.size
  have HC := Lib.hid hcell; have HB3 := Lib.hid (HB2.out.trans (hb.mono HB2.out.size)); clear ho hb hcell hr2
  have hd : decide ((0:Int) ≤ i ∧ (i:Int) ≤ (R.length : Int) - 1) = true := by simp; omega
  have HD := Lib.hid hd; clear hd
  go_wp2_with fail
  refine (in4_dec HD.out _).mono ?_; rintro e w' ⟨rfl, rfl⟩
  go_wp2_with fail
  go_loopw [9] (fun j wr => ∃ k n : Nat, k ≤ word.length ∧ j = .int .i64 k ∧ wr = w3.drewN n) (fun j _ => word.length - (intOf j).toNat)
  case atStart => exact ⟨0, 0, Nat.zero_le _, rfl, rfl⟩
  case round =>
    obtain ⟨k, n, hk, rfl, rfl⟩ := hrel
    by_cases hlt : k < word.length
    · obtain ⟨b, o, rfl, _, hc⟩ := hr3.at_ hlt
      obtain ⟨h2, he⟩ := HK.out k hlt
      have c2 := HC.out ((i + k) % R.length) (.int .i64 word[k]) (by simp [h2, he])
      clear he
      have hm2 : ((i : Int) + k) % (R.length : Int) < R.length := Int.emod_lt_of_pos _ (by omega)
      have hm3 : 0 ≤ ((i : Int) + k) % (R.length : Int) := Int.emod_nonneg _ (by omega)
      have e1 : IntKind.i64.wrap ((i : Int) + k) = (i : Int) + k := IntWalk.i64_in _ (by omega)
      have e2 : IntKind.i64.wrap (((i : Int) + k) % (R.length : Int)) = ((i : Int) + k) % (R.length : Int) := IntWalk.i64_in _ (by omega)
      have e3 : (((i : Int) + k) % (R.length : Int)).toNat = (i + k) % R.length := by rw [modc]; omega
      have hbb : (word[k] != word[k]) = false := by simp
      go_wp2_with fail
      go_quiet (fail)
      go_wp2_with fail
      go_roundw
      case rel => exact ⟨k + 1, _, by omega, by go_num, rfl⟩
      case measure => simp [intOf] <;> omega
    · go_wp2_with fail
      go_ret
      exact ⟨rfl, drewN_below HB3.out _⟩
theorem findlaw_err (s : Int) (A : Option Addr) (cap : Nat) (word : List Int) (w : World) (q : Int) (hr : ReadsI w w.heap.size A word)
    (HF : ∀ w : World, ReadsI w w.heap.size A word → Hid (Calls Try.prog 11 #[.int .i64 s, .slice A word.length cap] w fun e w' => e = .returned (.tuple #[.int .i64 0, .iface 39 (.int .i64 q)]) ∧ Below w.heap.size w w')) :
    Calls Try.prog 4 #[.int .i64 s, .slice A word.length cap] w fun e w' => e = .returned (.bool true) ∧ Below w.heap.size w w' := by
  have HF' := Lib.hid HF; clear HF
  go_enter Try.func4, Try.ntmps4
  go_wp2_with fail
  refine (bfact_any _).mono ?_; rintro e w1 ⟨rfl, hb⟩
  have hr1 : ReadsI w1 w1.heap.size A word := (Reads.below hr hb).more hb.size
  have HB := Lib.hid hb; clear hb hr
  go_wp2_with fail
  refine (HF'.out _ hr1).out.mono ?_; rintro e w2 ⟨rfl, hb⟩
  have HB2 := Lib.hid (HB.out.trans (hb.mono HB.out.size)); clear hb hr1
  go_wp2_with fail
  go_ret
  exact ⟨rfl, HB2.out⟩
theorem bruijnFind_any (w : World) (a0 : Int) (_ : (Lit.int .i64 a0).wf = true) (A : Option Addr) (cap : Nat) (word : List Int) (hw : ReadsI w w.heap.size A word ∧ word.length ≤ maxLen ∧ ∀ n ∈ word, (Lit.int .i64 n).wf = true) :
    Calls Try.prog 4 #[.int .i64 a0, .slice A word.length cap] w fun e w' => e = .returned (.bool true) ∧ Below w.heap.size w w' := by
  by_cases h : errB a0 word.length = 0
  · obtain ⟨s, l, rfl, hl, hB⟩ := okB_nat h
    obtain rfl : l = word.length := by omega
    cases hall : inAll word 0 ((s : Int) - 1)
    · exact findlaw_err s A cap word w 1 hw.1 (fun w hr => find_out s A cap word w hr hB hall)
    · cases hf : findM (ringM s word.length) word with
      | some i => exact findlaw_found s A cap word w hw.1 hB hall i hf
      | none => exact findlaw_err s A cap word w 5 hw.1 (fun w hr => (find_ok s A cap word w hr hB hall).mono fun e w' ⟨h1, h2⟩ => ⟨by rw [h1, hf]; rfl, h2⟩)
  · exact findlaw_err a0 A cap word w _ hw.1 (fun w hr => find_bad a0 A cap word w h)
end Go.Proofs.Ytnfijblmigjlhaa
