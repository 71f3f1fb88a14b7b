import Derived.Test.YtpcmofhmhggcoaaFact
namespace Go.Proofs.Ytpcmofhmhggcoaa
open Go.RowKit Go.Shelf Pl
/-- what the law says of numbers -/
def RamseySays : Prop := ∀ (k : Nat) (l : List (Int × Int)), 6 ≤ k → k ≤ 8 → InL k l → (∀ p ∈ l, p.1 ≠ p.2) → 3 ≤ mostOf (cliquesM k l) ∨ 3 ≤ mostOf (apartsM k l)
set_option maxRecDepth 100000 in
set_option maxHeartbeats 4000000 in
theorem cliqueRamsey_of (HS : RamseySays) (w : World) (n : Int) (hn : (Lit.int .i64 n).wf = true) (A : Option Addr) (cap : Nat) (l : List (Int × Int)) (hr : ReadsL w w.heap.size A l) (hl : l.length ≤ maxLen) :
    Calls Try.prog 5 #[.int .i64 n, .slice A l.length cap] w fun e w' => e = .returned (.bool true) ∧ Below w.heap.size w w' := by
  have HN := Lib.hid hn; have HRD := Lib.hid hr
  clear hn hr
  go_enter Try.func5, Try.ntmps5
  go_wp2_with fail
  refine (fact_any w).mono ?_; rintro e w1 ⟨rfl, hb1⟩
  have hrd1 : ReadsL w1 w1.heap.size A l := Reads.more (Reads.below HRD.out hb1) hb1.size
  have HB1 := Lib.hid hb1; have HRD1 := Lib.hid hrd1
  clear hb1 hrd1
  by_cases he : errG n l = 0
  · have H1 := Lib.hid (most_ok n A cap l w1 HN.out HRD1.out hl he)
    obtain ⟨k, rfl, hk1, hk8, hl24, hin, hne⟩ := errG_zero he
    have HE := Lib.hid he; clear he
    rw [Int.toNat_natCast] at H1
    go_wp2_with fail
    refine H1.out.mono ?_; rintro e w2 ⟨rfl, hb2⟩
    have HB2 := Lib.hid (HB1.out.trans (hb2.mono HB1.out.size))
    have HRD2 := Lib.hid (show ReadsL w2 w2.heap.size A l from Reads.more (Reads.below HRD1.out hb2) hb2.size)
    clear hb2
    have H2 := Lib.hid (apart_ok (k : Int) A cap l w2 HN.out HRD2.out hl HE.out)
    rw [Int.toNat_natCast] at H2
    go_wp2_with fail
    refine H2.out.mono ?_; rintro e w3 ⟨rfl, hb3⟩
    have HB3 := Lib.hid (HB2.out.trans (hb3.mono HB2.out.size))
    clear hb3
    have hs := HS k l
    generalize mostOf (cliquesM k l) = a at *
    generalize mostOf (apartsM k l) = b at *
    by_cases h6 : (k : Int) < 6
    · go_wp2
      go_ret
      exact ⟨rfl, HB3.out⟩
    · by_cases ha : (3 : Int) ≤ (a : Int)
      · go_wp2
        go_ret
        exact ⟨rfl, HB3.out⟩
      · have hb : (3 : Int) ≤ (b : Int) := by have := hs (by omega) hk8 hin hne; omega
        go_wp2
        go_ret
        exact ⟨rfl, HB3.out⟩
  · have H1 := Lib.hid (most_err n A cap l w1 HN.out HRD1.out hl he)
    have HE := Lib.hid he; clear he
    go_wp2_with fail
    refine H1.out.mono ?_; rintro e w2 ⟨rfl, hb2⟩
    have HB2 := Lib.hid (HB1.out.trans (hb2.mono HB1.out.size))
    have HRD2 := Lib.hid (show ReadsL w2 w2.heap.size A l from Reads.more (Reads.below HRD1.out hb2) hb2.size)
    clear hb2
    have H2 := Lib.hid (apart_err n A cap l w2 HN.out HRD2.out hl HE.out)
    go_wp2_with fail
    refine H2.out.mono ?_; rintro e w3 ⟨rfl, hb3⟩
    have HB3 := Lib.hid (HB2.out.trans (hb3.mono HB2.out.size))
    clear hb3
    go_wp2
    go_ret
    exact ⟨rfl, HB3.out⟩
end Go.Proofs.Ytpcmofhmhggcoaa
