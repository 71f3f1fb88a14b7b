import Derived.Test.YtpcmofhmhggcoaaDoorMost
set_option linter.all false
set_option maxRecDepth 100000
namespace Go.Proofs.YtpcmofhmhggcoaaDoor
open Go.RowKit Go.Shelf Pl
attribute [local go_sem] Oper.semAt_some
theorem mostOf_one (pre : List Nat) (s : Nat) : mostOf (pre ++ [s]) = max (mostOf pre) (memb s).length := by
  unfold mostOf; rw [List.foldl_append]; rfl
/-- what Apart's closure keeps -/
def JAp (w0 : World) (p : Nat) (pre : List Nat) (W : World) : Prop := Boxed W p 3 (.int .i64 (mostOf pre : Nat)) ∧ Below w0.heap.size w0 W
set_option maxRecDepth 100000 in
set_option maxHeartbeats 4000000 in
theorem apart1_any (w0 : World) (p : Nat) (hp : w0.heap.size ≤ p) (pre : List Nat) (s : Nat) (w : World) (hs : s < 65536) (hJ : JAp w0 p pre w) :
    Calls Tryd.prog 33 #[.int .u64 (s : Int), .pointer (some ⟨p, 0, none⟩)] w fun e w' => (∃ v, e = .returned v) ∧ JAp w0 p (pre ++ [s]) w' ∧ FrS w w' := by
  obtain ⟨hb, hB⟩ := hJ
  have hc := hb.cell; have hfz := hb.frozen
  have hpl := hb.lt
  have hws : w0.heap.size ≤ w.heap.size := hB.size
  have hm := mostOf_one pre s
  have HM := Lib.hid hm; have HB := Lib.hid hb; have HBE := Lib.hid hB
  have HL := Lib.hid (len_any s hs w.drew)
  clear hb hB hm
  generalize (memb s).length = y at *
  generalize mostOf pre = x at *
  have key : ∀ (w1 : World), Below w.drew.heap.size w.drew w1 → Boxed w1 p 3 (.int .i64 (x : Int)) := by
    intro w1 h; exact (h.block p hpl).trans HB.out
  have KEY := Lib.hid key
  clear key
  go_enter Tryd.func33, Tryd.ntmps33
  go_wp2_with fail
  go_region_law (go_simp; go_at_call 34; refine HL.out.mono ?_; rintro e w1 ⟨rfl, hbu⟩
                 have hb1 := KEY.out w1 hbu
                 have hc1 := hb1.cell; have hf1 := hb1.frozen
                 have HB1 := Lib.hid hb1; have HBU := Lib.hid hbu
                 clear hb1 hbu)
  all_goals
    go_end0
    have f1 : FrS w w1 := FrS.of_below ((Below.drew (Below.refl _ w)).trans HBU.out)
    refine ⟨⟨_, rfl⟩, ⟨?_, ((Below.drew HBE.out).trans (HBU.out.mono hws)).setCell (p := ⟨p, 0, none⟩) hp _⟩, f1.setBox HB1.out tn3 _⟩
    have h := HB1.out.set (.int .i64 (if x < y then (y : Int) else (x : Int)))
    have e : (if x < y then (y : Int) else (x : Int)) = ((mostOf (pre ++ [s]) : Nat) : Int) := by
      rw [HM.out, Nat.max_def]; split <;> split <;> omega
    rw [e] at h ⊢
    exact h
theorem ap_client (w0 : World) (p : Nat) (hp : w0.heap.size ≤ p) : Client w0.heap.size 33 p (JAp w0 p) where
  enters := enters_of Tryd.func33 (by kernel_rfl) rfl
  keep := fun pre W W' ⟨h1, h4⟩ hk => ⟨hk.cells _ _ _ _ tn3 h1, hk.below h4 (Nat.le_refl _)⟩
  call := fun pre s W hs _ hJ => apart1_any w0 p hp pre s W hs hJ
end Go.Proofs.YtpcmofhmhggcoaaDoor
