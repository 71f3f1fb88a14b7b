import Derived.Test.YtecllcpjjllogaaDoorL0
set_option linter.all false
set_option maxRecDepth 100000
namespace Go.Proofs.YtecllcpjjllogaaDoor
open Go.RowKit
def errV (t : TypeId) (n : Int) : Value := if n = 0 then .nilIface else .iface t (.int .i64 n)
theorem errV_zero (t : TypeId) : errV t 0 = .nilIface := rfl
theorem errV_pos (t : TypeId) {n : Int} (h : n ≠ 0) : errV t n = .iface t (.int .i64 n) := by unfold errV; rw [if_neg h]
theorem ret_v {a b : Value} (h : a = b) : Ending.returned a = .returned b := by rw [h]
theorem inAll2 (x y a b : Int) : inAll [x, y] a b = (decide (a ≤ x ∧ x ≤ b) && decide (a ≤ y ∧ y ≤ b)) := by simp [inAll]
/-- core.All of two -/
theorem call2_any (x y b : Int) (w : World) (t : Bool) (h : inAll [x, y] 0 b = t) (B : Nat) (hB : B = w.heap.size) :
    Calls Tryd.prog 25 #[.slice (some ⟨B, 0, none⟩) 2 2, .int .i64 0, .int .i64 b] (w.alloc (.cells #[.int .i64 x, .int .i64 y] 3)) fun e w' => e = .returned (.bool t) ∧ (w.alloc (.cells #[.int .i64 x, .int .i64 y] 3)) = w' :=
  hB ▸ (call_any (some ⟨w.heap.size, 0, none⟩) 2 [x, y] 0 b _ (lit_reads [x, y] 3 w) (show 2 ≤ maxLen by decide)).mono fun e w' ⟨h1, h2⟩ => ⟨by rw [h1, h], h2⟩
set_option maxHeartbeats 2000000 in
theorem ccheck_any (n : Int) (A : Option Addr) (cap : Nat) (l : List (Int × Int)) (w : World) (hn : (Lit.int .i64 n).wf = true) (hr : ReadsL w w.heap.size A l) (hl : l.length ≤ maxLen) :
    Calls Tryd.prog 39 #[.int .i64 n, .slice A l.length cap] w fun e w' => e = .returned (errV 51 (errG n l)) ∧ Below w.heap.size w w' := by
  unfold maxLen at hl
  by_cases h8 : 1 ≤ n ∧ n ≤ 8
  · have D8 := Lib.hid (decide_eq_true h8)
    by_cases h24 : 24 < l.length
    · have HE : Hid (errG n l = 4) := by show _ = _; unfold errG; rw [if_neg (by omega), if_pos h24]
      clear h8
      go_enter Tryd.func39, Tryd.ntmps39
      go_wp2_with fail
      refine (within_dec D8.out _).mono ?_; rintro e w' ⟨rfl, rfl⟩
      go_wp2_with fail
      go_ret
      exact ⟨ret_v (by rw [HE.out]; rfl), Below.refl _ _⟩
    · have HE : Hid (errG n l = errLines n (l.drop 0)) := by show _ = _; unfold errG; rw [if_neg (by omega), if_neg h24]; rfl
      obtain ⟨h8a, h8b⟩ := h8
      go_enter Tryd.func39, Tryd.ntmps39
      go_wp2_with fail
      refine (within_dec D8.out _).mono ?_; rintro e w' ⟨rfl, rfl⟩
      go_wp2_with fail
      go_loopw [17] (fun i wr => ∃ k : Nat, k ≤ l.length ∧ i = .int .i64 k ∧ errG n l = errLines n (l.drop k) ∧ Below w.heap.size w wr) (fun i _ => l.length - (intOf i).toNat)
      case atStart => exact ⟨0, Nat.zero_le _, rfl, HE.out, Below.refl _ _⟩
      case round =>
        obtain ⟨k, hk, rfl, he, hB⟩ := hrel
        have HK := Lib.hid he; clear he
        by_cases hlt : k < l.length
        · obtain ⟨bb, o, rfl, hbl, h1, h2⟩ := ReadsL.at_ (Reads.below hr hB) hlt
          have HD := Lib.hid (errLines_drop n l k hlt)
          have hb1 : Below w.heap.size w (wr.alloc (.cells #[.int .i64 l[k].1, .int .i64 l[k].2] 61)) := hB.alloc hB.size _
          have hb2 : Below w.heap.size w ((wr.alloc (.cells #[.int .i64 l[k].1, .int .i64 l[k].2] 61)).alloc (.cells #[.int .i64 l[k].1, .int .i64 l[k].2] 3)) := hb1.alloc (by have := hB.size; simp; omega) _
          have HB2 := Lib.hid hb2
          clear hb1 hb2
          generalize hx : l[k].1 = x at *
          generalize hy : l[k].2 = y at *
          clear hx hy
          by_cases e1 : (0 ≤ x ∧ x ≤ n - 1) ∧ (0 ≤ y ∧ y ≤ n - 1)
          · have E1 : Hid (inAll [x, y] 0 (n - 1) = true) := by show _ = _; rw [inAll2, decide_eq_true e1.1, decide_eq_true e1.2]; rfl
            by_cases e3 : x = y
            · have e3b : (x == y) = true := by simpa using e3
              have HF : Hid (errG n l = 3) := by show _ = _; rw [HK.out, HD.out, if_neg (by omega), if_pos e3]
              clear e1 e3
              go_wp2_with fail
              refine (call2_any x y (n - 1) _ true E1.out _ (by simp)).mono ?_; rintro e w' ⟨rfl, rfl⟩
              go_wp2_with fail
              go_ret
              exact ⟨ret_v (by rw [HF.out]; rfl), HB2.out⟩
            · have e3b : (x == y) = false := by simpa using e3
              have HF : Hid (errG n l = errLines n (l.drop (k+1))) := by show _ = _; rw [HK.out, HD.out, if_neg (by omega), if_neg e3]
              clear e1 e3
              go_wp2_with fail
              refine (call2_any x y (n - 1) _ true E1.out _ (by simp)).mono ?_; rintro e w' ⟨rfl, rfl⟩
              go_wp2_with fail
              go_roundw
              case rel => exact ⟨k+1, by omega, by go_num, HF.out, HB2.out⟩
              case measure => simp [intOf] <;> omega
          · have E1 : Hid (inAll [x, y] 0 (n - 1) = false) := by
              show _ = _; rw [inAll2]
              rcases Classical.em (0 ≤ x ∧ x ≤ n - 1) with h | h
              · rw [decide_eq_true h, decide_eq_false (fun hh => e1 ⟨h, hh⟩)]; rfl
              · rw [decide_eq_false h]; rfl
            have HF : Hid (errG n l = 1) := by show _ = _; rw [HK.out, HD.out, if_pos (by omega)]
            clear e1
            go_wp2_with fail
            refine (call2_any x y (n - 1) _ false E1.out _ (by simp)).mono ?_; rintro e w' ⟨rfl, rfl⟩
            go_wp2_with fail
            go_ret
            exact ⟨ret_v (by rw [HF.out]; rfl), HB2.out⟩
        · go_wp2_with fail
          go_ret
          exact ⟨ret_v (by rw [HK.out, List.drop_eq_nil_of_le (by omega)]; rfl), hB⟩
  · have D8 := Lib.hid (decide_eq_false h8)
    have HE : Hid (errG n l = 1) := by show _ = _; unfold errG; rw [if_pos h8]
    clear h8
    go_enter Tryd.func39, Tryd.ntmps39
    go_wp2_with fail
    refine (within_dec D8.out _).mono ?_; rintro e w' ⟨rfl, rfl⟩
    go_wp2_with fail
    go_ret
    exact ⟨ret_v (by rw [HE.out]; rfl), Below.refl _ _⟩
theorem gcheck_any (n : Int) (A : Option Addr) (cap : Nat) (l : List (Int × Int)) (w : World) (hn : (Lit.int .i64 n).wf = true) (hr : ReadsL w w.heap.size A l) (hl : l.length ≤ maxLen) :
    Calls Tryd.prog 26 #[.int .i64 n, .slice A l.length cap] w fun e w' => e = .returned (errV 51 (errG n l)) ∧ Below w.heap.size w w' := by
  have H1 := Lib.hid (ccheck_any n A cap l w hn hr hl)
  clear hn hr hl
  generalize errV 51 (errG n l) = q at *
  go_enter Tryd.func26, Tryd.ntmps26
  go_wp2_with fail
  refine H1.out.mono ?_; rintro e w1 ⟨rfl, hb⟩
  have HB := Lib.hid hb; clear hb
  go_wp2_with fail
  go_ret
  exact ⟨rfl, HB.out⟩
end Go.Proofs.YtecllcpjjllogaaDoor
