import Derived.Test.YtoiidngnlhhanaaAll2
set_option linter.all false
set_option maxRecDepth 100000
namespace Go.Proofs.Ytoiidngnlhhanaa
open Go.RowKit Go.Shelf Pl
theorem RowsR.len {W : World} {base : Nat} : ∀ (vs : List Value) (ls : List (List Int)), RowsR W base vs ls → vs.length = ls.length
  | [], [], _ => rfl
  | _ :: vs, _ :: ls, hr => by rw [List.length_cons, List.length_cons, RowsR.len vs ls hr.2]
  | [], _ :: _, hr => hr.elim
  | _ :: _, [], hr => hr.elim
theorem RowsR.at_ {W : World} {base : Nat} : ∀ (vs : List Value) (ls : List (List Int)), RowsR W base vs ls → ∀ (k : Nat) (l : List Int), ls[k]? = some l → ∃ v, vs[k]? = some v ∧ W.ownsRow base 3 1 v l.length (l.map (Value.int .i64))
  | [], [], _, k, l, h => by simp at h
  | v :: vs, l0 :: ls, hr, k, l, h => by
    cases k with
    | zero => simp at h; subst h; exact ⟨v, rfl, hr.1⟩
    | succ k => simp at h; simpa using RowsR.at_ vs ls hr.2 k l h
  | [], _ :: _, hr, _, _, _ => hr.elim
  | _ :: _, [], hr, _, _, _ => hr.elim
def mostOf (ms : List Nat) : Nat := ms.foldl (fun a m => max a (memb m).length) 0
theorem mostOf_snoc (ms : List Nat) (k : Nat) (hk : k < ms.length) : mostOf (ms.take (k+1)) = max (mostOf (ms.take k)) (memb ms[k]).length := by
  unfold mostOf; rw [List.take_add_one, List.getElem?_eq_getElem hk, List.foldl_append]; rfl
def mostM (n : Int) (l : List (Int × Int)) : Int := if errG n l = 0 then mostOf (cliquesM n.toNat l) else 0
theorem wholeM_len8 (k : Nat) (l : List (Int × Int)) : (cliquesM k l).length ≤ 4294967296 := wholeM_len _ 8 _ _ _
set_option maxRecDepth 100000 in
set_option maxHeartbeats 4000000 in
theorem most_ok (n : Int) (A : Option Addr) (cap : Nat) (l : List (Int × Int)) (w : World) (hn : (Lit.int .i64 n).wf = true) (hr : ReadsL w w.heap.size A l) (hl : l.length ≤ maxLen) (he : errG n l = 0) :
    Calls Try.prog 8 #[.int .i64 n, .slice A l.length cap] w fun e w' => e = .returned (.tuple #[.int .i64 (mostOf (cliquesM n.toNat l) : Nat), .nilIface]) ∧ Below w.heap.size w w' := by
  have H := Lib.hid (all_ok n A cap l w hn hr hl he)
  have hlen := wholeM_len8 n.toNat l
  clear hn hr he
  generalize cliquesM n.toNat l = ms at *
  go_enter Try.func8, Try.ntmps8
  go_wp2_with fail
  refine H.out.mono ?_; rintro e w1 ⟨v, vs, rfl, ho, hr, hb⟩
  obtain ⟨B, cap2, rfl, hrd⟩ := own_reads ho
  have HRD := Lib.hid hrd; have HO := Lib.hid ho; have HR := Lib.hid hr; have HB := Lib.hid hb
  clear hrd ho hr hb
  go_wp2_with fail
  go_loop [8, 10, 19] (fun m _ i => ∃ k : Nat, k ≤ ms.length ∧ i = .int .i64 k ∧ m = .int .i64 (mostOf (ms.take k) : Nat)) (fun _ _ i => ms.length - (intOf i).toNat)
  case atStart => exact ⟨0, Nat.zero_le _, rfl, rfl⟩
  case round =>
    obtain ⟨k, hk, rfl, rfl⟩ := hrel
    by_cases hlt : k < ms.length
    · have hmost := mostOf_snoc ms k hlt
      obtain ⟨u, hu, hou⟩ := RowsR.at_ vs (ms.map membI) HR.out k (membI ms[k]) (by rw [List.getElem?_map, List.getElem?_eq_getElem hlt]; rfl)
      obtain ⟨A2, c2, rfl, _⟩ := own_reads hou
      have hml : (membI ms[k]).length = (memb ms[k]).length := by simp [membI]
      rw [hml] at hu
      obtain ⟨b, o, rfl, _, hcs⟩ := HRD.out.2 (by omega)
      have hc := hcs k _ hu
      have HM := Lib.hid hmost
      clear hou hu hcs hmost hml
      generalize (memb ms[k]).length = y at *
      generalize mostOf (ms.take k) = x at *
      go_wp2_with fail
      refine ⟨⟨k + 1, by omega, by simp, ?_⟩, by simp [intOf] <;> omega⟩
      rw [HM.out]
      congr 1
      rw [Nat.max_def]
      split <;> split <;> omega
    · go_wp2_with fail
      go_ret2
      exact ⟨by rw [List.take_of_length_le (by omega)]; rfl, HB.out⟩
set_option maxRecDepth 100000 in
set_option maxHeartbeats 4000000 in
theorem most_err (n : Int) (A : Option Addr) (cap : Nat) (l : List (Int × Int)) (w : World) (hn : (Lit.int .i64 n).wf = true) (hr : ReadsL w w.heap.size A l) (hl : l.length ≤ maxLen) (he : errG n l ≠ 0) :
    Calls Try.prog 8 #[.int .i64 n, .slice A l.length cap] w fun e w' => e = .returned (.tuple #[.int .i64 0, .iface 45 (.int .i64 (errG n l))]) ∧ Below w.heap.size w w' := by
  have H := Lib.hid (all_err n A cap l w hn hr hl he)
  clear hn hr he
  generalize errG n l = c at *
  go_enter Try.func8, Try.ntmps8
  go_wp2_with fail
  refine H.out.mono ?_; rintro e w1 ⟨rfl, hb⟩
  have HB := Lib.hid hb
  clear hb
  go_wp2_with fail
  go_loop [8, 10, 19] (fun m _ i => m = .int .i64 0 ∧ i = .int .i64 0) (fun _ _ _ => 0)
  case atStart => exact ⟨rfl, rfl⟩
  case round =>
    obtain ⟨rfl, rfl⟩ := hrel
    go_wp2_with fail
    go_ret2
    exact ⟨rfl, HB.out⟩
end Go.Proofs.Ytoiidngnlhhanaa
