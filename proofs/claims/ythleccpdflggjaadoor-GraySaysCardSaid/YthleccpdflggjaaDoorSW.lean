import Derived.Test.YthleccpdflggjaaDoorSG
import Derived.Test.YthleccpdflggjaaDoorW4
import Derived.Test.YthleccpdflggjaaDoorOwn
import Derived.Test.YthleccpdflggjaaDoorTold
namespace Go.Proofs.YthleccpdflggjaaDoor
open Go.RowKit Pl
theorem int_info : (Tryd.prog.info? 3).map (fun i => (i.zero, i.size, i.bytes)) = some (some (.int .i64 0), 1, 8) := by kernel_rfl
theorem pow_nat (k : Nat) (h : k ≤ 8) : 2 ^ k ≤ 256 ∧ 1 ≤ 2 ^ k ∧ ((2 ^ k : Nat) : Int) = 2 ^ k := by
  have := pow_le k h
  have e : ((2 ^ k : Nat) : Int) = 2 ^ k := by norm_cast
  omega
set_option maxHeartbeats 4000000 in
theorem gray_any (n : Int) (w : World) (h8 : n ≤ 8) :
    Calls Tryd.prog 7 #[.int .i64 n] w fun e w' => ∃ v, e = .returned v ∧
      w'.ownsRow w.heap.size 3 1 v (2 ^ n.toNat) ((gr n.toNat).map (Value.int .i64)) ∧ Below w.heap.size w w' := by
  obtain ⟨i0, hi0, hz0, hz1, hz2⟩ := info_parts int_info
  have hstart : (w.alloc (.cells #[.int .i64 0] 3)).ownsRow w.heap.size 3 1 (.slice (some ⟨w.heap.size, 0, none⟩) 1 1) 1 [.int .i64 0] := own_lit #[.int .i64 0] 1 rfl (Nat.le_refl _) (by decide)
  have hbst : Below w.heap.size w (w.alloc (.cells #[.int .i64 0] 3)) := (Below.refl _ _).alloc (Nat.le_refl _) _
  have HS := Lib.hid hstart; have HB := Lib.hid hbst; clear hstart hbst
  go_enter Tryd.func7, Tryd.ntmps7
  go_wp2
  go_loopw [3, 4, 5, 6] (fun out k _ _ wr => ∃ (j : Nat) (v : Value), j ≤ n.toNat ∧ k = .int .i64 j ∧ v = out ∧ wr.ownsRow w.heap.size 3 1 v (2 ^ j) ((gr j).map (Value.int .i64)) ∧ Below w.heap.size w wr) (fun _ k _ _ _ => n.toNat - (intOf k).toNat)
  case atStart => exact ⟨0, _, Nat.zero_le _, rfl, rfl, HS.out, HB.out⟩
  case round =>
    obtain ⟨j, v, hj, rfl, rfl, hown, hb⟩ := hrel
    by_cases hlt : (j : Int) < n
    · have hp := pow_nat j (by omega)
      obtain ⟨hp1, hp2, hp3⟩ := hp
      have HP3 := Lib.hid hp3; clear hp3
      have HPF := Lib.hid (gpart_full j)
      have hown0 : wr.ownsRow w.heap.size 3 1 v (2 ^ j + 0) ((gpart j 0).map (Value.int .i64)) := by rw [gpart_zero]; exact hown
      obtain ⟨g, cap, rfl⟩ : ∃ g cap, v = .slice (some ⟨g, 0, none⟩) (2 ^ j) cap := by obtain ⟨g, cap, u, hv, _⟩ := own_at hown (k := 0) (by omega); exact ⟨g, cap, hv⟩
      clear hown
      have HO := Lib.hid hown0; have HB2 := Lib.hid hb; clear hown0 hb
      have HN : Hid (∀ j' m, m + j' + 1 = 2 ^ j → ∃ x : Int, (gpart j j')[m]? = some x ∧ 0 ≤ x ∧ x < 2 ^ j ∧ gpart j (j'+1) = gpart j j' ++ [x + 2 ^ j]) := gpart_next j
      generalize hq : 2 ^ j = q at *
      have HQ := Lib.hid hq; clear hq
      go_wp2
      go_loopw [3, 6] (fun out i wr2 => ∃ (m : Int) (j' : Nat) (v : Value), -1 ≤ m ∧ m + j' + 1 = q ∧ i = .int .i64 m ∧ v = out ∧ wr2.ownsRow w.heap.size 3 1 v (q + j') ((gpart j j').map (Value.int .i64)) ∧ Below w.heap.size w wr2) (fun _ i _ => (intOf i + 1).toNat)
      case atStart => exact ⟨_, 0, _, by omega, by omega, rfl, rfl, HO.out, HB2.out⟩
      case round =>
        obtain ⟨m, j', v, hm, hmj, rfl, rfl, hown, hb⟩ := hrel
        by_cases hm0 : 0 ≤ m
        · obtain ⟨m, rfl⟩ := Int.eq_ofNat_of_zero_le hm0
          obtain ⟨x, hx, hx0, hx1, hpn⟩ := HN.out j' m (by omega)
          obtain ⟨g, cap, u, rfl, hg1, hg2, hu, hc⟩ := own_at hown (k := m) (by omega)
          have hxu : u = .int .i64 x := by
            rw [List.getElem?_map, hx] at hu; simpa using hu.symm
          subst hxu
          have HX : x < q := by rw [HP3.out]; exact hx1
          have HPN : Hid ((gpart j (j'+1)).map (Value.int .i64) = (gpart j j').map (Value.int .i64) ++ [.int .i64 (x + q)]) := by
            show _ = _; rw [hpn, HP3.out, List.map_append]; rfl
          clear hpn hx hu hx1
          have HM := Lib.hid hmj; clear hmj
          have hmq : (m : Int) + j' < q := by have := HM.out; omega
          go_wp2_with (at_builtin; refine wp_app1 _ (.tmp 21) (.tmp 28) 25 rfl rfl w.heap.size 3 3 i0 _ 1 8 Tryd.underlying25 hi0 hz0 hz1 hz2 rfl (by omega) _ (q + j') ((gpart j j').map (Value.int .i64)) rfl hown [.int .i64 (x + q)] rfl rfl (by simp [Value.oneCell']) (by omega) (by omega) (by omega) ?_; intro v' w' hown' hg' hat' hb')
          go_roundw
          case rel => exact ⟨(m:Int) - 1, j' + 1, v', by omega, by have := HM.out; omega, by go_num, rfl, by rw [HPN.out]; exact hown', hb.trans hb'⟩
          case measure => simp [intOf] <;> omega
        · obtain rfl : m = -1 := by omega
          obtain rfl : j' = q := by omega
          have hown2 : wr.ownsRow w.heap.size 3 1 v (2 ^ (j + 1)) ((gr (j+1)).map (Value.int .i64)) := by
            have e : j' + j' = 2 ^ (j+1) := by rw [Nat.pow_succ, HQ.out]; omega
            have := HPF.out; rw [this, e] at hown; exact hown
          clear hown
          go_wp2
          go_roundw
          case rel => exact ⟨j + 1, _, by omega, by go_num, rfl, hown2, hb⟩
          case measure => simp [intOf] <;> omega
    · obtain rfl : j = n.toNat := by omega
      go_wp2
      go_ret
      exact ⟨_, rfl, hown, hb⟩

theorem same_error_nil_t (w : World) :
    Calls Tryd.prog 10 #[.nilIface, .int .i64 0] w fun e w' => e = .returned (.bool true) ∧ w = w' := (same_error_nil 0 w).mono fun _ _ ⟨h1, h2⟩ => ⟨by rw [h1]; rfl, h2⟩
theorem same_error_hit_t (w : World) (hg : TyCell w) :
    Calls Tryd.prog 10 #[.iface 33 (.int .i64 1), .int .i64 1] w fun e w' => e = .returned (.bool true) ∧ Below w.heap.size w w' := (same_error_hit 1 1 w hg).mono fun _ _ ⟨h1, h2⟩ => ⟨by rw [h1]; rfl, h2⟩
theorem in_dec {n a b : Int} {t : Bool} (h : decide (a ≤ n ∧ n ≤ b) = t) (w : World) :
    Calls Tryd.prog 4 #[.int .i64 n, .int .i64 a, .int .i64 b] w fun e w' => e = .returned (.bool t) ∧ w = w' :=
  (in_any n a b w).mono fun e w' ⟨he, hw⟩ => ⟨by rw [he, h], hw⟩
set_option maxHeartbeats 4000000 in
theorem says_bad (n p : Int) (w : World) (hg : TyCell w) (h : ¬ okP n p) :
    Calls Tryd.prog 3 #[.int .i64 n, .int .i64 p] w fun e w' => e = .returned (.bool true) ∧ Below w.heap.size w w' := by
  have H1 := fun w => Lib.hid (at_no n p w h)
  have H2 := fun w => Lib.hid (place_no n p w h)
  have H3 := fun w => Lib.hid (turn_no n p w (fun hh => h hh.1))
  have HG := Lib.hid hg; clear hg
  have tail : ∀ tmps : Array Value, True := fun _ => trivial
  clear tail
  by_cases hn : 0 ≤ n ∧ n ≤ 8
  · have hd : decide (0 ≤ n ∧ n ≤ 8) = true := by simpa using hn
    obtain ⟨h0, h8⟩ := hn
    have hp : ¬ (0 ≤ p ∧ p ≤ 2 ^ n.toNat - 1) := fun hh => h ⟨h0, h8, hh.1, hh.2⟩
    have hmin : min n 8 = n := by omega
    have H4 : ∀ w, Hid (Calls Tryd.prog 5 #[.int .i64 (min n 8)] w fun e w' => e = .returned (.int .i64 (2 ^ n.toNat)) ∧ w = w') := fun w => by rw [hmin]; exact power_any n w h8
    obtain ⟨hq1, hq2⟩ := pow_le n.toNat (by omega)
    clear hmin h
    generalize (2:Int) ^ n.toNat = m at *
    have hd2 : decide (0 ≤ p ∧ p ≤ m - 1) = false := by simpa using hp
    have HD := Lib.hid hd; have HD2 := Lib.hid hd2; clear hd hd2 hp
    go_enter Tryd.func3, Tryd.ntmps3
    go_wp2_with fail
    refine (in_dec HD.out _).mono ?_; rintro e w' ⟨rfl, rfl⟩
    go_wp2_with fail
    refine (least_any _ _ _).mono ?_; rintro e w' ⟨rfl, rfl⟩
    go_wp2_with fail
    refine (H4 _).out.mono ?_; rintro e w' ⟨rfl, rfl⟩
    go_wp2_with fail
    refine (in_dec HD2.out _).mono ?_; rintro e w' ⟨rfl, rfl⟩
    go_wp2_with fail
    refine (H1 _).out.mono ?_; rintro e w' ⟨rfl, rfl⟩
    go_wp2_with fail
    refine (same_error_hit_t _ HG.out).mono ?_; rintro e w1 ⟨rfl, hb1⟩
    have HB1 := Lib.hid hb1; clear hb1
    go_wp2_with fail
    refine (H2 _).out.mono ?_; rintro e w' ⟨rfl, rfl⟩
    go_wp2_with fail
    refine (same_error_hit_t _ (HG.out.below HB1.out)).mono ?_; rintro e w2 ⟨rfl, hb2⟩
    have HB2 := Lib.hid (HB1.out.trans (hb2.mono HB1.out.size)); clear hb2 
    go_wp2_with fail
    refine (H3 _).out.mono ?_; rintro e w' ⟨rfl, rfl⟩
    go_wp2_with fail
    refine (same_error_hit_t _ (HG.out.below HB2.out)).mono ?_; rintro e w3 ⟨rfl, hb3⟩
    have HB3 := Lib.hid (HB2.out.trans (hb3.mono HB2.out.size)); clear hb3
    go_wp2_with fail
    go_ret
    exact ⟨rfl, HB3.out⟩
  · have hd : decide (0 ≤ n ∧ n ≤ 8) = false := by simpa using hn
    have HD := Lib.hid hd; clear hd hn h
    go_enter Tryd.func3, Tryd.ntmps3
    go_wp2_with fail
    refine (in_dec HD.out _).mono ?_; rintro e w' ⟨rfl, rfl⟩
    go_wp2_with fail
    refine (H1 _).out.mono ?_; rintro e w' ⟨rfl, rfl⟩
    go_wp2_with fail
    refine (same_error_hit_t _ HG.out).mono ?_; rintro e w1 ⟨rfl, hb1⟩
    have HB1 := Lib.hid hb1; clear hb1
    go_wp2_with fail
    refine (H2 _).out.mono ?_; rintro e w' ⟨rfl, rfl⟩
    go_wp2_with fail
    refine (same_error_hit_t _ (HG.out.below HB1.out)).mono ?_; rintro e w2 ⟨rfl, hb2⟩
    have HB2 := Lib.hid (HB1.out.trans (hb2.mono HB1.out.size)); clear hb2 
    go_wp2_with fail
    refine (H3 _).out.mono ?_; rintro e w' ⟨rfl, rfl⟩
    go_wp2_with fail
    refine (same_error_hit_t _ (HG.out.below HB2.out)).mono ?_; rintro e w3 ⟨rfl, hb3⟩
    have HB3 := Lib.hid (HB2.out.trans (hb3.mono HB2.out.size)); clear hb3
    go_wp2_with fail
    go_ret
    exact ⟨rfl, HB3.out⟩
end Go.Proofs.YthleccpdflggjaaDoor
