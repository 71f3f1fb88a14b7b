import Derived.Test.YtekfgkeimlidhaaGreatDoorC
import Derived.Test.YtekfgkeimlidhaaGreatDoorOwn
import Derived.Test.YtekfgkeimlidhaaGreatDoorBits
set_option linter.all false
set_option maxRecDepth 100000
namespace Go.Proofs.YtekfgkeimlidhaaGreatDoor
open Go.RowKit Pl
/-- a set as a value -/
abbrev setV (m : Nat) : Value := .int .u64 (m : Int)
set_option maxHeartbeats 400000 in
theorem has_any (m i : Nat) (w : World) (hm : m < 65536) (hi : i < 64) :
    Calls Tryz.prog 57 #[.int .u64 m, .int .i64 i] w fun e w' => e = .returned (.bool (m.testBit i)) ∧ w = w' := by
  have HE := Lib.hid (bits_has m i (by omega))
  go_enter Tryz.func57, Tryz.ntmps57
  go_wp2
  go_ret
  exact ⟨ret_bool HE.out, rfl⟩
theorem has_dec {m i : Nat} {t : Bool} (h : m.testBit i = t) (w : World) (hm : m < 65536) (hi : i < 64) :
    Calls Tryz.prog 57 #[.int .u64 m, .int .i64 i] w fun e w' => e = .returned (.bool t) ∧ w = w' :=
  (has_any m i w hm hi).mono fun e w' ⟨h1, h2⟩ => ⟨by rw [h1, h], h2⟩
set_option maxHeartbeats 400000 in
theorem with_any (m i : Nat) (w : World) (hm : m < 65536) (hi : i < 64) :
    Calls Tryz.prog 58 #[.int .u64 m, .int .i64 i] w fun e w' => e = .returned (setV (m ||| 2 ^ i)) ∧ w = w' := by
  obtain ⟨p1, p2⟩ := pow_u64 i hi
  have HE : Hid (bits .or .u64 (m : Int) (IntKind.u64.wrap (2 ^ i)) = ((m ||| 2 ^ i : Nat) : Int)) := by show _ = _; rw [p1]; exact bits_or m _ (by omega) p2
  clear p1 p2
  unfold setV
  go_enter Tryz.func58, Tryz.ntmps58
  go_wp2
  go_ret
  exact ⟨ret_int HE.out, rfl⟩
set_option maxHeartbeats 400000 in
theorem without_any (m i : Nat) (w : World) (hm : m < 65536) (hi : i < 64) :
    Calls Tryz.prog 60 #[.int .u64 m, .int .i64 i] w fun e w' => e = .returned (setV (ndiff m (2 ^ i))) ∧ w = w' := by
  obtain ⟨p1, p2⟩ := pow_u64 i hi
  have HE : Hid (bits .andNot .u64 (m : Int) (IntKind.u64.wrap (2 ^ i)) = ((ndiff m (2 ^ i) : Nat) : Int)) := by show _ = _; rw [p1]; exact bits_andNot m _ (by omega) p2
  clear p1 p2
  unfold setV
  go_enter Tryz.func60, Tryz.ntmps60
  go_wp2
  go_ret
  exact ⟨ret_int HE.out, rfl⟩
theorem below_wrap (n : Nat) (hi : n ≤ 16) : IntKind.u64.wrap (IntKind.u64.wrap ((2 : Int) ^ n) - 1) = ((2 ^ n - 1 : Nat) : Int) := by
  obtain ⟨p1, p2⟩ := pow_u64 n (by omega)
  have : 1 ≤ 2 ^ n := Nat.two_pow_pos n
  rw [p1]
  have e : (((2 ^ n : Nat) : Int) - 1) = ((2 ^ n - 1 : Nat) : Int) := by rw [Int.natCast_sub this]; rfl
  rw [e]
  exact wrap_u64 (Int.natCast_nonneg _) (Int.ofNat_lt.2 (show 2 ^ n - 1 < 18446744073709551616 from by omega))
set_option maxHeartbeats 400000 in
theorem below_any (n : Nat) (w : World) (hi : n ≤ 16) :
    Calls Tryz.prog 64 #[.int .i64 n] w fun e w' => e = .returned (setV (2 ^ n - 1)) ∧ w = w' := by
  have HE := Lib.hid (below_wrap n hi)
  unfold setV
  go_enter Tryz.func64, Tryz.ntmps64
  go_wp2
  go_ret
  exact ⟨ret_int HE.out, rfl⟩
end Go.Proofs.YtekfgkeimlidhaaGreatDoor
