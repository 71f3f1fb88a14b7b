import Derived.Test.YthmfgnpkbcbkcaaDoorBk
import Derived.Test.YthmfgnpkbcbkcaaDoorQT
import Derived.Test.YthmfgnpkbcbkcaaDoorStr
import Derived.Shelf.Strconv.Itoa3
import Derived.Lib.ConvBytes
import Derived.Lib.AppendIntMem
/- a line's sum; a number's digits (the library's) -/
set_option linter.all false
set_option maxRecDepth 100000
namespace Go.Proofs.YthmfgnpkbcbkcaaDoor
open Go.RowKit Go.Shelf
def bsm : List UInt8 → Nat → Nat
  | [], _ => 0
  | c :: l, i => (i + 1) * c.toNat + bsm l (i + 1)
theorem bsm_app : ∀ (l : List UInt8) (c : UInt8) (i : Nat), bsm (l ++ [c]) i = bsm l i + (i + l.length + 1) * c.toNat
  | [], c, i => by simp [bsm]
  | d :: l, c, i => by
    rw [List.cons_append, bsm, bsm, bsm_app l c (i + 1), List.length_cons, show i + 1 + l.length + 1 = i + (l.length + 1) + 1 by omega]; omega
theorem bsm_le : ∀ (l : List UInt8) (i m : Nat), i + l.length ≤ m → bsm l i ≤ l.length * (m * 255)
  | [], _, _, _ => by simp [bsm]
  | d :: l, i, m, h => by
    rw [List.length_cons] at h
    have ih := bsm_le l (i + 1) m (by omega)
    have h1 : (i + 1) * d.toNat ≤ m * 255 := Nat.mul_le_mul (by omega) (by have := d.toNat_lt; omega)
    rw [bsm, List.length_cons, Nat.add_mul l.length 1 (m * 255)]; omega
def mSum (s : ByteArray) : Option Int := if s.size < 1000000 then some ((bsm s.data.toList 0 % 9973 : Nat) : Int) else none
set_option maxHeartbeats 1000000 in
theorem mSum_ok {s : ByteArray} {r : Int} (w : World) (h : mSum s = some r) :
    Calls Tryd.prog 43 #[.string s] w fun e w' => e = .returned (.int .i64 r) ∧ Below w.heap.size w w' := by
  unfold mSum at h
  split at h
  case isFalse => cases h
  rename_i hs
  obtain rfl := Option.some.inj h
  clear h
  have hcv := Lib.run_convert_string_bytes (P := Tryd.prog) w 9 54 5 s (u := .string) Tryd.underlying9 Tryd.underlying54 Tryd.underlying5
  have hB : ∀ j, j < s.size → (Lib.bytesWorld w 5 s).cell? ⟨w.heap.size, j, none⟩ = some (.int .u8 (s.data.toList.getD j 0).toNat) := fun j hj => Lib.bytesWorld_cell w 5 s j hj
  have hbel : Below w.heap.size w (Lib.bytesWorld w 5 s) := ⟨rfl, rfl, rfl, by rw [Lib.bytesWorld_size]; omega, fun k hk => Lib.bytesWorld_at_old w 5 s k hk⟩
  obtain ⟨W1, hW1⟩ : ∃ W1, W1 = Lib.bytesWorld w 5 s := ⟨_, rfl⟩
  rw [← hW1] at hcv hB hbel
  clear hW1
  obtain ⟨bs, hL⟩ : ∃ bs, bs = s.data.toList := ⟨_, rfl⟩
  have hLn : bs.length = s.size := by rw [hL, Array.length_toList]; rfl
  rw [← hL] at hB ⊢
  clear hL
  have HBEL := Lib.hid hbel; clear hbel
  go_enter Tryd.func43, Tryd.ntmps43
  go_wp2
  go_loop [3, 9] (fun vn vi => ∃ (k : Nat) (a : Int), vn = .int .i64 a ∧ vi = .int .i64 k ∧ k ≤ s.size ∧ Hid (a = (bsm (bs.take k) 0 : Nat))) (fun _ vi => s.size - (intOf vi).toNat)
  case atStart => exact ⟨0, 0, rfl, rfl, by omega, rfl⟩
  case round =>
    obtain ⟨k, a, rfl, rfl, hk, hh⟩ := hrel
    have ha := hh.out
    have hle := bsm_le (bs.take k) 0 k (by rw [List.length_take]; omega)
    have hle2 : (bs.take k).length * (k * 255) ≤ k * (k * 255) := Nat.mul_le_mul_right _ (by rw [List.length_take]; omega)
    have hk1 : k * (k * 255) ≤ 1000000 * (1000000 * 255) := Nat.mul_le_mul (by omega) (Nat.mul_le_mul (by omega) (Nat.le_refl _))
    have a0 : 0 ≤ a := by omega
    have a1 : a ≤ 255000000000000 := by omega
    clear hle hle2 hk1
    by_cases hkn : k < s.size
    · have hc := hB k hkn
      have hget : bs.getD k 0 = bs[k]'(by omega) := by simp [List.getD, List.getElem?_eq_getElem (show k < bs.length by omega)]
      rw [hget] at hc
      have hstep : bsm (bs.take (k + 1)) 0 = bsm (bs.take k) 0 + (k + 1) * (bs[k]'(by omega)).toNat := by
        rw [List.take_succ_eq_append_getElem (by omega), bsm_app, List.length_take, show 0 + min k bs.length + 1 = k + 1 by omega]
      generalize bs[k]'(by omega) = c at hc hget hstep
      have hc256 : c.toNat < 256 := c.toNat_lt
      have hp : (k + 1) * c.toNat ≤ 1000000 * 255 := Nat.mul_le_mul (by omega) (by omega)
      have hpe : ((k : Int) + 1) * (c.toNat : Int) = (((k + 1) * c.toNat : Nat) : Int) := by rw [Int.natCast_mul]; rfl
      generalize hq : (k + 1) * c.toNat = q at hp hpe hstep
      have HSTEP := Lib.hid hstep
      clear hB hget hstep ha hq
      go_wp2
      go_round
      case rel => exact ⟨k+1, a + q, by first | rfl | go_num | (congr 1; omega), by go_num, by omega, by show _ = _; rw [HSTEP.out, hh.out]; omega⟩
      case measure => simp [intOf] <;> omega
    · have hke : k = s.size := by omega
      have hfin : a = (bsm bs 0 : Nat) := by rw [ha, List.take_of_length_le (by omega)]
      clear hB ha
      have hmod : a.tmod 9973 = ((bsm bs 0 % 9973 : Nat) : Int) := by rw [hfin]; rfl
      go_wp2
      go_ret
      exact ⟨by first | rfl | (rw [← hmod]) | (congr 2), HBEL.out⟩
def TabC (w : World) : Prop := Lib.TabIs Tryd.prog w "internal/strconv.uint64pow10" .u64 Lib.pow10Tab
theorem TabC.go {w W : World} (h : TabC w) (hb : Below w.heap.size w W) : TabC W := by
  unfold TabC Lib.TabIs World.var? at *
  cases hg : Tryd.prog.globalNamed "internal/strconv.uint64pow10" with
  | none => simp [hg] at h
  | some g =>
    simp only [hg, Option.bind_some] at h ⊢
    have hlt : g < w.heap.size := by
      rcases Nat.lt_or_ge g w.heap.size with h' | h'
      · exact h'
      · simp [Array.getElem?_eq_none h'] at h
    rw [hb.block g hlt]; exact h
theorem TabC.lt {w : World} (h : TabC w) : 2 < w.heap.size := by
  have hg : Tryd.prog.globalNamed "internal/strconv.uint64pow10" = some 2 := by kernel_rfl
  unfold TabC Lib.TabIs World.var? at h
  simp only [hg, Option.bind_some] at h
  rcases Nat.lt_or_ge 2 w.heap.size with h' | h'
  · exact h'
  · simp [Array.getElem?_eq_none h'] at h
/-- the table lies below B -/
def TabB (B : Nat) (w : World) : Prop := TabC w ∧ 2 < B
theorem TabC.at_ {w : World} (h : TabC w) : TabB w.heap.size w := ⟨h, h.lt⟩
theorem TabB.go {B : Nat} {w W : World} (h : TabB B w) (hb : Below B w W) : TabB B W := by
  refine ⟨?_, h.2⟩
  have hg : Tryd.prog.globalNamed "internal/strconv.uint64pow10" = some 2 := by kernel_rfl
  have h1 := h.1
  unfold TabC Lib.TabIs World.var? at h1 ⊢
  simp only [hg, Option.bind_some] at h1 ⊢
  rw [hb.block _ h.2]; exact h1
def itoaRen : Ren := ⟨fun x => if x = 129 then 91 else if x = 171 then 41 else if x = 243 then 55 else if x = 246 then 66 else if x = 283 then 77 else if x = 284 then 78 else if x = 285 then 79 else if x = 286 then 80 else if x = 317 then 90 else if x = 318 then 92 else if x = 319 then 93 else if x = 320 then 94 else if x = 337 then 102 else if x = 338 then 103 else 0,
  fun x => if x = 0 then 0 else if x = 2 then 2 else if x = 3 then 3 else if x = 4 then 4 else if x = 5 then 5 else if x = 9 then 9 else if x = 20 then 20 else if x = 37 then 54 else if x = 46 then 50 else if x = 51 then 141 else if x = 53 then 125 else if x = 171 then 124 else if x = 173 then 128 else if x = 212 then 140 else if x = 213 then 142 else if x = 232 then 160 else if x = 233 then 161 else 0, fun x => if x = 17 then 2 else if x = 18 then 7 else if x = 19 then 8 else x⟩
theorem itoaLays : LaysM.n171 Tryd.prog itoaRen :=
  { mixed := by kernel_rfl
    f129 := Tryd.func91.trans (congrArg some (by kernel_rfl))
    f171 := Tryd.func41.trans (congrArg some (by kernel_rfl))
    f243 := Tryd.func55.trans (congrArg some (by kernel_rfl))
    f246 := Tryd.func66.trans (congrArg some (by kernel_rfl))
    f283 := Tryd.func77.trans (congrArg some (by kernel_rfl))
    f284 := Tryd.func78.trans (congrArg some (by kernel_rfl))
    f285 := Tryd.func79.trans (congrArg some (by kernel_rfl))
    f286 := Tryd.func80.trans (congrArg some (by kernel_rfl))
    f317 := Tryd.func90.trans (congrArg some (by kernel_rfl))
    f318 := Tryd.func92.trans (congrArg some (by kernel_rfl))
    f319 := Tryd.func93.trans (congrArg some (by kernel_rfl))
    f320 := Tryd.func94.trans (congrArg some (by kernel_rfl))
    f337 := Tryd.func102.trans (congrArg some (by kernel_rfl))
    f338 := Tryd.func103.trans (congrArg some (by kernel_rfl))
    t0 := Tryd.underlying0
    a0 := Tryd.isAgg0
    z0 := Tryd.sizeOf0
    v0 := Tryd.zeroValue0
    t2 := Tryd.underlying2
    a2 := Tryd.isAgg2
    z2 := Tryd.sizeOf2
    v2 := Tryd.zeroValue2
    t3 := Tryd.underlying3
    a3 := Tryd.isAgg3
    z3 := Tryd.sizeOf3
    v3 := Tryd.zeroValue3
    t4 := Tryd.underlying4
    a4 := Tryd.isAgg4
    z4 := Tryd.sizeOf4
    v4 := Tryd.zeroValue4
    t5 := Tryd.underlying5
    a5 := Tryd.isAgg5
    z5 := Tryd.sizeOf5
    v5 := Tryd.zeroValue5
    t9 := Tryd.underlying9
    a9 := Tryd.isAgg9
    z9 := Tryd.sizeOf9
    v9 := Tryd.zeroValue9
    t20 := Tryd.underlying20
    a20 := Tryd.isAgg20
    z20 := Tryd.sizeOf20
    v20 := Tryd.zeroValue20
    t37 := Tryd.underlying54
    a37 := Tryd.isAgg54
    z37 := Tryd.sizeOf54
    v37 := Tryd.zeroValue54
    t46 := Tryd.underlying50
    a46 := Tryd.isAgg50
    z46 := Tryd.sizeOf50
    v46 := Tryd.zeroValue50
    t51 := Tryd.underlying141
    a51 := Tryd.isAgg141
    z51 := Tryd.sizeOf141
    v51 := Tryd.zeroValue141
    t53 := Tryd.underlying125
    a53 := Tryd.isAgg125
    z53 := Tryd.sizeOf125
    v53 := Tryd.zeroValue125
    t171 := Tryd.underlying124
    a171 := Tryd.isAgg124
    z171 := Tryd.sizeOf124
    v171 := Tryd.zeroValue124
    t173 := Tryd.underlying128
    a173 := Tryd.isAgg128
    z173 := Tryd.sizeOf128
    v173 := Tryd.zeroValue128
    t212 := Tryd.underlying140
    a212 := Tryd.isAgg140
    z212 := Tryd.sizeOf140
    v212 := Tryd.zeroValue140
    t213 := Tryd.underlying142
    a213 := Tryd.isAgg142
    z213 := Tryd.sizeOf142
    t232 := Tryd.underlying160
    a232 := Tryd.isAgg160
    z232 := Tryd.sizeOf160
    v232 := Tryd.zeroValue160
    t233 := Tryd.underlying161
    a233 := Tryd.isAgg161
    z233 := Tryd.sizeOf161
    v233 := Tryd.zeroValue161
    g17 := by kernel_rfl
    g18 := by kernel_rfl
    g19 := by kernel_rfl
    i0 := by kernel_rfl
    i2 := by kernel_rfl
    i3 := by kernel_rfl
    i4 := by kernel_rfl
    i5 := by kernel_rfl
    i9 := by kernel_rfl
    i20 := by kernel_rfl
    i37 := by kernel_rfl
    i46 := by kernel_rfl
    i51 := by kernel_rfl
    i53 := by kernel_rfl
    i171 := by kernel_rfl
    i173 := by kernel_rfl
    i212 := by kernel_rfl
    i232 := by kernel_rfl
    i233 := by kernel_rfl
    m17 := by kernel_rfl
    m18 := by kernel_rfl
    m19 := by kernel_rfl }
def dec (n : Int) : ByteArray := ⟨(Lib.itoa n).toArray⟩
def mItoa (n : Int) : Option ByteArray := if 0 ≤ n ∧ n ≤ 9223372036854775807 then some (dec n) else none
theorem mItoa_ok {n : Int} {r : ByteArray} (w : World) (htb : TabC w) (h : mItoa n = some r) :
    Calls Tryd.prog 41 #[.int .i64 n] w fun e w' => e = .returned (.string r) ∧ Below w.heap.size w w' := by
  unfold mItoa at h
  split at h
  case isFalse => cases h
  rename_i hn
  obtain rfl := Option.some.inj h
  refine (Any.strconv_Itoa itoaLays n (by omega) hn.2 w htb).mono ?_
  rintro e w' ⟨rfl, k, os, rfl⟩
  exact ⟨rfl, Lib.below_grow _ _ (Nat.le_refl _) _ _⟩
end Go.Proofs.YthmfgnpkbcbkcaaDoor
