import Derived.Test.YtekfgkeimlidhaaGreatDoorBkN
import Derived.Test.YtekfgkeimlidhaaGreatDoorEv2
import Derived.Test.YtekfgkeimlidhaaGreatDoorQB
import Derived.Laws.Rows
import Derived.Test.YtekfgkeimlidhaaGreatDoorGR
import Derived.Test.YtekfgkeimlidhaaGreatDoorMSt
import Derived.Test.YtekfgkeimlidhaaGreatDoorBox
import Derived.Test.YtekfgkeimlidhaaGreatDoorBB2
import Derived.Test.YtekfgkeimlidhaaGreatDoorGF
import Derived.Test.YtekfgkeimlidhaaGreatDoorBFe
/- the document's digits, its sum -/
set_option linter.all false
set_option maxRecDepth 100000
namespace Go.Proofs.YtekfgkeimlidhaaGreatDoor
open Go.RowKit Go.Shelf
theorem dec_small : ∀ n, n < 10 → (⟨#[48, 49, 50, 51, 52, 53, 54, 55, 56, 57]⟩ : ByteArray).extract n (n + 1) = dec (n : Int) := by
  intro n hn
  have h : (⟨#[48, 49, 50, 51, 52, 53, 54, 55, 56, 57]⟩ : ByteArray).extract n (n + 1) = (⟨#[UInt8.ofNat (48 + n)]⟩ : ByteArray) := by
    have : ∀ n, n < 10 → (⟨#[48, 49, 50, 51, 52, 53, 54, 55, 56, 57]⟩ : ByteArray).extract n (n + 1) = (⟨#[UInt8.ofNat (48 + n)]⟩ : ByteArray) := by decide +kernel
    exact this n hn
  rw [h]; unfold dec Lib.itoa
  rw [if_neg (by omega), Int.toNat_natCast, Lib.decDigits_one hn]
theorem dec_big {n : Nat} (hn : ¬ n < 10) : dec (n : Int) = dec ((n / 10 : Nat) : Int) ++ dec ((n % 10 : Nat) : Int) := by
  unfold dec Lib.itoa
  rw [if_neg (by omega), if_neg (by omega), if_neg (by omega), Int.toNat_natCast, Int.toNat_natCast, Int.toNat_natCast, Lib.decDigits, dif_neg hn, Lib.decDigits_one (Nat.mod_lt n (by omega))]
  apply ByteArray.ext
  simp [ByteArray.data_append]
set_option maxHeartbeats 1000000 in
theorem digits_ok (w : World) : ∀ (k n : Nat), n < 10 ^ k → n ≤ 9223372036854775807 → Calls Tryz.prog 31 #[.int .i64 (n : Int)] w fun e w' => e = .returned (.string (dec (n : Int))) ∧ w = w' := by
  intro k
  induction k with
  | zero =>
    intro n hn _
    have h0 : n = 0 := by simpa using hn
    subst h0
    have hs := dec_small 0 (by omega)
    have HS := Lib.hid hs; clear hs hn
    go_enter Tryz.func31, Tryz.ntmps31
    go_wp2_with fail
    go_ret
    exact ⟨ret_v (congrArg Value.string HS.out), rfl⟩
  | succ k ih =>
    intro n hn hmax
    by_cases c : n < 10
    · have hs := dec_small n c
      have HS := Lib.hid hs; clear hs hn
      have c1 : ((n : Nat) : Int) < 10 := by omega
      have c2 : (0 : Int) ≤ ((n : Nat) : Int) := by omega
      have c3 : ((n : Nat) : Int) + 1 ≤ 10 := by omega
      go_enter Tryz.func31, Tryz.ntmps31
      go_wp2_with fail
      go_ret
      exact ⟨ret_v (congrArg Value.string (by first | exact HS.out | (simp; exact HS.out))), rfl⟩
    · have h1 := ih (n / 10) (by rw [Nat.pow_succ] at hn; omega) (by omega)
      have h2 : Calls Tryz.prog 31 #[.int .i64 ((n % 10 : Nat) : Int)] w fun e w' => e = .returned (.string (dec ((n % 10 : Nat) : Int))) ∧ w = w' := by
        rcases Nat.eq_zero_or_pos k with rfl | hk
        · exfalso; simp at hn; omega
        · exact ih (n % 10) (by have := Nat.mod_lt n (show 0 < 10 by omega); have := Nat.pow_le_pow_right (show 0 < 10 by omega) hk; omega) (by omega)
      have H1 := Lib.hid h1; have H2 := Lib.hid h2
      have hd1 := dec_le (n := ((n / 10 : Nat) : Int)) (by omega) (k := 19) (by omega) (by rw [Int.toNat_natCast]; omega)
      have hd2 := dec_le (n := ((n % 10 : Nat) : Int)) (by omega) (k := 1) (by omega) (by rw [Int.toNat_natCast]; omega)
      have hq : ((n : Nat) : Int).tdiv 10 = ((n / 10 : Nat) : Int) := rfl
      have hr : ((n : Nat) : Int).tmod 10 = ((n % 10 : Nat) : Int) := rfl
      have c1 : ¬ ((n : Nat) : Int) < 10 := by omega
      have HB := Lib.hid (dec_big c)
      have hc1 : ¬ (9223372036854775807 < (((dec ((n / 10 : Nat) : Int)).size : Int) + ((dec ((n % 10 : Nat) : Int)).size : Int))) := by omega
      clear h1 h2 hn c ih hd1 hd2
      generalize dec ((n / 10 : Nat) : Int) = y1 at *
      generalize dec ((n % 10 : Nat) : Int) = y2 at *
      go_enter Tryz.func31, Tryz.ntmps31
      go_wp2_with fail
      refine H1.out.mono ?_; rintro e w' ⟨rfl, rfl⟩
      go_wp2_with fail
      refine H2.out.mono ?_; rintro e w' ⟨rfl, rfl⟩
      go_wp2_with fail
      go_ret
      exact ⟨ret_v (congrArg Value.string HB.out.symm), rfl⟩
theorem bsm_drop {l : List UInt8} {k : Nat} (hk : k < l.length) : bsm (l.drop k) k = (k + 1) * (l[k]).toNat + bsm (l.drop (k + 1)) (k + 1) := by
  rw [List.drop_eq_getElem_cons hk, bsm]
set_option maxHeartbeats 1000000 in
theorem sum4_ok {s : ByteArray} {r : Int} (w : World) (h : mSum s = some r) :
    Calls Tryz.prog 73 #[.string s] w fun e w' => e = .returned (.int .i64 r) ∧ w = w' := by
  unfold mSum at h
  split at h
  case isFalse => cases h
  rename_i hs
  obtain rfl := Option.some.inj h
  clear h
  obtain ⟨bs, hL⟩ : ∃ bs, bs = s.data.toList := ⟨_, rfl⟩
  have hLn : bs.length = s.size := by rw [hL, Array.length_toList]; rfl
  have hat : ∀ k (hk : k < s.size), s[k]? = some (bs[k]'(by omega)) := fun k hk => by
    rw [getElem?_pos s k hk]
    simp [hL, ByteArray.getElem_eq_getElem_data]
  rw [← hL]
  clear hL
  go_enter Tryz.func73, Tryz.ntmps73
  go_wp2
  go_loop [3, 4] (fun vn vi => ∃ (k : Nat) (a : Int), vn = .int .i64 a ∧ vi = .int .i64 ((k : Int) - 1) ∧ k ≤ s.size ∧ Hid (a = (bsm (bs.drop k) k : Nat))) (fun _ vi => (intOf vi + 1).toNat)
  case atStart => exact ⟨s.size, 0, rfl, by first | rfl | go_num, by omega, by show (0 : Int) = _; rw [List.drop_of_length_le (by omega)]; rfl⟩
  case round =>
    obtain ⟨k, a, rfl, rfl, hk, hh⟩ := hrel
    rcases Nat.eq_zero_or_pos k with rfl | hk0
    · have ha := hh.out
      rw [List.drop_zero] at ha
      have hmod : a.tmod 9973 = ((bsm bs 0 % 9973 : Nat) : Int) := by rw [ha]; rfl
      clear hat ha
      go_wp2
      go_ret
      exact ⟨by first | rfl | (rw [← hmod]) | (congr 2), rfl⟩
    · obtain ⟨m, rfl⟩ : ∃ m, k = m + 1 := ⟨k - 1, by omega⟩
      have hm : ((m + 1 : Nat) : Int) - 1 = (m : Int) := by omega
      rw [hm]
      have ha := hh.out
      have hstep := bsm_drop (l := bs) (k := m) (by omega)
      have hle := bsm_le (bs.drop (m + 1)) (m + 1) s.size (by rw [List.length_drop]; omega)
      have hle2 : (bs.drop (m + 1)).length * (s.size * 255) ≤ 1000000 * (1000000 * 255) := Nat.mul_le_mul (by rw [List.length_drop]; omega) (Nat.mul_le_mul (by omega) (Nat.le_refl _))
      have a0 : 0 ≤ a := by omega
      have a1 : a ≤ 255000000000000 := by omega
      have hc := hat m (by omega)
      generalize bs[m]'(by omega) = c at hc hstep
      have hc256 : c.toNat < 256 := c.toNat_lt
      have hp : (m + 1) * c.toNat ≤ 1000000 * 255 := Nat.mul_le_mul (by omega) (by omega)
      have hpe : ((m : Int) + 1) * (c.toNat : Int) = (((m + 1) * c.toNat : Nat) : Int) := by rw [Int.natCast_mul]; rfl
      generalize hq : (m + 1) * c.toNat = q at hp hpe hstep
      have HSTEP := Lib.hid hstep
      obtain ⟨hms, hsc⟩ := getElem?_eq_some_iff.1 hc
      have HSC := Lib.hid hsc; have HPE := Lib.hid hpe; clear hsc
      have hci : s[((m : Int)).toNat]? = some c := by rw [Int.toNat_natCast]; exact hc
      clear hat hle hle2 ha hstep hq hm
      go_wp2
      go_round
      case rel => exact ⟨m, a + q, by
        refine congrArg (Value.int .i64) ?_
        first
          | rfl
          | (rw [HSC.out, w64 (x := (c.toNat : Int)) (by omega) (by omega), HPE.out, w64 (x := (q : Int)) (by omega) (by omega), w64 (by omega) (by omega)]), by first | rfl | go_num, by omega, by show _ = _; rw [HSTEP.out, hh.out]; omega⟩
      case measure => simp [intOf] <;> omega
end Go.Proofs.YtekfgkeimlidhaaGreatDoor
/- the document's book: a line is put down -/
set_option linter.all false
set_option maxRecDepth 100000
namespace Go.Proofs.YtekfgkeimlidhaaGreatDoor
open Go.RowKit Go.Shelf
/-- the document's book, as a value -/
def r4V (v : Value) (t : ByteArray) (n : Int) : Value := .agg #[v, .string t, .int .i64 n]
theorem line4 (word : ByteArray) (i j : Int) : (((word ++ (⟨#[32]⟩ : ByteArray)) ++ dec i) ++ (⟨#[32]⟩ : ByteArray)) ++ dec j = dnW word [i, j] := by
  rw [dnW, dnW, dnW]; simp only [ByteArray.append_assoc]
set_option maxHeartbeats 4000000 in
theorem down4_ok {A : Option Addr} {len cap : Nat} {t word : ByteArray} {n i j : Int} (w : World) (hi : 0 ≤ i ∧ i ≤ 7) (hj : 0 ≤ j ∧ j ≤ 7) (hw : word.size ≤ 10) (ht : t.size < 1000000) (hn : 0 ≤ n ∧ n < 1000) :
    Calls Tryz.prog 49 #[r4V (.slice A len cap) t n, .string word, .int .i64 i, .int .i64 j] w fun e w' =>
      e = .returned (r4V (.slice A len cap) (t ++ lineW (dnW word [i, j])) (n + 1)) ∧ Below w.heap.size w w' := by
  obtain ⟨i', rfl⟩ := Int.eq_ofNat_of_zero_le hi.1
  obtain ⟨j', rfl⟩ := Int.eq_ofNat_of_zero_le hj.1
  have d1 := dec_le (n := (i' : Int)) (by omega) (k := 1) (by omega) (by rw [Int.toNat_natCast]; omega)
  have d2 := dec_le (n := (j' : Int)) (by omega) (k := 1) (by omega) (by rw [Int.toNat_natCast]; omega)
  have hl := line4 word (i' : Int) (j' : Int)
  obtain ⟨wd, hwd⟩ : ∃ wd, wd = dnW word [(i' : Int), (j' : Int)] := ⟨_, rfl⟩
  have hws : wd.size ≤ 14 := by rw [hwd, ← hl]; simp only [ByteArray.size_append, one_size]; omega
  obtain ⟨sm, hsm⟩ : ∃ sm : Nat, sm = bsm wd.data.toList 0 % 9973 := ⟨_, rfl⟩
  have hsm0 : sm < 9973 := by rw [hsm]; exact Nat.mod_lt _ (by omega)
  have hS : mSum wd = some (sm : Int) := by unfold mSum; rw [if_pos (by omega), hsm]
  obtain ⟨y, hy⟩ : ∃ y, y = dec (sm : Int) := ⟨_, rfl⟩
  have hds : y.size ≤ 4 := by rw [hy]; exact dec_le (by omega) (by omega) (by rw [Int.toNat_natCast]; omega)
  have hline : (((t ++ wd) ++ (⟨#[32]⟩ : ByteArray)) ++ y) ++ (⟨#[10]⟩ : ByteArray) = t ++ lineW wd := by rw [lineW, hy, hsm]; simp only [ByteArray.append_assoc]
  have H1 := Lib.hid (fun w => digits_ok w 1 i' (by omega) (by omega))
  have H2 := Lib.hid (fun w => digits_ok w 1 j' (by omega) (by omega))
  rw [← hwd]
  rw [← hwd] at hl
  obtain ⟨di, hdi⟩ : ∃ di, di = dec (i' : Int) := ⟨_, rfl⟩
  obtain ⟨dj, hdj⟩ : ∃ dj, dj = dec (j' : Int) := ⟨_, rfl⟩
  rw [← hdi] at hl d1 H1
  rw [← hdj] at hl d2 H2
  have HL := Lib.hid hl
  have HLINE := Lib.hid hline
  have hc1 : ¬ (9223372036854775807 < ((word.size : Int) + ((⟨#[32]⟩ : ByteArray).size : Int))) := by rw [one_size]; omega
  have hc2 : ¬ (9223372036854775807 < (((word ++ (⟨#[32]⟩ : ByteArray)).size : Int) + (di.size : Int))) := by rw [ByteArray.size_append, one_size]; omega
  have hc3 : ¬ (9223372036854775807 < ((((word ++ (⟨#[32]⟩ : ByteArray)) ++ di).size : Int) + ((⟨#[32]⟩ : ByteArray).size : Int))) := by simp only [ByteArray.size_append, one_size]; omega
  have hc4 : ¬ (9223372036854775807 < (((((word ++ (⟨#[32]⟩ : ByteArray)) ++ di) ++ (⟨#[32]⟩ : ByteArray)).size : Int) + (dj.size : Int))) := by simp only [ByteArray.size_append, one_size]; omega
  have HCS := Lib.hid (fun W d_ os_ => Calls.regrown_of (v := .int .i64 (sm : Int)) ((sum4_ok (Go.Sort.grow (redrawn W d_) os_) hS).mono fun _ _ h_ => ⟨h_.1, h_.2 ▸ Below.refl _ _⟩))
  have HCI := Lib.hid (fun W d_ os_ => Calls.regrown_of (v := .string y) ((digits_ok (Go.Sort.grow (redrawn W d_) os_) 4 sm (by omega) (by omega)).mono fun _ _ h_ => ⟨by rw [hy]; exact h_.1, h_.2 ▸ Below.refl _ _⟩))
  have hn1 : ¬ (9223372036854775807 < t.size + wd.size) := by omega
  have hn2 : ¬ (9223372036854775807 < t.size + wd.size + 1) := by omega
  have hn3 : ¬ (9223372036854775807 < t.size + wd.size + 1 + y.size) := by omega
  have hn4 : ¬ (9223372036854775807 < t.size + wd.size + 1 + y.size + 1) := by omega
  clear hl hline hdi hdj hsm hy hwd hS d1 d2
  unfold r4V
  go_enter Tryz.func49, Tryz.ntmps49
  go_wp2_with fail
  refine (H1.out _).mono ?_; rintro e w' ⟨rfl, rfl⟩
  go_wp2_with fail
  refine (H2.out _).mono ?_; rintro e w' ⟨rfl, rfl⟩
  go_wp2_with fail
  rw [HL.out]
  have e1 : ((w.alloc (.cells #[Value.slice A len cap, .string t, .int .i64 n] 44)).alloc (.cells #[Value.slice none 0 0, .string { data := #[] }, .int .i64 0] 44)).heap[w.heap.size]? = some (.cells #[Value.slice A len cap, .string t, .int .i64 n] 44 (0, 0)) := by
    rw [heap_alloc_old _ _ _ (by simp)]; exact heap_alloc_new w _
  have e2 : ((w.alloc (.cells #[Value.slice A len cap, .string t, .int .i64 n] 44)).alloc (.cells #[Value.slice none 0 0, .string { data := #[] }, .int .i64 0] 44)).heap[w.heap.size + 1]? = some (.cells #[Value.slice none 0 0, .string { data := #[] }, .int .i64 0] 44 (0, 0)) := by
    have := heap_alloc_new (w.alloc (.cells #[Value.slice A len cap, .string t, .int .i64 n] 44)) (.cells #[Value.slice none 0 0, .string { data := #[] }, .int .i64 0] 44)
    simpa using this
  have hb2 : Below w.heap.size w ((w.alloc (.cells #[Value.slice A len cap, .string t, .int .i64 n] 44)).alloc (.cells #[Value.slice none 0 0, .string { data := #[] }, .int .i64 0] 44)) := ((Below.refl _ _).alloc (Nat.le_refl _) _).alloc (by simp) _
  generalize hW : World.alloc (World.alloc w _) _ = W2 at *
  clear hW
  have HB2 := Lib.hid hb2; have E1 := Lib.hid e1; have E2 := Lib.hid e2; clear hb2 e1 e2
  have c1 : W2.cell? ⟨w.heap.size, 1, none⟩ = some (.string t) := by rw [Lib.cell_of_heap E1.out]; rfl
  have c1_r := cell_regrown c1
  refine wp_region_quiet_tail 11 (by kernel_rfl) (by kernel_rfl) ?_
  dsimp only [List.take, List.drop]
  repeat (refine wpQH_step (fun K hK => ?_); go_simp; first | (refine hK _ ?_; clear hK K) | (apply Exists.intro; refine ⟨fun _ => ?_, hK _ ?_⟩; (first | (go_at_call 73; exact (HCS.out _ _ _)) | (go_at_call 31; exact (HCI.out _ _ _))); clear hK K))
  refine wpQH_nil ?_
  intro _ hw_
  obtain ⟨⟨dq, osq⟩, hw_⟩ := hw_
  subst hw_
  have hd := below_regrown W2 dq osq
  generalize Go.Sort.grow (redrawn W2 _) _ = W3 at *
  have l1 : w.heap.size < W2.heap.size := (Array.getElem?_eq_some_iff.1 E1.out).1
  have l2 : w.heap.size + 1 < W2.heap.size := (Array.getElem?_eq_some_iff.1 E2.out).1
  have g1 := (hd.block _ l1).trans E1.out
  have g2 := (hd.block _ l2).trans E2.out
  have HB3 := Lib.hid (HB2.out.trans (hd.mono HB2.out.size))
  clear c1 c1_r hd l1 l2
  rw [HLINE.out]
  have k1 : W3.cell? ⟨w.heap.size, 1, none⟩ = some (.string t) := by rw [Lib.cell_of_heap g1]; rfl
  have f1 : W3.frozen? ⟨w.heap.size, 1, none⟩ = false := Lib.frozen_of_heap g1 1
  have g1' : (W3.setCell ⟨w.heap.size, 1, none⟩ (.string (t ++ lineW wd))).heap[w.heap.size]? = some (.cells #[Value.slice A len cap, .string (t ++ lineW wd), .int .i64 n] 44 (0, 0)) := by
    simp [World.setCell, Array.getElem?_modify, g1]
  have g2' : (W3.setCell ⟨w.heap.size, 1, none⟩ (.string (t ++ lineW wd))).heap[w.heap.size + 1]? = _ := (Below.heap_setCell W3 ⟨w.heap.size, 1, none⟩ _ (w.heap.size + 1) (by simp)).trans g2
  have hb4 : Below w.heap.size w (W3.setCell ⟨w.heap.size, 1, none⟩ (.string (t ++ lineW wd))) := HB3.out.setCell (p := ⟨w.heap.size, 1, none⟩) (Nat.le_refl _) _
  have G1 := Lib.hid g1'; have G2 := Lib.hid g2'; have HB4 := Lib.hid hb4
  clear g1 g2 g1' g2' hb4
  go_upto_region 3 with (fail)
  generalize hW : World.setCell W3 _ _ = W4 at *
  clear hW k1 f1
  have k1 : W4.cell? ⟨w.heap.size, 2, none⟩ = some (.int .i64 n) := by rw [Lib.cell_of_heap G1.out]; rfl
  have f1 : W4.frozen? ⟨w.heap.size, 2, none⟩ = false := Lib.frozen_of_heap G1.out 2
  have g1' : (W4.setCell ⟨w.heap.size, 2, none⟩ (.int .i64 (n + 1))).heap[w.heap.size]? = some (.cells #[Value.slice A len cap, .string (t ++ lineW wd), .int .i64 (n + 1)] 44 (0, 0)) := by
    simp [World.setCell, Array.getElem?_modify, G1.out]
  have g2' : (W4.setCell ⟨w.heap.size, 2, none⟩ (.int .i64 (n + 1))).heap[w.heap.size + 1]? = _ := (Below.heap_setCell W4 ⟨w.heap.size, 2, none⟩ _ (w.heap.size + 1) (by simp)).trans G2.out
  have hb5 : Below w.heap.size w (W4.setCell ⟨w.heap.size, 2, none⟩ (.int .i64 (n + 1))) := HB4.out.setCell (p := ⟨w.heap.size, 2, none⟩) (Nat.le_refl _) _
  have J1 := Lib.hid g1'; have J2 := Lib.hid g2'; have HB5 := Lib.hid hb5
  clear g1' g2' hb5
  go_upto_region 4 with (fail)
  generalize hW : World.setCell W4 _ _ = W5 at *
  clear hW k1 f1
  have k0 : W5.cell? ⟨w.heap.size, 0, none⟩ = some (Value.slice A len cap) := by rw [Lib.cell_of_heap J1.out]; rfl
  have k1 : W5.cell? ⟨w.heap.size, 1, none⟩ = some (.string (t ++ lineW wd)) := by rw [Lib.cell_of_heap J1.out]; rfl
  have k2 : W5.cell? ⟨w.heap.size, 2, none⟩ = some (.int .i64 (n + 1)) := by rw [Lib.cell_of_heap J1.out]; rfl
  have r0 : W5.cell? ⟨w.heap.size + 1, 0, none⟩ = some (Value.slice none 0 0) := by rw [Lib.cell_of_heap J2.out]; rfl
  have r1 : W5.cell? ⟨w.heap.size + 1, 1, none⟩ = some (.string { data := #[] }) := by rw [Lib.cell_of_heap J2.out]; rfl
  have r2 : W5.cell? ⟨w.heap.size + 1, 2, none⟩ = some (.int .i64 0) := by rw [Lib.cell_of_heap J2.out]; rfl
  have q0 : W5.frozen? ⟨w.heap.size + 1, 0, none⟩ = false := Lib.frozen_of_heap J2.out 0
  have q1 : W5.frozen? ⟨w.heap.size + 1, 1, none⟩ = false := Lib.frozen_of_heap J2.out 1
  have q2 : W5.frozen? ⟨w.heap.size + 1, 2, none⟩ = false := Lib.frozen_of_heap J2.out 2
  go_wp2_with fail
  have g6 : (((W5.setCell ⟨w.heap.size + 1, 0, none⟩ (Value.slice A len cap)).setCell ⟨w.heap.size + 1, 1, none⟩ (.string (t ++ lineW wd))).setCell ⟨w.heap.size + 1, 2, none⟩ (.int .i64 (n + 1))).heap[w.heap.size + 1]? = some (.cells #[Value.slice A len cap, .string (t ++ lineW wd), .int .i64 (n + 1)] 44 (0, 0)) := by
    simp [World.setCell, Array.getElem?_modify, J2.out]
  have hb6 : Below w.heap.size w (((W5.setCell ⟨w.heap.size + 1, 0, none⟩ (Value.slice A len cap)).setCell ⟨w.heap.size + 1, 1, none⟩ (.string (t ++ lineW wd))).setCell ⟨w.heap.size + 1, 2, none⟩ (.int .i64 (n + 1))) :=
    ((HB5.out.setCell (p := ⟨w.heap.size + 1, 0, none⟩) (by simp) _).setCell (p := ⟨w.heap.size + 1, 1, none⟩) (by simp) _).setCell (p := ⟨w.heap.size + 1, 2, none⟩) (by simp) _
  refine bodyPost_ret (results_cell_row (p := 8) (ty := 44) rfl _ _ (w.heap.size + 1) _ _ _ _ rfl g6 Tryz.underlying44 rfl (by kernel_rfl)) rfl ⟨rfl, hb6⟩
end Go.Proofs.YtekfgkeimlidhaaGreatDoor
set_option linter.all false
set_option maxRecDepth 100000
namespace Go.Proofs.YtekfgkeimlidhaaGreatDoor
open Go.RowKit
def R4_in (F : Nat) (v0 : Int) (v1 : Int) (v2 : Int) : Option (Bool) := (if v1 ≤ v0 then if v0 ≤ v2 then some true else some false else some false).bind fun b1 => some (b1)
set_option maxRecDepth 100000 in
set_option maxHeartbeats 4000000 in
theorem R4_in_ok {F : Nat} {v0 : Int} {v1 : Int} {v2 : Int} {r : Bool} (w : World)  (h : R4_in F v0 v1 v2 = some r) :
    Calls Tryz.prog 51 #[.int .i64 v0, .int .i64 v1, .int .i64 v2] w fun e w' => e = .returned (.bool r) ∧ w = w' := by
  unfold R4_in at h
  have HM := Lib.hid h; clear h
  go_enter Tryz.func51, Tryz.ntmps51
  obtain ⟨b1, hb, hm⟩ := obind HM.out
  replace HM := Lib.hid hm; have HB2 := Lib.hid hb; clear hm hb
  by_cases hc3 : v1 ≤ v0
  · replace HB2 := Lib.hid (ifT hc3 HB2.out)
    have HK4 := Lib.hid hc3
    by_cases hc5 : v0 ≤ v2
    · replace HB2 := Lib.hid (ifT hc5 HB2.out)
      have HK6 := Lib.hid hc5
      obtain rfl := Option.some.inj HB2.out
      obtain rfl := Option.some.inj HM.out
      go_wp2_with fail
      go_ret
      exact ⟨(by first | rfl | (refine congrArg (fun b => Ending.returned (Value.bool b)) ?_; first | (exact decide_eq_true (by omega)) | (exact decide_eq_false (by omega)) | (have q := hc3; rw [bne_iff_ne] at q ⊢; omega) | (have q := hc3; rw [bne_eq_false_iff_eq] at q ⊢; omega) | (have q := hc3; rw [beq_iff_eq] at q ⊢; omega) | (have q := hc3; rw [beq_eq_false_iff_ne] at q ⊢; omega) | (have q := hc5; rw [bne_iff_ne] at q ⊢; omega) | (have q := hc5; rw [bne_eq_false_iff_eq] at q ⊢; omega) | (have q := hc5; rw [beq_iff_eq] at q ⊢; omega) | (have q := hc5; rw [beq_eq_false_iff_ne] at q ⊢; omega) | exact hc3 | (rw [hc3]; rfl) | exact hc5 | (rw [hc5]; rfl))), rfl⟩
    · replace HB2 := Lib.hid (ifF hc5 HB2.out)
      have hc5d := decide_eq_false hc5
      have HK6 := Lib.hid hc5
      obtain rfl := Option.some.inj HB2.out
      obtain rfl := Option.some.inj HM.out
      go_wp2_with fail
      go_ret
      exact ⟨(by first | rfl | (refine congrArg (fun b => Ending.returned (Value.bool b)) ?_; first | (exact decide_eq_true (by omega)) | (exact decide_eq_false (by omega)) | (have q := hc5; rw [bne_iff_ne] at q ⊢; omega) | (have q := hc5; rw [bne_eq_false_iff_eq] at q ⊢; omega) | (have q := hc5; rw [beq_iff_eq] at q ⊢; omega) | (have q := hc5; rw [beq_eq_false_iff_ne] at q ⊢; omega) | (have q := hc5d; rw [bne_iff_ne] at q ⊢; omega) | (have q := hc5d; rw [bne_eq_false_iff_eq] at q ⊢; omega) | (have q := hc5d; rw [beq_iff_eq] at q ⊢; omega) | (have q := hc5d; rw [beq_eq_false_iff_ne] at q ⊢; omega) | exact hc5 | (rw [hc5]; rfl) | exact hc5d | (rw [hc5d]; rfl))), rfl⟩
  · replace HB2 := Lib.hid (ifF hc3 HB2.out)
    have hc3d := decide_eq_false hc3
    have HK4 := Lib.hid hc3
    obtain rfl := Option.some.inj HB2.out
    obtain rfl := Option.some.inj HM.out
    go_wp2_with fail
    go_ret
    exact ⟨(by first | rfl | (refine congrArg (fun b => Ending.returned (Value.bool b)) ?_; first | (exact decide_eq_true (by omega)) | (exact decide_eq_false (by omega)) | (have q := hc3; rw [bne_iff_ne] at q ⊢; omega) | (have q := hc3; rw [bne_eq_false_iff_eq] at q ⊢; omega) | (have q := hc3; rw [beq_iff_eq] at q ⊢; omega) | (have q := hc3; rw [beq_eq_false_iff_ne] at q ⊢; omega) | (have q := hc3d; rw [bne_iff_ne] at q ⊢; omega) | (have q := hc3d; rw [bne_eq_false_iff_eq] at q ⊢; omega) | (have q := hc3d; rw [beq_iff_eq] at q ⊢; omega) | (have q := hc3d; rw [beq_eq_false_iff_ne] at q ⊢; omega) | exact hc3 | (rw [hc3]; rfl) | exact hc3d | (rw [hc3d]; rfl))), rfl⟩
def R4_two (F : Nat) (v0 : Int) (v1 : Int) : Option (Int) := (((R4_in F (v0) (0) (7)).bind fun y2 => if y2 = true then (R4_in F (v1) (0) (7)).bind fun y3 => if y3 = true then some false else some true else some true).bind fun b1 => if b1 = true then some (1) else (if (v0 == v1) = true then some (3) else some (0)))
set_option maxRecDepth 100000 in
set_option maxHeartbeats 4000000 in
theorem R4_two_ok {F : Nat} {v0 : Int} {v1 : Int} {r : Int} (w : World)  (h : R4_two F v0 v1 = some r) :
    Calls Tryz.prog 47 #[.int .i64 v0, .int .i64 v1] w fun e w' => e = .returned (.int .i64 r) ∧ w = w' := by
  unfold R4_two at h
  have HM := Lib.hid h; clear h
  go_enter Tryz.func47, Tryz.ntmps47
  go_upto_region 1 with (fail)
  obtain ⟨b1, hb, hm⟩ := obind HM.out
  replace HM := Lib.hid hm; have HB2 := Lib.hid hb; clear hm hb
  go_cut [12] (fun uq wr => uq = .bool b1 ∧ w = wr)
  case first =>
    obtain ⟨y6, hy4, hm⟩ := obind HB2.out
    replace HB2 := Lib.hid hm; clear hm
    have HC5 := R4_in_ok w  hy4
    clear hy4
    replace HC5 := Lib.hid HC5
    cases y6
    · replace HB2 := Lib.hid (ifF Bool.false_ne_true HB2.out)
      cases Option.some.inj HB2.out
      go_wp2_with fail
      refine HC5.out.mono ?_; rintro e w' ⟨rfl, rfl⟩
      try go_wp2_with fail
      go_meet
      case rel => exact ⟨rfl, rfl⟩
    · replace HB2 := Lib.hid (ifT rfl HB2.out)
      obtain ⟨y9, hy7, hm⟩ := obind HB2.out
      replace HB2 := Lib.hid hm; clear hm
      have HC8 := R4_in_ok w  hy7
      clear hy7
      replace HC8 := Lib.hid HC8
      cases y9
      · replace HB2 := Lib.hid (ifF Bool.false_ne_true HB2.out)
        cases Option.some.inj HB2.out
        go_wp2_with fail
        refine HC5.out.mono ?_; rintro e w' ⟨rfl, rfl⟩
        go_wp2_with fail
        refine HC8.out.mono ?_; rintro e w' ⟨rfl, rfl⟩
        try go_wp2_with fail
        go_meet
        case rel => exact ⟨rfl, rfl⟩
      · replace HB2 := Lib.hid (ifT rfl HB2.out)
        cases Option.some.inj HB2.out
        go_wp2_with fail
        refine HC5.out.mono ?_; rintro e w' ⟨rfl, rfl⟩
        go_wp2_with fail
        refine HC8.out.mono ?_; rintro e w' ⟨rfl, rfl⟩
        try go_wp2_with fail
        go_meet
        case rel => exact ⟨rfl, rfl⟩
  case rest =>
    obtain ⟨rfl, rfl⟩ := hcut
    cases b1
    · replace HM := Lib.hid (ifF Bool.false_ne_true HM.out)
      rcases Bool.eq_false_or_eq_true (v0 == v1) with hc10 | hc10
      · replace HM := Lib.hid (ifT hc10 HM.out)
        have HK11 := Lib.hid hc10
        obtain rfl := Option.some.inj HM.out
        go_wp2_with fail
        try clear hc10
        go_ret
        exact ⟨rfl, rfl⟩
      · replace HM := Lib.hid (ifF (bF hc10) HM.out)
        have HK11 := Lib.hid hc10
        obtain rfl := Option.some.inj HM.out
        go_wp2_with fail
        try clear hc10
        go_ret
        exact ⟨rfl, rfl⟩
    · replace HM := Lib.hid (ifT rfl HM.out)
      obtain rfl := Option.some.inj HM.out
      go_wp2_with fail
      go_ret
      exact ⟨rfl, rfl⟩
end Go.Proofs.YtekfgkeimlidhaaGreatDoor
/- append of lines to a row that the call owns -/
set_option linter.all false
set_option maxRecDepth 100000
namespace Go.Proofs.YtekfgkeimlidhaaGreatDoor
open Go.RowKit Go.Shelf Pl
theorem lineCells_app (l m : List (Int × Int)) : lineCells (l ++ m) = lineCells l ++ lineCells m := by simp [lineCells]
theorem run_appLs (W : World) (t ot : TypeId) (ht : Tryz.prog.underlying t = some (.slice 89))
    {B c : Nat} {A : Option Addr} {L1 L2 : List It} {v : Value} {l m : List (Int × Int)} (h : HP W B (L1 ++ .fl (owL v l) :: L2)) (hr : ReadsL W W.heap.size A m) (hlen : l.length + m.length < 1000000000) (hB : B ≤ W.heap.size) :
    ∃ v' w', (Builtin.append_ #[t, t] ot #[v, .slice A m.length c]).run Tryz.prog W = .ok v' w' ∧ HP w' B (L1 ++ .fl (owL v' (l ++ m)) :: L2) ∧ Below B W w' ∧ NC W w' := by
  obtain ⟨i0, hi0, hz0, hz1, hz2⟩ := info_parts line_info
  obtain ⟨M1, M2, h1, h2⟩ := h.getAt
  have hown : W.ownsRow B 89 2 v l.length (lineCells l) := h1.get (o := owL v l) (by simp)
  rcases A with _ | ad
  · have hm : m = [] := by
      rcases Nat.eq_zero_or_pos m.length with h0 | h0
      · exact List.eq_nil_of_length_eq_zero h0
      · obtain ⟨b, oo, e, _⟩ := hr.2 h0; cases e
    subst hm
    refine ⟨v, W, append_nil_run W (ty := ot) ht hi0 hown c, ?_, Below.refl _ _, NC.refl _⟩
    rw [List.append_nil]; exact h
  · obtain ⟨v', w', hrun, hown', hg, hlow, hblk⟩ := run_append_own_at (P := Tryz.prog) W B t ot 89 i0 _ 2 16 ht hi0 hz0 hz1 hz2 rfl (by omega) v l.length (lineCells l) hown ad m.length c (lineCells m) (lineCells_len m) (by
      intro j u hu
      have hj : 0 < m.length := by
        have := (List.getElem?_eq_some_iff.1 hu).1
        rw [lineCells_len] at this; omega
      obtain ⟨b, oo, e, _, hc⟩ := hr.2 hj
      cases e
      rw [Go.WideShapes.add_plain]; exact hc j u hu) (by
      intro u hu
      simp only [lineCells, List.mem_flatMap] at hu
      obtain ⟨y, _, hy⟩ := hu
      simp only [List.mem_cons, List.not_mem_nil, or_false] at hy
      rcases hy with rfl | rfl <;> rfl) (by unfold maxLen; omega) (by omega) hB
    refine ⟨v', w', hrun, h2 _ _ (h1.upd hg ?_ ?_), (Below.refl _ _).grown hg hB (fun k hk => (hown.lt k hk).1), NC.grown hg fun g hg' => own_cells hown hg'⟩
    · show w'.ownsRow B 89 2 v' (l ++ m).length (lineCells (l ++ m))
      rw [List.length_append, lineCells_app]; exact hown'
    · rcases hblk with e | e
      · exact .inl e
      · exact .inr ⟨_, e, by omega⟩
end Go.Proofs.YtekfgkeimlidhaaGreatDoor
/- the document's book: join -/
set_option linter.all false
set_option maxRecDepth 100000
namespace Go.Proofs.YtekfgkeimlidhaaGreatDoor
open Go.RowKit Go.Shelf Pl
theorem two_ev (i j : Int) : R4_two 300 i j = some (bkE i j) := by
  unfold R4_two R4_in bkE
  by_cases a : 0 ≤ i <;> by_cases b : i ≤ 7 <;> by_cases c : 0 ≤ j <;> by_cases d : j ≤ 7 <;> by_cases e : i = j <;> simp [a, b, c, d, e]
theorem results_cellrow_tmp {P : Program} {fn : Func} {p u : Tmp} {ty : TypeId} (h : fn.results = #[.cell p ty, .tmp u]) (tmps : Array Value) (w : World) (g : Nat) (t : TypeId) (cs : Array Value) (fr : Nat × Nat) (d : TypeDesc)
    (hp : tmps.getD p undef = .pointer (some ⟨g, 0, none⟩)) (hg : w.heap[g]? = some (.cells cs t fr))
    (hu : P.underlying ty = some d) (hd : (match d with | .struct _ | .array _ _ => true | _ => false) = true) (hi : (P.info? ty).map (·.size) = some cs.size) :
    (results fn tmps).run P w = .ok (.tuple #[.agg cs, tmps.getD u undef]) w := by
  have hp' : tmps[p]?.getD undef = .pointer (some ⟨g, 0, none⟩) := by simpa using hp
  simp [results, h, hp', asAddr, run_loadVar_row w g t ty cs fr d hg hu hd hi]
def r4E (l : List (Int × Int)) (n i j : Int) : Int := if bkE i j = 0 then (if besL l i j = true then 6 else if 60 ≤ n then 4 else 0) else bkE i j
set_option maxHeartbeats 4000000 in
theorem join4_bad {A : Option Addr} {cap : Nat} {l : List (Int × Int)} {t : ByteArray} {n i j : Int} (w : World) (hr : ReadsL w w.heap.size A l) (hl : l.length < 290) (he : r4E l n i j ≠ 0) :
    Calls Tryz.prog 27 #[r4V (.slice A l.length cap) t n, .int .i64 i, .int .i64 j] w fun e w' =>
      e = .returned (.tuple #[r4V (.slice A l.length cap) t n, .int .i64 (r4E l n i j)]) ∧ Below w.heap.size w w' := by
  have H2 := Lib.hid (fun w => R4_two_ok w (two_ev i j))
  have HR := Lib.hid hr; clear hr
  have hbev : R1_Beside 300 l i j = some (besL l i j) := R1_Beside_ev i j (by omega) (by omega)
  have HBV := Lib.hid hbev; clear hbev
  unfold r4E at he ⊢
  unfold r4V
  have go : ∀ k : Int, (bkE i j = k ∧ k ≠ 0 ∨ bkE i j = 0 ∧ (besL l i j = true ∧ k = 6 ∨ besL l i j = false ∧ 60 ≤ n ∧ k = 4)) →
      Calls Tryz.prog 27 #[.agg #[.slice A l.length cap, .string t, .int .i64 n], .int .i64 i, .int .i64 j] w fun e w' =>
      e = .returned (.tuple #[.agg #[.slice A l.length cap, .string t, .int .i64 n], .int .i64 k]) ∧ Below w.heap.size w w' := by
    intro k hk
    have e1 : ((w.alloc (.cells #[Value.slice A l.length cap, .string t, .int .i64 n] 44)).alloc (.cells #[Value.slice none 0 0, .string { data := #[] }, .int .i64 0] 44)).heap[w.heap.size]? = some (.cells #[Value.slice A l.length cap, .string t, .int .i64 n] 44 (0, 0)) := by
      rw [heap_alloc_old _ _ _ (by simp)]; exact heap_alloc_new w _
    have e2 : ((w.alloc (.cells #[Value.slice A l.length cap, .string t, .int .i64 n] 44)).alloc (.cells #[Value.slice none 0 0, .string { data := #[] }, .int .i64 0] 44)).heap[w.heap.size + 1]? = some (.cells #[Value.slice none 0 0, .string { data := #[] }, .int .i64 0] 44 (0, 0)) := by
      have := heap_alloc_new (w.alloc (.cells #[Value.slice A l.length cap, .string t, .int .i64 n] 44)) (.cells #[Value.slice none 0 0, .string { data := #[] }, .int .i64 0] 44)
      simpa using this
    have hb2 : Below w.heap.size w ((w.alloc (.cells #[Value.slice A l.length cap, .string t, .int .i64 n] 44)).alloc (.cells #[Value.slice none 0 0, .string { data := #[] }, .int .i64 0] 44)) := ((Below.refl _ _).alloc (Nat.le_refl _) _).alloc (by simp) _
    have key : ∀ W2 : World, W2.heap[w.heap.size]? = some (.cells #[Value.slice A l.length cap, .string t, .int .i64 n] 44 (0, 0)) → W2.heap[w.heap.size + 1]? = some (.cells #[Value.slice none 0 0, .string { data := #[] }, .int .i64 0] 44 (0, 0)) → Below w.heap.size w W2 →
        (W2.cell? ⟨w.heap.size, 0, none⟩ = some (Value.slice A l.length cap) ∧ W2.cell? ⟨w.heap.size, 1, none⟩ = some (.string t) ∧ W2.cell? ⟨w.heap.size, 2, none⟩ = some (.int .i64 n)) ∧
        (W2.cell? ⟨w.heap.size + 1, 0, none⟩ = some (Value.slice none 0 0) ∧ W2.cell? ⟨w.heap.size + 1, 1, none⟩ = some (.string { data := #[] }) ∧ W2.cell? ⟨w.heap.size + 1, 2, none⟩ = some (.int .i64 0)) ∧
        (W2.frozen? ⟨w.heap.size + 1, 0, none⟩ = false ∧ W2.frozen? ⟨w.heap.size + 1, 1, none⟩ = false ∧ W2.frozen? ⟨w.heap.size + 1, 2, none⟩ = false) ∧
        (((W2.setCell ⟨w.heap.size + 1, 0, none⟩ (Value.slice A l.length cap)).setCell ⟨w.heap.size + 1, 1, none⟩ (.string t)).setCell ⟨w.heap.size + 1, 2, none⟩ (.int .i64 n)).heap[w.heap.size + 1]? = some (.cells #[Value.slice A l.length cap, .string t, .int .i64 n] 44 (0, 0)) ∧
        Below w.heap.size w (((W2.setCell ⟨w.heap.size + 1, 0, none⟩ (Value.slice A l.length cap)).setCell ⟨w.heap.size + 1, 1, none⟩ (.string t)).setCell ⟨w.heap.size + 1, 2, none⟩ (.int .i64 n)) := by
      intro W2 h1 h2 hb
      refine ⟨⟨by rw [Lib.cell_of_heap h1]; rfl, by rw [Lib.cell_of_heap h1]; rfl, by rw [Lib.cell_of_heap h1]; rfl⟩, ⟨by rw [Lib.cell_of_heap h2]; rfl, by rw [Lib.cell_of_heap h2]; rfl, by rw [Lib.cell_of_heap h2]; rfl⟩, ⟨Lib.frozen_of_heap h2 0, Lib.frozen_of_heap h2 1, Lib.frozen_of_heap h2 2⟩, ?_,
        ((hb.setCell (p := ⟨w.heap.size + 1, 0, none⟩) (by simp) _).setCell (p := ⟨w.heap.size + 1, 1, none⟩) (by simp) _).setCell (p := ⟨w.heap.size + 1, 2, none⟩) (by simp) _⟩
      simp [World.setCell, Array.getElem?_modify, h2]
    have KEY := Lib.hid key; clear key
    rcases hk with ⟨hb, hk⟩ | ⟨hb, ⟨hbes, rfl⟩ | ⟨hbes, hn, rfl⟩⟩
    · rw [hb] at H2
      have q1 : (k == 0) = false := by simpa using hk
      have q2 : (k != 0) = true := by simpa using hk
      clear hb hk
      go_enter Tryz.func27, Tryz.ntmps27
      go_wp2_with fail
      generalize hW : World.alloc (World.alloc w _) _ = W2 at *
      clear hW
      obtain ⟨⟨k0, k1, k2⟩, ⟨r0, r1, r2⟩, ⟨f0, f1, f2⟩, g6, hb6⟩ := KEY.out W2 e1 e2 hb2
      have G6 := Lib.hid g6; have HB6 := Lib.hid hb6; clear g6 hb6 e1 e2 hb2
      refine (H2.out _).mono ?_; rintro e w' ⟨rfl, rfl⟩
      go_wp2_with fail
      refine bodyPost_ret (results_cellrow_tmp (p := 6) (u := 7) (ty := 44) rfl _ _ (w.heap.size + 1) _ _ _ _ rfl G6.out Tryz.underlying44 rfl (by kernel_rfl)) rfl ⟨rfl, HB6.out⟩
    · rw [hb] at H2
      rw [hbes] at HBV
      clear hb hbes
      go_enter Tryz.func27, Tryz.ntmps27
      go_wp2_with fail
      generalize hW : World.alloc (World.alloc w _) _ = W2 at *
      clear hW
      obtain ⟨⟨k0, k1, k2⟩, ⟨r0, r1, r2⟩, ⟨f0, f1, f2⟩, g6, hb6⟩ := KEY.out W2 e1 e2 hb2
      have HC := Lib.hid (R1_Beside_ok W2 cap (rdL hb2 HR.out) HBV.out)
      have G6 := Lib.hid g6; have HB6 := Lib.hid hb6; clear g6 hb6 e1 e2 hb2
      refine (H2.out _).mono ?_; rintro e w' ⟨rfl, rfl⟩
      go_wp2_with fail
      refine HC.out.mono ?_; rintro e w' ⟨rfl, rfl⟩
      go_wp2_with fail
      refine bodyPost_ret (results_cellrow_tmp (p := 6) (u := 7) (ty := 44) rfl _ _ (w.heap.size + 1) _ _ _ _ rfl G6.out Tryz.underlying44 rfl (by kernel_rfl)) rfl ⟨rfl, HB6.out⟩
    · rw [hb] at H2
      rw [hbes] at HBV
      clear hb hbes
      go_enter Tryz.func27, Tryz.ntmps27
      go_wp2_with fail
      generalize hW : World.alloc (World.alloc w _) _ = W2 at *
      clear hW
      obtain ⟨⟨k0, k1, k2⟩, ⟨r0, r1, r2⟩, ⟨f0, f1, f2⟩, g6, hb6⟩ := KEY.out W2 e1 e2 hb2
      have HC := Lib.hid (R1_Beside_ok W2 cap (rdL hb2 HR.out) HBV.out)
      have G6 := Lib.hid g6; have HB6 := Lib.hid hb6; clear g6 hb6 e1 e2 hb2
      refine (H2.out _).mono ?_; rintro e w' ⟨rfl, rfl⟩
      go_wp2_with fail
      refine HC.out.mono ?_; rintro e w' ⟨rfl, rfl⟩
      go_wp2_with fail
      refine bodyPost_ret (results_cellrow_tmp (p := 6) (u := 7) (ty := 44) rfl _ _ (w.heap.size + 1) _ _ _ _ rfl G6.out Tryz.underlying44 rfl (by kernel_rfl)) rfl ⟨rfl, HB6.out⟩
  refine go _ ?_
  by_cases c1 : bkE i j = 0
  · rw [if_pos c1] at he ⊢
    right; refine ⟨c1, ?_⟩
    cases hb : besL l i j with
    | true => rw [if_pos rfl]; exact .inl ⟨rfl, rfl⟩
    | false =>
      rw [hb, if_neg (by decide)] at he
      rw [if_neg (by decide)]
      by_cases c : 60 ≤ n
      · rw [if_pos c]; exact .inr ⟨rfl, c, rfl⟩
      · rw [if_neg c] at he; exact absurd rfl he
  · rw [if_neg c1]; exact .inl ⟨rfl, c1⟩
set_option maxHeartbeats 4000000 in
theorem join4_good {A : Option Addr} {cap : Nat} {l : List (Int × Int)} {t : ByteArray} {n i j : Int} (w : World) (hr : ReadsL w w.heap.size A l) (hl : l.length < 290) (ht : t.size < 1000000) (hn0 : 0 ≤ n) (he : r4E l n i j = 0) :
    Calls Tryz.prog 27 #[r4V (.slice A l.length cap) t n, .int .i64 i, .int .i64 j] w fun e w' =>
      ∃ V, e = .returned (.tuple #[r4V V (t ++ lineW (dnW (⟨#[106]⟩ : ByteArray) [i, j])) (n + 1), .int .i64 0]) ∧ Ow.ok w' w.heap.size (owL V (l ++ [(i, j)])) ∧ Below w.heap.size w w' := by
  have H2 := Lib.hid (fun w => R4_two_ok w (two_ev i j))
  have HR := Lib.hid hr; clear hr
  have hbev : R1_Beside 300 l i j = some (besL l i j) := R1_Beside_ev i j (by omega) (by omega)
  have HBV := Lib.hid hbev; clear hbev
  unfold r4E at he
  have hb : bkE i j = 0 := by
    by_cases c : bkE i j = 0
    · exact c
    · rw [if_neg c] at he; exact absurd he c
  rw [if_pos hb] at he
  have hbes : besL l i j = false := by
    cases c : besL l i j with
    | false => rfl
    | true => rw [c, if_pos rfl] at he; cases he
  rw [hbes, if_neg (by decide)] at he
  have hn : ¬ 60 ≤ n := fun c => by rw [if_pos c] at he; cases he
  have hij : (0 ≤ i ∧ i ≤ 7) ∧ (0 ≤ j ∧ j ≤ 7) := by
    unfold bkE at hb
    split at hb
    · assumption
    · cases hb
  rw [hb] at H2
  rw [hbes] at HBV
  have HDN := Lib.hid (fun (W : World) (A : Option Addr) (len cap : Nat) => down4_ok (A := A) (len := len) (cap := cap) (t := t) (word := (⟨#[106]⟩ : ByteArray)) (n := n) (i := i) (j := j) W hij.1 hij.2 (by rw [one_size]; omega) ht ⟨hn0, by omega⟩)
  unfold r4V at HDN ⊢
  clear hb hbes he
  have e1 : ((w.alloc (.cells #[Value.slice A l.length cap, .string t, .int .i64 n] 44)).alloc (.cells #[Value.slice none 0 0, .string { data := #[] }, .int .i64 0] 44)).heap[w.heap.size]? = some (.cells #[Value.slice A l.length cap, .string t, .int .i64 n] 44 (0, 0)) := by
    rw [heap_alloc_old _ _ _ (by simp)]; exact heap_alloc_new w _
  have e2 : ((w.alloc (.cells #[Value.slice A l.length cap, .string t, .int .i64 n] 44)).alloc (.cells #[Value.slice none 0 0, .string { data := #[] }, .int .i64 0] 44)).heap[w.heap.size + 1]? = some (.cells #[Value.slice none 0 0, .string { data := #[] }, .int .i64 0] 44 (0, 0)) := by
    have := heap_alloc_new (w.alloc (.cells #[Value.slice A l.length cap, .string t, .int .i64 n] 44)) (.cells #[Value.slice none 0 0, .string { data := #[] }, .int .i64 0] 44)
    simpa using this
  have hb2 : Below w.heap.size w ((w.alloc (.cells #[Value.slice A l.length cap, .string t, .int .i64 n] 44)).alloc (.cells #[Value.slice none 0 0, .string { data := #[] }, .int .i64 0] 44)) := ((Below.refl _ _).alloc (Nat.le_refl _) _).alloc (by simp) _
  go_enter Tryz.func27, Tryz.ntmps27
  go_wp2_with fail
  generalize hW : World.alloc (World.alloc w _) _ = W2 at *
  clear hW
  have k0 : W2.cell? ⟨w.heap.size, 0, none⟩ = some (Value.slice A l.length cap) := by rw [Lib.cell_of_heap e1]; rfl
  have k2 : W2.cell? ⟨w.heap.size, 2, none⟩ = some (.int .i64 n) := by rw [Lib.cell_of_heap e1]; rfl
  have HC := Lib.hid (R1_Beside_ok W2 cap (rdL hb2 HR.out) HBV.out)
  have l1 : w.heap.size < W2.heap.size := (Array.getElem?_eq_some_iff.1 e1).1
  have l2 : w.heap.size + 1 < W2.heap.size := (Array.getElem?_eq_some_iff.1 e2).1
  -- the two appends
  obtain ⟨V1, W3, a1, a2, a3, _⟩ := run_appLs W2 42 42 Tryz.underlying42 (c := cap) (L1 := []) (L2 := []) (l := []) (v := .slice none 0 0) (show HP W2 W2.heap.size ([] ++ .fl (owL (.slice none 0 0) []) :: []) from HP.nil.pushNil 89 2) (rdL hb2 HR.out) (by rw [List.length_nil]; omega) (Nat.le_refl _)
  simp only [List.nil_append] at a2
  obtain ⟨V2, W4, c1, c2, c3, _⟩ := run_appL W3 42 42 Tryz.underlying42 (e' := 89) (L1 := []) (L2 := []) (y := i) (z := j) a2 (by omega) a3.size
  have hb4 : Below W2.heap.size W2 W4 := a3.trans c3
  have g1 := (hb4.block _ l1).trans e1
  have g2 := (hb4.block _ l2).trans e2
  obtain ⟨A2, cap2, hv2, _⟩ := HP.open_L c2 (List.Mem.head _)
  rw [show (l ++ [(i, j)]).length = l.length + 1 by simp] at hv2
  subst hv2
  have m0 : W4.cell? ⟨w.heap.size, 0, none⟩ = some (Value.slice A l.length cap) := by rw [Lib.cell_of_heap g1]; rfl
  have mf : W4.frozen? ⟨w.heap.size, 0, none⟩ = false := Lib.frozen_of_heap g1 0
  have g1' : (W4.setCell ⟨w.heap.size, 0, none⟩ (.slice A2 (l.length + 1) cap2)).heap[w.heap.size]? = some (.cells #[Value.slice A2 (l.length + 1) cap2, .string t, .int .i64 n] 44 (0, 0)) := by
    simp [World.setCell, Array.getElem?_modify, g1]
  have g2' : (W4.setCell ⟨w.heap.size, 0, none⟩ (.slice A2 (l.length + 1) cap2)).heap[w.heap.size + 1]? = _ := (Below.heap_setCell W4 ⟨w.heap.size, 0, none⟩ _ (w.heap.size + 1) (by simp)).trans g2
  have how : Ow.ok W4 W2.heap.size (owL (.slice A2 (l.length + 1) cap2) (l ++ [(i, j)])) := c2.get (List.Mem.head _)
  have how5 : Ow.ok (W4.setCell ⟨w.heap.size, 0, none⟩ (.slice A2 (l.length + 1) cap2)) W2.heap.size (owL (.slice A2 (l.length + 1) cap2) (l ++ [(i, j)])) := by
    refine Ow.ok.kept (row := some w.heap.size) how ⟨rfl, rfl, rfl, by simp [World.setCell], fun k _ hk => Below.heap_setCell _ _ _ _ (fun e => hk (by rw [e]))⟩ ?_
    cases hvb : (owL (.slice A2 (l.length + 1) cap2) (l ++ [(i, j)])).v.ownBlock with
    | none => exact .inl rfl
    | some k => right; intro e; have := (Ow.ok.lt how k hvb).1; cases e; omega
  have hb5 : Below w.heap.size w (W4.setCell ⟨w.heap.size, 0, none⟩ (.slice A2 (l.length + 1) cap2)) := (hb2.trans (hb4.mono hb2.size)).setCell (p := ⟨w.heap.size, 0, none⟩) (Nat.le_refl _) _
  have G1 := Lib.hid g1'; have G2 := Lib.hid g2'; have HB5 := Lib.hid hb5; have HOW := Lib.hid how5; have HS2 := Lib.hid l2; have HB2S := Lib.hid hb2.size
  have C1 := Lib.hid a1; have C2 := Lib.hid c1
  clear g1 g2 g1' g2' hb5 how how5 e1 e2 a2 a3 c2 c3 hb4 l1 l2 a1 c1 hb2
  refine (H2.out _).mono ?_; rintro e w' ⟨rfl, rfl⟩
  go_wp2_with fail
  refine HC.out.mono ?_; rintro e w' ⟨rfl, rfl⟩
  go_upto_region 10 with (at_builtin; refine wp_appRun C1.out rfl rfl rfl rfl ?_)
  go_upto_region 11 with (at_builtin; refine wp_appRun C2.out rfl rfl rfl rfl ?_)
  generalize hW : World.setCell W4 _ _ = W5 at *
  clear hW k0 k2 m0 mf
  have p0 : W5.cell? ⟨w.heap.size, 0, none⟩ = some (Value.slice A2 (l.length + 1) cap2) := by rw [Lib.cell_of_heap G1.out]; rfl
  have p1 : W5.cell? ⟨w.heap.size, 1, none⟩ = some (.string t) := by rw [Lib.cell_of_heap G1.out]; rfl
  have p2 : W5.cell? ⟨w.heap.size, 2, none⟩ = some (.int .i64 n) := by rw [Lib.cell_of_heap G1.out]; rfl
  go_wp2_with fail
  refine (HDN.out W5 A2 (l.length + 1) cap2).mono ?_; rintro e W6 ⟨rfl, hd6⟩
  have l5 : w.heap.size + 1 < W5.heap.size := (Array.getElem?_eq_some_iff.1 G2.out).1
  have g2 := (hd6.block _ l5).trans G2.out
  have hb6 := HB5.out.trans (hd6.mono HB5.out.size)
  have how6 : Ow.ok W6 W2.heap.size (owL (.slice A2 (l.length + 1) cap2) (l ++ [(i, j)])) := Ow.ok.kept HOW.out (grown_of_below hd6) (by cases (owL (.slice A2 (l.length + 1) cap2) (l ++ [(i, j)])).v.ownBlock <;> simp)
  obtain ⟨t2, ht2⟩ : ∃ t2, t2 = t ++ lineW (dnW (⟨#[106]⟩ : ByteArray) [i, j]) := ⟨_, rfl⟩
  rw [← ht2]
  have x0 : W6.cell? ⟨w.heap.size + 1, 0, none⟩ = some (Value.slice none 0 0) := by rw [Lib.cell_of_heap g2]; rfl
  have x1 : W6.cell? ⟨w.heap.size + 1, 1, none⟩ = some (.string { data := #[] }) := by rw [Lib.cell_of_heap g2]; rfl
  have x2 : W6.cell? ⟨w.heap.size + 1, 2, none⟩ = some (.int .i64 0) := by rw [Lib.cell_of_heap g2]; rfl
  have y0 : W6.frozen? ⟨w.heap.size + 1, 0, none⟩ = false := Lib.frozen_of_heap g2 0
  have y1 : W6.frozen? ⟨w.heap.size + 1, 1, none⟩ = false := Lib.frozen_of_heap g2 1
  have y2 : W6.frozen? ⟨w.heap.size + 1, 2, none⟩ = false := Lib.frozen_of_heap g2 2
  have g6 : (((W6.setCell ⟨w.heap.size + 1, 0, none⟩ (Value.slice A2 (l.length + 1) cap2)).setCell ⟨w.heap.size + 1, 1, none⟩ (.string t2)).setCell ⟨w.heap.size + 1, 2, none⟩ (.int .i64 (n + 1))).heap[w.heap.size + 1]? = some (.cells #[Value.slice A2 (l.length + 1) cap2, .string t2, .int .i64 (n + 1)] 44 (0, 0)) := by
    simp [World.setCell, Array.getElem?_modify, g2]
  have hb7 : Below w.heap.size w (((W6.setCell ⟨w.heap.size + 1, 0, none⟩ (Value.slice A2 (l.length + 1) cap2)).setCell ⟨w.heap.size + 1, 1, none⟩ (.string t2)).setCell ⟨w.heap.size + 1, 2, none⟩ (.int .i64 (n + 1))) :=
    ((hb6.setCell (p := ⟨w.heap.size + 1, 0, none⟩) (by simp) _).setCell (p := ⟨w.heap.size + 1, 1, none⟩) (by simp) _).setCell (p := ⟨w.heap.size + 1, 2, none⟩) (by simp) _
  have keep : ∀ (W : World) (k : Nat) (u : Value), Ow.ok W W2.heap.size (owL (.slice A2 (l.length + 1) cap2) (l ++ [(i, j)])) → Ow.ok (W.setCell ⟨w.heap.size + 1, k, none⟩ u) W2.heap.size (owL (.slice A2 (l.length + 1) cap2) (l ++ [(i, j)])) := by
    intro W k u hW
    refine Ow.ok.kept (row := some (w.heap.size + 1)) hW ⟨rfl, rfl, rfl, by simp [World.setCell], fun k _ hk => Below.heap_setCell _ _ _ _ (fun e => hk (by rw [e]))⟩ ?_
    cases hvb : (owL (.slice A2 (l.length + 1) cap2) (l ++ [(i, j)])).v.ownBlock with
    | none => exact .inl rfl
    | some k => right; intro e; have := (Ow.ok.lt hW k hvb).1; have := HS2.out; cases e; omega
  have how7 := keep _ 2 (.int .i64 (n + 1)) (keep _ 1 (.string t2) (keep _ 0 (Value.slice A2 (l.length + 1) cap2) how6))
  have HT2 := Lib.hid ht2
  have G6 := Lib.hid g6; have HB7 := Lib.hid hb7; have HOW7 := Lib.hid (Ow.ok.weak how7 HB2S.out)
  clear g6 hb7 how7 how6 keep g2 hb6 l5 ht2 hd6 p0 p1 p2
  go_wp2_with fail
  refine bodyPost_ret (results_cellrow_tmp (p := 6) (u := 7) (ty := 44) rfl _ _ (w.heap.size + 1) _ _ _ _ rfl G6.out Tryz.underlying44 rfl (by kernel_rfl)) rfl ⟨_, by rw [← HT2.out]; rfl, HOW7.out, HB7.out⟩
end Go.Proofs.YtekfgkeimlidhaaGreatDoor
/- the document's book: cut, its errors -/
set_option linter.all false
set_option maxRecDepth 100000
namespace Go.Proofs.YtekfgkeimlidhaaGreatDoor
open Go.RowKit Go.Shelf Pl
def r4C (l : List (Int × Int)) (n i j : Int) : Int := if bkE i j = 0 then (if besL l i j = true then (if 60 ≤ n then 4 else 0) else 5) else bkE i j
set_option maxHeartbeats 4000000 in
theorem cut4_bad {A : Option Addr} {cap : Nat} {l : List (Int × Int)} {t : ByteArray} {n i j : Int} (w : World) (hr : ReadsL w w.heap.size A l) (hl : l.length < 290) (he : r4C l n i j ≠ 0) :
    Calls Tryz.prog 29 #[r4V (.slice A l.length cap) t n, .int .i64 i, .int .i64 j] w fun e w' =>
      e = .returned (.tuple #[r4V (.slice A l.length cap) t n, .int .i64 (r4C l n i j)]) ∧ Below w.heap.size w w' := by
  have H2 := Lib.hid (fun w => R4_two_ok w (two_ev i j))
  have HR := Lib.hid hr; clear hr
  have hbev : R1_Beside 300 l i j = some (besL l i j) := R1_Beside_ev i j (by omega) (by omega)
  have HBV := Lib.hid hbev; clear hbev
  unfold r4C at he ⊢
  unfold r4V
  have go : ∀ k : Int, (bkE i j = k ∧ k ≠ 0 ∨ bkE i j = 0 ∧ (besL l i j = false ∧ k = 5 ∨ besL l i j = true ∧ 60 ≤ n ∧ k = 4)) →
      Calls Tryz.prog 29 #[.agg #[.slice A l.length cap, .string t, .int .i64 n], .int .i64 i, .int .i64 j] w fun e w' =>
      e = .returned (.tuple #[.agg #[.slice A l.length cap, .string t, .int .i64 n], .int .i64 k]) ∧ Below w.heap.size w w' := by
    intro k hk
    have e1 : ((w.alloc (.cells #[Value.slice A l.length cap, .string t, .int .i64 n] 44)).alloc (.cells #[Value.slice none 0 0, .string { data := #[] }, .int .i64 0] 44)).heap[w.heap.size]? = some (.cells #[Value.slice A l.length cap, .string t, .int .i64 n] 44 (0, 0)) := by
      rw [heap_alloc_old _ _ _ (by simp)]; exact heap_alloc_new w _
    have e2 : ((w.alloc (.cells #[Value.slice A l.length cap, .string t, .int .i64 n] 44)).alloc (.cells #[Value.slice none 0 0, .string { data := #[] }, .int .i64 0] 44)).heap[w.heap.size + 1]? = some (.cells #[Value.slice none 0 0, .string { data := #[] }, .int .i64 0] 44 (0, 0)) := by
      have := heap_alloc_new (w.alloc (.cells #[Value.slice A l.length cap, .string t, .int .i64 n] 44)) (.cells #[Value.slice none 0 0, .string { data := #[] }, .int .i64 0] 44)
      simpa using this
    have hb2 : Below w.heap.size w ((w.alloc (.cells #[Value.slice A l.length cap, .string t, .int .i64 n] 44)).alloc (.cells #[Value.slice none 0 0, .string { data := #[] }, .int .i64 0] 44)) := ((Below.refl _ _).alloc (Nat.le_refl _) _).alloc (by simp) _
    have key : ∀ W2 : World, W2.heap[w.heap.size]? = some (.cells #[Value.slice A l.length cap, .string t, .int .i64 n] 44 (0, 0)) → W2.heap[w.heap.size + 1]? = some (.cells #[Value.slice none 0 0, .string { data := #[] }, .int .i64 0] 44 (0, 0)) → Below w.heap.size w W2 →
        (W2.cell? ⟨w.heap.size, 0, none⟩ = some (Value.slice A l.length cap) ∧ W2.cell? ⟨w.heap.size, 1, none⟩ = some (.string t) ∧ W2.cell? ⟨w.heap.size, 2, none⟩ = some (.int .i64 n)) ∧
        (W2.cell? ⟨w.heap.size + 1, 0, none⟩ = some (Value.slice none 0 0) ∧ W2.cell? ⟨w.heap.size + 1, 1, none⟩ = some (.string { data := #[] }) ∧ W2.cell? ⟨w.heap.size + 1, 2, none⟩ = some (.int .i64 0)) ∧
        (W2.frozen? ⟨w.heap.size + 1, 0, none⟩ = false ∧ W2.frozen? ⟨w.heap.size + 1, 1, none⟩ = false ∧ W2.frozen? ⟨w.heap.size + 1, 2, none⟩ = false) ∧
        (((W2.setCell ⟨w.heap.size + 1, 0, none⟩ (Value.slice A l.length cap)).setCell ⟨w.heap.size + 1, 1, none⟩ (.string t)).setCell ⟨w.heap.size + 1, 2, none⟩ (.int .i64 n)).heap[w.heap.size + 1]? = some (.cells #[Value.slice A l.length cap, .string t, .int .i64 n] 44 (0, 0)) ∧
        Below w.heap.size w (((W2.setCell ⟨w.heap.size + 1, 0, none⟩ (Value.slice A l.length cap)).setCell ⟨w.heap.size + 1, 1, none⟩ (.string t)).setCell ⟨w.heap.size + 1, 2, none⟩ (.int .i64 n)) := by
      intro W2 h1 h2 hb
      refine ⟨⟨by rw [Lib.cell_of_heap h1]; rfl, by rw [Lib.cell_of_heap h1]; rfl, by rw [Lib.cell_of_heap h1]; rfl⟩, ⟨by rw [Lib.cell_of_heap h2]; rfl, by rw [Lib.cell_of_heap h2]; rfl, by rw [Lib.cell_of_heap h2]; rfl⟩, ⟨Lib.frozen_of_heap h2 0, Lib.frozen_of_heap h2 1, Lib.frozen_of_heap h2 2⟩, ?_,
        ((hb.setCell (p := ⟨w.heap.size + 1, 0, none⟩) (by simp) _).setCell (p := ⟨w.heap.size + 1, 1, none⟩) (by simp) _).setCell (p := ⟨w.heap.size + 1, 2, none⟩) (by simp) _⟩
      simp [World.setCell, Array.getElem?_modify, h2]
    have KEY := Lib.hid key; clear key
    rcases hk with ⟨hb, hk⟩ | ⟨hb, ⟨hbes, rfl⟩ | ⟨hbes, hn, rfl⟩⟩
    · rw [hb] at H2
      have q1 : (k == 0) = false := by simpa using hk
      have q2 : (k != 0) = true := by simpa using hk
      clear hb hk
      go_enter Tryz.func29, Tryz.ntmps29
      go_wp2_with fail
      generalize hW : World.alloc (World.alloc w _) _ = W2 at *
      clear hW
      obtain ⟨⟨k0, k1, k2⟩, ⟨r0, r1, r2⟩, ⟨f0, f1, f2⟩, g6, hb6⟩ := KEY.out W2 e1 e2 hb2
      have G6 := Lib.hid g6; have HB6 := Lib.hid hb6; clear g6 hb6 e1 e2 hb2
      refine (H2.out _).mono ?_; rintro e w' ⟨rfl, rfl⟩
      go_wp2_with fail
      refine bodyPost_ret (results_cellrow_tmp (p := 6) (u := 7) (ty := 44) rfl _ _ (w.heap.size + 1) _ _ _ _ rfl G6.out Tryz.underlying44 rfl (by kernel_rfl)) rfl ⟨rfl, HB6.out⟩
    · rw [hb] at H2
      rw [hbes] at HBV
      clear hb hbes
      go_enter Tryz.func29, Tryz.ntmps29
      go_wp2_with fail
      generalize hW : World.alloc (World.alloc w _) _ = W2 at *
      clear hW
      obtain ⟨⟨k0, k1, k2⟩, ⟨r0, r1, r2⟩, ⟨f0, f1, f2⟩, g6, hb6⟩ := KEY.out W2 e1 e2 hb2
      have HC := Lib.hid (R1_Beside_ok W2 cap (rdL hb2 HR.out) HBV.out)
      have G6 := Lib.hid g6; have HB6 := Lib.hid hb6; clear g6 hb6 e1 e2 hb2
      refine (H2.out _).mono ?_; rintro e w' ⟨rfl, rfl⟩
      go_wp2_with fail
      refine HC.out.mono ?_; rintro e w' ⟨rfl, rfl⟩
      go_wp2_with fail
      refine bodyPost_ret (results_cellrow_tmp (p := 6) (u := 7) (ty := 44) rfl _ _ (w.heap.size + 1) _ _ _ _ rfl G6.out Tryz.underlying44 rfl (by kernel_rfl)) rfl ⟨rfl, HB6.out⟩
    · rw [hb] at H2
      rw [hbes] at HBV
      clear hb hbes
      go_enter Tryz.func29, Tryz.ntmps29
      go_wp2_with fail
      generalize hW : World.alloc (World.alloc w _) _ = W2 at *
      clear hW
      obtain ⟨⟨k0, k1, k2⟩, ⟨r0, r1, r2⟩, ⟨f0, f1, f2⟩, g6, hb6⟩ := KEY.out W2 e1 e2 hb2
      have HC := Lib.hid (R1_Beside_ok W2 cap (rdL hb2 HR.out) HBV.out)
      have G6 := Lib.hid g6; have HB6 := Lib.hid hb6; clear g6 hb6 e1 e2 hb2
      refine (H2.out _).mono ?_; rintro e w' ⟨rfl, rfl⟩
      go_wp2_with fail
      refine HC.out.mono ?_; rintro e w' ⟨rfl, rfl⟩
      go_wp2_with fail
      refine bodyPost_ret (results_cellrow_tmp (p := 6) (u := 7) (ty := 44) rfl _ _ (w.heap.size + 1) _ _ _ _ rfl G6.out Tryz.underlying44 rfl (by kernel_rfl)) rfl ⟨rfl, HB6.out⟩
  refine go _ ?_
  by_cases c1 : bkE i j = 0
  · rw [if_pos c1] at he ⊢
    right; refine ⟨c1, ?_⟩
    cases hb : besL l i j with
    | false => rw [if_neg (by decide)]; exact .inl ⟨rfl, rfl⟩
    | true =>
      rw [hb, if_pos rfl] at he
      rw [if_pos rfl]
      by_cases c : 60 ≤ n
      · rw [if_pos c]; exact .inr ⟨rfl, c, rfl⟩
      · rw [if_neg c] at he; exact absurd rfl he
  · rw [if_neg c1]; exact .inl ⟨rfl, c1⟩
end Go.Proofs.YtekfgkeimlidhaaGreatDoor
/- the document's book: how far -/
set_option linter.all false
set_option maxRecDepth 100000
namespace Go.Proofs.YtekfgkeimlidhaaGreatDoor
open Go.RowKit Go.Shelf Pl
theorem in4_ev (a b c : Int) : R4_in 300 a b c = some (decide (b ≤ a ∧ a ≤ c)) := by
  unfold R4_in
  by_cases x : b ≤ a <;> by_cases y : a ≤ c <;> simp [x, y]
set_option maxHeartbeats 4000000 in
theorem far4_ok {A : Option Addr} {cap : Nat} {l : List (Int × Int)} {t : ByteArray} {n i j y : Int} {M : List (List Int)} {row : List Int} (w : World) (hr : ReadsL w w.heap.size A l) (hi : 0 ≤ i ∧ i ≤ 7) (hj : 0 ≤ j ∧ j ≤ 7)
    (hM : R1_Far 300 8 l true (-1) = some M) (h1 : ix M i = some row) (h2 : ix row j = some y) :
    Calls Tryz.prog 30 #[r4V (.slice A l.length cap) t n, .int .i64 i, .int .i64 j] w fun e w' =>
      e = .returned (.tuple #[.int .i64 y, .int .i64 0]) ∧ Below w.heap.size w w' := by
  have HI := Lib.hid (fun w => R4_in_ok w (in4_ev i 0 7))
  have HJ := Lib.hid (fun w => R4_in_ok w (in4_ev j 0 7))
  rw [decide_eq_true hi] at HI
  rw [decide_eq_true hj] at HJ
  have HR := Lib.hid hr; have HM := Lib.hid hM; have H1 := Lib.hid h1; have H2 := Lib.hid h2
  clear hr hM h1 h2 hi hj
  unfold r4V
  go_enter Tryz.func30, Tryz.ntmps30
  go_wp2_with fail
  have e1 : (w.alloc (.cells #[Value.slice A l.length cap, .string t, .int .i64 n] 44)).heap[w.heap.size]? = some (.cells #[Value.slice A l.length cap, .string t, .int .i64 n] 44 (0, 0)) := heap_alloc_new w _
  have hb2 : Below w.heap.size w (w.alloc (.cells #[Value.slice A l.length cap, .string t, .int .i64 n] 44)) := (Below.refl _ _).alloc (Nat.le_refl _) _
  generalize hW : World.alloc w _ = W2 at *
  clear hW
  have k0 : W2.cell? ⟨w.heap.size, 0, none⟩ = some (Value.slice A l.length cap) := by rw [Lib.cell_of_heap e1]; rfl
  have HC := Lib.hid (R1_Far_ok W2 cap (rdL hb2 HR.out) HM.out)
  have HB2 := Lib.hid hb2
  clear e1 hb2
  refine (HI.out _).mono ?_; rintro e w' ⟨rfl, rfl⟩
  go_wp2_with fail
  refine (HJ.out _).mono ?_; rintro e w' ⟨rfl, rfl⟩
  go_wp2_with fail
  refine HC.out.mono ?_; rintro e W3 ⟨V, rfl, ho, hd⟩
  obtain ⟨A3, cap3, hv, hr3⟩ := HP.open_R ho (List.Mem.head _)
  subst hv
  obtain ⟨b4, o4, A5, c5, ea, _, f1, f2, f3, hrr, hrc⟩ := ReadsR.ixc hr3 H1.out
  cases ea
  obtain ⟨b6, o6, ea, _, f4, f5, f6⟩ := ReadsI.ix hrr H2.out
  cases ea
  have HB3 := Lib.hid (HB2.out.trans (hd.mono HB2.out.size))
  clear hd ho hr3 hrr hrc k0
  go_wp2_with fail
  go_ret2
  exact ⟨rfl, HB3.out⟩
set_option maxHeartbeats 4000000 in
theorem far4_bad {v : Value} {t : ByteArray} {n i j : Int} {A : Option Addr} {len cap : Nat} (w : World) (hij : ¬ ((0 ≤ i ∧ i ≤ 7) ∧ (0 ≤ j ∧ j ≤ 7))) :
    Calls Tryz.prog 30 #[r4V (.slice A len cap) t n, .int .i64 i, .int .i64 j] w fun e w' =>
      e = .returned (.tuple #[.int .i64 0, .int .i64 1]) ∧ Below w.heap.size w w' := by
  have HI := Lib.hid (fun w => R4_in_ok w (in4_ev i 0 7))
  have HJ := Lib.hid (fun w => R4_in_ok w (in4_ev j 0 7))
  unfold r4V
  by_cases hi : 0 ≤ i ∧ i ≤ 7
  · have hj : ¬ (0 ≤ j ∧ j ≤ 7) := fun h => hij ⟨hi, h⟩
    rw [decide_eq_true hi] at HI
    rw [decide_eq_false hj] at HJ
    clear hij hi hj
    go_enter Tryz.func30, Tryz.ntmps30
    go_wp2_with fail
    refine (HI.out _).mono ?_; rintro e w' ⟨rfl, rfl⟩
    go_wp2_with fail
    refine (HJ.out _).mono ?_; rintro e w' ⟨rfl, rfl⟩
    go_wp2_with fail
    go_ret2
    exact ⟨rfl, (Below.refl _ _).alloc (Nat.le_refl _) _⟩
  · rw [decide_eq_false hi] at HI
    clear hij hi
    go_enter Tryz.func30, Tryz.ntmps30
    go_wp2_with fail
    refine (HI.out _).mono ?_; rintro e w' ⟨rfl, rfl⟩
    go_wp2_with fail
    go_ret2
    exact ⟨rfl, (Below.refl _ _).alloc (Nat.le_refl _) _⟩
end Go.Proofs.YtekfgkeimlidhaaGreatDoor
/- the document's book: cut -/
set_option linter.all false
set_option maxRecDepth 100000
namespace Go.Proofs.YtekfgkeimlidhaaGreatDoor
open Go.RowKit Go.Shelf Pl
def cutL (l : List (Int × Int)) (i j : Int) : List (Int × Int) := l.filter fun p => !((p.1 == i && p.2 == j) || (p.1 == j && p.2 == i))
theorem cutL_step {l : List (Int × Int)} {i j : Int} {k : Nat} (hk : k < l.length) : cutL (l.take (k + 1)) i j = cutL (l.take k) i j ++ (if ((l[k].1 == i && l[k].2 == j) || (l[k].1 == j && l[k].2 == i)) = true then [] else [(l[k].1, l[k].2)]) := by
  unfold cutL
  rw [List.take_succ_eq_append_getElem hk, List.filter_append]
  congr 1
  generalize hc : ((l[k].1 == i && l[k].2 == j) || (l[k].1 == j && l[k].2 == i)) = c
  simp only [List.filter_cons, List.filter_nil, hc]
  cases c <;> rfl
set_option maxHeartbeats 4000000 in
theorem cut4_good {A : Option Addr} {cap : Nat} {l : List (Int × Int)} {t : ByteArray} {n i j : Int} (w : World) (hr : ReadsL w w.heap.size A l) (hl : l.length < 290) (ht : t.size < 1000000) (hn0 : 0 ≤ n) (he : r4C l n i j = 0) :
    Calls Tryz.prog 29 #[r4V (.slice A l.length cap) t n, .int .i64 i, .int .i64 j] w fun e w' =>
      ∃ V, e = .returned (.tuple #[r4V V (t ++ lineW (dnW (⟨#[99]⟩ : ByteArray) [i, j])) (n + 1), .int .i64 0]) ∧ Ow.ok w' w.heap.size (owL V (cutL l i j)) ∧ Below w.heap.size w w' := by
  have H2 := Lib.hid (fun w => R4_two_ok w (two_ev i j))
  have HR := Lib.hid hr; clear hr
  have hbev : R1_Beside 300 l i j = some (besL l i j) := R1_Beside_ev i j (by omega) (by omega)
  have HBV := Lib.hid hbev; clear hbev
  unfold r4C at he
  have hb : bkE i j = 0 := by
    by_cases c : bkE i j = 0
    · exact c
    · rw [if_neg c] at he; exact absurd he c
  rw [if_pos hb] at he
  have hbes : besL l i j = true := by
    cases c : besL l i j with
    | true => rfl
    | false => rw [c, if_neg (by decide)] at he; cases he
  rw [hbes, if_pos rfl] at he
  have hn : ¬ 60 ≤ n := fun c => by rw [if_pos c] at he; cases he
  have hij : (0 ≤ i ∧ i ≤ 7) ∧ (0 ≤ j ∧ j ≤ 7) := by
    unfold bkE at hb
    split at hb
    · assumption
    · cases hb
  have hne : i ≠ j := fun e => by
    unfold bkE at hb
    rw [if_pos hij, if_pos e] at hb
    cases hb
  have HNE := Lib.hid hne; clear hne
  rw [hb] at H2
  rw [hbes] at HBV
  have HDN := Lib.hid (fun (W : World) (A : Option Addr) (len cap : Nat) => down4_ok (A := A) (len := len) (cap := cap) (t := t) (word := (⟨#[99]⟩ : ByteArray)) (n := n) (i := i) (j := j) W hij.1 hij.2 (by rw [one_size]; omega) ht ⟨hn0, by omega⟩)
  unfold r4V at HDN ⊢
  clear hb hbes he
  have e1 : ((w.alloc (.cells #[Value.slice A l.length cap, .string t, .int .i64 n] 44)).alloc (.cells #[Value.slice none 0 0, .string { data := #[] }, .int .i64 0] 44)).heap[w.heap.size]? = some (.cells #[Value.slice A l.length cap, .string t, .int .i64 n] 44 (0, 0)) := by
    rw [heap_alloc_old _ _ _ (by simp)]; exact heap_alloc_new w _
  have e2 : ((w.alloc (.cells #[Value.slice A l.length cap, .string t, .int .i64 n] 44)).alloc (.cells #[Value.slice none 0 0, .string { data := #[] }, .int .i64 0] 44)).heap[w.heap.size + 1]? = some (.cells #[Value.slice none 0 0, .string { data := #[] }, .int .i64 0] 44 (0, 0)) := by
    have := heap_alloc_new (w.alloc (.cells #[Value.slice A l.length cap, .string t, .int .i64 n] 44)) (.cells #[Value.slice none 0 0, .string { data := #[] }, .int .i64 0] 44)
    simpa using this
  have hb2 : Below w.heap.size w ((w.alloc (.cells #[Value.slice A l.length cap, .string t, .int .i64 n] 44)).alloc (.cells #[Value.slice none 0 0, .string { data := #[] }, .int .i64 0] 44)) := ((Below.refl _ _).alloc (Nat.le_refl _) _).alloc (by simp) _
  go_enter Tryz.func29, Tryz.ntmps29
  go_wp2_with fail
  generalize hW : World.alloc (World.alloc w _) _ = W2 at *
  clear hW
  have k0 : W2.cell? ⟨w.heap.size, 0, none⟩ = some (Value.slice A l.length cap) := by rw [Lib.cell_of_heap e1]; rfl
  have k2 : W2.cell? ⟨w.heap.size, 2, none⟩ = some (.int .i64 n) := by rw [Lib.cell_of_heap e1]; rfl
  have HC := Lib.hid (R1_Beside_ok W2 cap (rdL hb2 HR.out) HBV.out)
  have l1 : w.heap.size < W2.heap.size := (Array.getElem?_eq_some_iff.1 e1).1
  have l2 : w.heap.size + 1 < W2.heap.size := (Array.getElem?_eq_some_iff.1 e2).1
  have HB2 := Lib.hid hb2; have G1 := Lib.hid e1; have G2 := Lib.hid e2; have K0 := Lib.hid k0
  clear hb2 e1 e2
  refine (H2.out _).mono ?_; rintro e w' ⟨rfl, rfl⟩
  go_wp2_with fail
  refine HC.out.mono ?_; rintro e w' ⟨rfl, rfl⟩
  go_wp2_with fail
  clear k0 k2
  go_loopg [9, 10] 300 (fun gg uv uk wr => ∃ (V : Value) (k : Nat), V = uv ∧ uk = .int .i64 k ∧ k ≤ l.length ∧ gg = 300 - k ∧ Hid (Below W2.heap.size W2 wr) ∧ Hid (HP wr W2.heap.size [.fl (owL V (cutL (l.take k) i j))]))
  case atStart => exact ⟨_, 0, rfl, rfl, by omega, rfl, Lib.hid (Below.refl _ _), Lib.hid (HP.nil.pushNil 89 2)⟩
  case round =>
    obtain ⟨V, k, rfl, rfl, hk, rfl, HD, HP_⟩ := hrel
    rename World => W3
    have c0 := (HD.out.cell (p := ⟨w.heap.size, 0, none⟩) l1).trans K0.out
    by_cases hkn : k < l.length
    · obtain ⟨b, o, rfl, hbl, h1, h2⟩ := (rdL (HB2.out.trans (HD.out.mono HB2.out.size)) HR.out).at_ hkn
      have HT := Lib.hid (cutL_step (i := i) (j := j) hkn)
      generalize l[k].1 = x at h1 HT
      generalize l[k].2 = y at h2 HT
      have hal : Below W3.heap.size W3 (W3.alloc (.cells #[.int .i64 x, .int .i64 y] 89)) := (Below.refl _ _).alloc (Nat.le_refl _) _
      have hlen : (cutL (l.take k) i j).length ≤ k := by
        unfold cutL
        have := List.length_filter_le (fun p : Int × Int => !((p.1 == i && p.2 == j) || (p.1 == j && p.2 == i))) (l.take k)
        rw [List.length_take] at this; omega
      obtain ⟨V', W5, q1, q2, q3, _⟩ := run_appL (W3.alloc (.cells #[.int .i64 x, .int .i64 y] 89)) 42 42 Tryz.underlying42 (e' := 89) (L1 := []) (L2 := []) (y := x) (z := y) (HP_.out.below hal) (by omega) (Nat.le_trans HD.out.size hal.size)
      simp only [World.size_alloc] at q1
      have HAL := Lib.hid hal; have Q1 := Lib.hid q1; have Q2 := Lib.hid q2; have Q3 := Lib.hid q3
      clear hal hlen q1 q2 q3
      have hr2 : ∀ c : Bool, ((x == i && y == j) || (x == j && y == i)) = c → Hid (cutL (l.take (k + 1)) i j = cutL (l.take k) i j ++ (if c = true then [] else [(x, y)])) := fun c hc => by
        show _ = _
        rw [← hc]; exact HT.out
      by_cases e1 : x = i
      · have b1 : (x == i) = true := beq_iff_eq.2 e1
        have b3 : (x == j) = false := beq_eq_false_iff_ne.2 fun h => HNE.out (e1.symm.trans h)
        by_cases e2 : y = j
        · have b2 : (y == j) = true := beq_iff_eq.2 e2
          have HT2 := hr2 true (by rw [b1, b2]; rfl)
          rw [if_pos rfl, List.append_nil] at HT2
          clear hr2 HT b3 e1 e2
          go_wp2_with fail
          go_roundg (300 - (k + 1))
          case measure => omega
          case rel => exact ⟨_, k + 1, rfl, by go_num, by omega, rfl, Lib.hid (HD.out.trans (HAL.out.mono HD.out.size)), Lib.hid (by rw [HT2.out]; exact HP_.out.below HAL.out)⟩
        · have b2 : (y == j) = false := beq_eq_false_iff_ne.2 e2
          have HT2 := hr2 false (by rw [b1, b2, b3]; rfl)
          rw [if_neg (by decide)] at HT2
          clear hr2 HT e1 e2
          go_wp2_with (at_builtin; refine wp_appRun Q1.out rfl rfl rfl rfl ?_)
          go_roundg (300 - (k + 1))
          case measure => omega
          case rel => exact ⟨_, k + 1, rfl, by go_num, by omega, rfl, Lib.hid (HD.out.trans ((HAL.out.mono HD.out.size).trans Q3.out)), Lib.hid (by rw [HT2.out]; exact Q2.out)⟩
      · have b1 : (x == i) = false := beq_eq_false_iff_ne.2 e1
        by_cases e3 : x = j
        · have b3 : (x == j) = true := beq_iff_eq.2 e3
          by_cases e4 : y = i
          · have b4 : (y == i) = true := beq_iff_eq.2 e4
            have HT2 := hr2 true (by rw [b1, b3, b4]; rfl)
            rw [if_pos rfl, List.append_nil] at HT2
            clear hr2 HT e1 e3 e4
            go_wp2_with fail
            go_roundg (300 - (k + 1))
            case measure => omega
            case rel => exact ⟨_, k + 1, rfl, by go_num, by omega, rfl, Lib.hid (HD.out.trans (HAL.out.mono HD.out.size)), Lib.hid (by rw [HT2.out]; exact HP_.out.below HAL.out)⟩
          · have b4 : (y == i) = false := beq_eq_false_iff_ne.2 e4
            have HT2 := hr2 false (by rw [b1, b3, b4]; rfl)
            rw [if_neg (by decide)] at HT2
            clear hr2 HT e1 e3 e4
            go_wp2_with (at_builtin; refine wp_appRun Q1.out rfl rfl rfl rfl ?_)
            go_roundg (300 - (k + 1))
            case measure => omega
            case rel => exact ⟨_, k + 1, rfl, by go_num, by omega, rfl, Lib.hid (HD.out.trans ((HAL.out.mono HD.out.size).trans Q3.out)), Lib.hid (by rw [HT2.out]; exact Q2.out)⟩
        · have b3 : (x == j) = false := beq_eq_false_iff_ne.2 e3
          have HT2 := hr2 false (by rw [b1, b3]; rfl)
          rw [if_neg (by decide)] at HT2
          clear hr2 HT e1 e3
          go_wp2_with (at_builtin; refine wp_appRun Q1.out rfl rfl rfl rfl ?_)
          go_roundg (300 - (k + 1))
          case measure => omega
          case rel => exact ⟨_, k + 1, rfl, by go_num, by omega, rfl, Lib.hid (HD.out.trans ((HAL.out.mono HD.out.size).trans Q3.out)), Lib.hid (by rw [HT2.out]; exact Q2.out)⟩
    · have hke : k = l.length := by omega
      subst hke
      have hall := HP_.out
      rw [List.take_length] at hall
      obtain ⟨A2, cap2, hv2, _⟩ := HP.open_L hall (List.Mem.head _)
      obtain ⟨nn, hnn⟩ : ∃ nn, nn = (cutL l i j).length := ⟨_, rfl⟩
      rw [← hnn] at hv2
      subst hv2
      have how : Ow.ok W3 W2.heap.size (owL (.slice A2 nn cap2) (cutL l i j)) := hall.get (List.Mem.head _)
      have g1 := (HD.out.block _ l1).trans G1.out
      have g2 := (HD.out.block _ l2).trans G2.out
      have mf : W3.frozen? ⟨w.heap.size, 0, none⟩ = false := Lib.frozen_of_heap g1 0
      have g1' : (W3.setCell ⟨w.heap.size, 0, none⟩ (.slice A2 nn cap2)).heap[w.heap.size]? = some (.cells #[Value.slice A2 nn cap2, .string t, .int .i64 n] 44 (0, 0)) := by
        simp [World.setCell, Array.getElem?_modify, g1]
      have g2' : (W3.setCell ⟨w.heap.size, 0, none⟩ (.slice A2 nn cap2)).heap[w.heap.size + 1]? = _ := (Below.heap_setCell W3 ⟨w.heap.size, 0, none⟩ _ (w.heap.size + 1) (by simp)).trans g2
      have how5 : Ow.ok (W3.setCell ⟨w.heap.size, 0, none⟩ (.slice A2 nn cap2)) W2.heap.size (owL (.slice A2 nn cap2) (cutL l i j)) := by
        refine Ow.ok.kept (row := some w.heap.size) how ⟨rfl, rfl, rfl, by simp [World.setCell], fun k _ hk => Below.heap_setCell _ _ _ _ (fun e => hk (by rw [e]))⟩ ?_
        cases hvb : (owL (.slice A2 nn cap2) (cutL l i j)).v.ownBlock with
        | none => exact .inl rfl
        | some k => right; intro e; have := (Ow.ok.lt how k hvb).1; cases e; omega
      have hb5 : Below w.heap.size w (W3.setCell ⟨w.heap.size, 0, none⟩ (.slice A2 nn cap2)) := (HB2.out.trans (HD.out.mono HB2.out.size)).setCell (p := ⟨w.heap.size, 0, none⟩) (Nat.le_refl _) _
      have J1 := Lib.hid g1'; have J2 := Lib.hid g2'; have HB5 := Lib.hid hb5; have HOW := Lib.hid how5; have HS2 := Lib.hid l2; have HB2S := Lib.hid HB2.out.size
      clear g1 g2 g1' g2' hb5 how how5 hall l1 l2 hnn hk hkn
      go_upto_region 16 with (fail)
      generalize hW : World.setCell W3 _ _ = W5 at *
      clear hW c0 mf
      have p0 : W5.cell? ⟨w.heap.size, 0, none⟩ = some (Value.slice A2 nn cap2) := by rw [Lib.cell_of_heap J1.out]; rfl
      have p1 : W5.cell? ⟨w.heap.size, 1, none⟩ = some (.string t) := by rw [Lib.cell_of_heap J1.out]; rfl
      have p2 : W5.cell? ⟨w.heap.size, 2, none⟩ = some (.int .i64 n) := by rw [Lib.cell_of_heap J1.out]; rfl
      go_wp2_with fail
      refine (HDN.out W5 A2 nn cap2).mono ?_; rintro e W6 ⟨rfl, hd6⟩
      have l5 : w.heap.size + 1 < W5.heap.size := (Array.getElem?_eq_some_iff.1 J2.out).1
      have g2 := (hd6.block _ l5).trans J2.out
      have hb6 := HB5.out.trans (hd6.mono HB5.out.size)
      have how6 : Ow.ok W6 W2.heap.size (owL (.slice A2 nn cap2) (cutL l i j)) := Ow.ok.kept HOW.out (grown_of_below hd6) (by cases (owL (.slice A2 nn cap2) (cutL l i j)).v.ownBlock <;> simp)
      obtain ⟨t2, ht2⟩ : ∃ t2, t2 = t ++ lineW (dnW (⟨#[99]⟩ : ByteArray) [i, j]) := ⟨_, rfl⟩
      rw [← ht2]
      have x0 : W6.cell? ⟨w.heap.size + 1, 0, none⟩ = some (Value.slice none 0 0) := by rw [Lib.cell_of_heap g2]; rfl
      have x1 : W6.cell? ⟨w.heap.size + 1, 1, none⟩ = some (.string { data := #[] }) := by rw [Lib.cell_of_heap g2]; rfl
      have x2 : W6.cell? ⟨w.heap.size + 1, 2, none⟩ = some (.int .i64 0) := by rw [Lib.cell_of_heap g2]; rfl
      have y0 : W6.frozen? ⟨w.heap.size + 1, 0, none⟩ = false := Lib.frozen_of_heap g2 0
      have y1 : W6.frozen? ⟨w.heap.size + 1, 1, none⟩ = false := Lib.frozen_of_heap g2 1
      have y2 : W6.frozen? ⟨w.heap.size + 1, 2, none⟩ = false := Lib.frozen_of_heap g2 2
      have g6 : (((W6.setCell ⟨w.heap.size + 1, 0, none⟩ (Value.slice A2 nn cap2)).setCell ⟨w.heap.size + 1, 1, none⟩ (.string t2)).setCell ⟨w.heap.size + 1, 2, none⟩ (.int .i64 (n + 1))).heap[w.heap.size + 1]? = some (.cells #[Value.slice A2 nn cap2, .string t2, .int .i64 (n + 1)] 44 (0, 0)) := by
        simp [World.setCell, Array.getElem?_modify, g2]
      have hb7 : Below w.heap.size w (((W6.setCell ⟨w.heap.size + 1, 0, none⟩ (Value.slice A2 nn cap2)).setCell ⟨w.heap.size + 1, 1, none⟩ (.string t2)).setCell ⟨w.heap.size + 1, 2, none⟩ (.int .i64 (n + 1))) :=
        ((hb6.setCell (p := ⟨w.heap.size + 1, 0, none⟩) (by simp) _).setCell (p := ⟨w.heap.size + 1, 1, none⟩) (by simp) _).setCell (p := ⟨w.heap.size + 1, 2, none⟩) (by simp) _
      have keep : ∀ (W : World) (k : Nat) (u : Value), Ow.ok W W2.heap.size (owL (.slice A2 nn cap2) (cutL l i j)) → Ow.ok (W.setCell ⟨w.heap.size + 1, k, none⟩ u) W2.heap.size (owL (.slice A2 nn cap2) (cutL l i j)) := by
        intro W k u hW
        refine Ow.ok.kept (row := some (w.heap.size + 1)) hW ⟨rfl, rfl, rfl, by simp [World.setCell], fun k _ hk => Below.heap_setCell _ _ _ _ (fun e => hk (by rw [e]))⟩ ?_
        cases hvb : (owL (.slice A2 nn cap2) (cutL l i j)).v.ownBlock with
        | none => exact .inl rfl
        | some k => right; intro e; have := (Ow.ok.lt hW k hvb).1; have := HS2.out; cases e; omega
      have how7 := keep _ 2 (.int .i64 (n + 1)) (keep _ 1 (.string t2) (keep _ 0 (Value.slice A2 nn cap2) how6))
      have HT2 := Lib.hid ht2
      have G6 := Lib.hid g6; have HB7 := Lib.hid hb7; have HOW7 := Lib.hid (Ow.ok.weak how7 HB2S.out)
      clear g6 hb7 how7 how6 keep g2 hb6 l5 ht2 hd6 p0 p1 p2
      go_wp2_with fail
      refine bodyPost_ret (results_cellrow_tmp (p := 6) (u := 7) (ty := 44) rfl _ _ (w.heap.size + 1) _ _ _ _ rfl G6.out Tryz.underlying44 rfl (by kernel_rfl)) rfl ⟨_, by rw [← HT2.out]; rfl, HOW7.out, HB7.out⟩
end Go.Proofs.YtekfgkeimlidhaaGreatDoor
/- the document's book as a value: contracts in the generator's form; a variable that holds one -/
set_option linter.all false
set_option maxRecDepth 100000
namespace Go.Proofs.YtekfgkeimlidhaaGreatDoor
open Go.RowKit Go.Shelf Pl
abbrev RbT := List (Int × Int) × ByteArray × Int
/-- the lines' row that a call gives: the one that was handed in, or the call's own -/
def RBo (W' : World) (B : Nat) (V0 : Value) (l0 : List (Int × Int)) (V : Value) (l : List (Int × Int)) : Prop := (V = V0 ∧ l = l0) ∨ Ow.ok W' B (owL V l)
theorem HP.rbo {W W' : World} {B : Nat} {its1 its2 : List It} {V V' : Value} {l l' : List (Int × Int)} (h : HP W B (its1 ++ .fl (owL V l) :: its2)) (hb : Below W.heap.size W W') (hB : B ≤ W.heap.size) (hr : RBo W' W.heap.size V l V' l') : HP W' B (its1 ++ .fl (owL V' l') :: its2) := by
  rcases hr with ⟨rfl, rfl⟩ | ho
  · exact h.below hb
  · obtain ⟨L1, L2, h1, h2⟩ := h.getAt
    refine h2 _ _ ?_
    have h1' := h1.below hb
    obtain ⟨a1, a2⟩ := h1
    obtain ⟨b1, b2⟩ := h1'
    have hap : ∀ x, x ∈ L1 ++ owL V l :: L2 → apart (owL V' l') x := fun x hx g hg hxg => by
      have c1 := (Ow.ok.lt ho g hg).1
      have c2 := (Ow.ok.lt (a1 x hx) g hxg).2
      omega
    rw [List.pairwise_append, List.pairwise_cons] at b2
    obtain ⟨p1, ⟨p2, p3⟩, p4⟩ := b2
    refine ⟨fun x hx => ?_, ?_⟩
    · rcases List.mem_append.1 hx with hx | hx
      · exact b1 x (by simp [hx])
      · rcases List.mem_cons.1 hx with rfl | hx
        · exact Ow.ok.weak ho hB
        · exact b1 x (by simp [hx])
    · rw [List.pairwise_append, List.pairwise_cons]
      refine ⟨p1, ⟨fun x hx => hap x (by simp [hx]), p3⟩, fun a ha b hb => ?_⟩
      rcases List.mem_cons.1 hb with rfl | hb
      · exact (hap a (by simp [ha])).symm
      · exact p4 a ha b (by simp [hb])
/-- a book in a variable -/
def owRB (g : Nat) (V : Value) (t : ByteArray) (n : Int) : Ow := ⟨44, 3, .slice (some ⟨g, 0, none⟩) 1 1, 1, [V, .string t, .int .i64 n]⟩
theorem owRB_ok (W : World) (V : Value) (t : ByteArray) (n : Int) : Ow.ok (W.alloc (.cells #[V, .string t, .int .i64 n] 44)) W.heap.size (owRB W.heap.size V t n) :=
  own_lit (w := W) (base := W.heap.size) (n := 1) (e := 44) #[V, .string t, .int .i64 n] 3 rfl (Nat.le_refl _) (by unfold maxLen; omega)
theorem rb_block {W : World} {B g : Nat} {V : Value} {t : ByteArray} {n : Int} (h : (owRB g V t n).ok W B) : B ≤ g ∧ W.heap[g]? = some (.cells #[V, .string t, .int .i64 n] 44 (0, 0)) := by
  have h : W.ownsRow B 44 3 (.slice (some ⟨g, 0, none⟩) 1 1) 1 [V, .string t, .int .i64 n] := h
  rcases h.2 with ⟨q, _⟩ | ⟨g', cap, cur, q1, q2, q3, q4, q5, q6, q7⟩
  · cases q
  · injection q1 with qa qb qc
    injection qa with qa
    injection qa with qa
    subst qa; subst qc
    have : cur.toList = [V, .string t, .int .i64 n] := by rw [List.take_of_length_le (by simp [q6])] at q7; exact q7
    exact ⟨q2, by rw [q3, show cur = #[V, .string t, .int .i64 n] from by rw [← Array.toList_inj, this]]⟩
theorem HP.rbGet {W : World} {B g : Nat} {its : List It} {V : Value} {t : ByteArray} {n : Int} (h : HP W B its) (hm : It.fl (owRB g V t n) ∈ its) :
    W.cell? ⟨g, 0, none⟩ = some V ∧ W.cell? ⟨g, 1, none⟩ = some (.string t) ∧ W.cell? ⟨g, 2, none⟩ = some (.int .i64 n) ∧ W.heap[g]? = some (.cells #[V, .string t, .int .i64 n] 44 (0, 0)) := by
  have hb := (rb_block (h.get hm)).2
  exact ⟨by rw [Lib.cell_of_heap hb]; rfl, by rw [Lib.cell_of_heap hb]; rfl, by rw [Lib.cell_of_heap hb]; rfl, hb⟩
theorem HP.setRB {W : World} {B g : Nat} {its1 its2 : List It} {V : Value} {t : ByteArray} {n : Int} (h : HP W B (its1 ++ .fl (owRB g V t n) :: its2)) (V' : Value) (t' : ByteArray) (n' : Int) :
    (W.frozen? ⟨g, 0, none⟩ = false ∧ W.frozen? ⟨g, 1, none⟩ = false ∧ W.frozen? ⟨g, 2, none⟩ = false) ∧
    HP (((W.setCell ⟨g, 0, none⟩ V').setCell ⟨g, 1, none⟩ (.string t')).setCell ⟨g, 2, none⟩ (.int .i64 n')) B (its1 ++ .fl (owRB g V' t' n') :: its2) ∧
    Below B W (((W.setCell ⟨g, 0, none⟩ V').setCell ⟨g, 1, none⟩ (.string t')).setCell ⟨g, 2, none⟩ (.int .i64 n')) := by
  obtain ⟨L1, L2, h1, h2⟩ := h.getAt
  have hok : (owRB g V t n).ok W B := h1.get (o := owRB g V t n) (by simp)
  obtain ⟨hB, hh⟩ := rb_block hok
  have hne : ∀ (W : World) (k : Nat) (u : Value) (j : Nat), j ≠ g → (W.setCell ⟨g, k, none⟩ u).heap[j]? = W.heap[j]? := fun W k u j hj => Below.heap_setCell W ⟨g, k, none⟩ u j hj
  have hnew : (((W.setCell ⟨g, 0, none⟩ V').setCell ⟨g, 1, none⟩ (.string t')).setCell ⟨g, 2, none⟩ (.int .i64 n')).heap[g]? = some (.cells #[V', .string t', .int .i64 n'] 44 (0, 0)) := by
    simp [World.setCell, Array.getElem?_modify, hh]
  have hbel : Below B W (((W.setCell ⟨g, 0, none⟩ V').setCell ⟨g, 1, none⟩ (.string t')).setCell ⟨g, 2, none⟩ (.int .i64 n')) :=
    (((Below.refl B W).setCell (p := ⟨g, 0, none⟩) hB _).setCell (p := ⟨g, 1, none⟩) hB _).setCell (p := ⟨g, 2, none⟩) hB _
  have hgb : W.grownBy (((W.setCell ⟨g, 0, none⟩ V').setCell ⟨g, 1, none⟩ (.string t')).setCell ⟨g, 2, none⟩ (.int .i64 n')) (owRB g V t n).v.ownBlock := by
    refine ⟨rfl, rfl, rfl, by simp [World.setCell], fun j _ hj => ?_⟩
    have hj' : j ≠ g := fun e => hj (by rw [e]; rfl)
    rw [hne _ _ _ _ hj', hne _ _ _ _ hj', hne _ _ _ _ hj']
  refine ⟨⟨Lib.frozen_of_heap hh 0, Lib.frozen_of_heap hh 1, Lib.frozen_of_heap hh 2⟩, h2 _ _ (h1.upd hgb ?_ (.inl rfl)), hbel⟩
  show (((W.setCell ⟨g, 0, none⟩ V').setCell ⟨g, 1, none⟩ (.string t')).setCell ⟨g, 2, none⟩ (.int .i64 n')).ownsRow B 44 3 (.slice (some ⟨g, 0, none⟩) 1 1) 1 [V', .string t', .int .i64 n']
  exact ⟨rfl, .inr ⟨g, 1, #[V', .string t', .int .i64 n'], rfl, hB, hnew, Nat.le_refl _, by unfold maxLen; omega, rfl, rfl⟩⟩
/-! ### contracts -/
def mJ4 (b : RbT) (i j : Int) : Option (RbT × Int) :=
  if b.1.length < 290 ∧ b.2.1.size < 1000000 ∧ 0 ≤ b.2.2 then
    some (if r4E b.1 b.2.2 i j = 0 then ((b.1 ++ [(i, j)], b.2.1 ++ lineW (dnW (⟨#[106]⟩ : ByteArray) [i, j]), b.2.2 + 1), 0) else (b, r4E b.1 b.2.2 i j)) else none
def mC4 (b : RbT) (i j : Int) : Option (RbT × Int) :=
  if b.1.length < 290 ∧ b.2.1.size < 1000000 ∧ 0 ≤ b.2.2 then
    some (if r4C b.1 b.2.2 i j = 0 then ((cutL b.1 i j, b.2.1 ++ lineW (dnW (⟨#[99]⟩ : ByteArray) [i, j]), b.2.2 + 1), 0) else (b, r4C b.1 b.2.2 i j)) else none
/-- a book and a number -/
def PostRB (w : World) (V0 : Value) (b : RbT) (r : RbT × Int) : Ending → World → Prop := fun e w' =>
  ∃ V, e = .returned (.tuple #[.agg #[V, .string r.1.2.1, .int .i64 r.1.2.2], .int .i64 r.2]) ∧ RBo w' w.heap.size V0 b.1 V r.1.1 ∧ Below w.heap.size w w'
theorem mJ4_ok {b : RbT} {A : Option Addr} {i j : Int} {r : RbT × Int} (w : World) (cap : Nat) (hr : ReadsL w w.heap.size A b.1) (h : mJ4 b i j = some r) :
    Calls Tryz.prog 27 #[.agg #[.slice A b.1.length cap, .string b.2.1, .int .i64 b.2.2], .int .i64 i, .int .i64 j] w (PostRB w (.slice A b.1.length cap) b r) := by
  obtain ⟨⟨h1, h2, h3⟩, rfl⟩ := s_of h
  by_cases c : r4E b.1 b.2.2 i j = 0
  · rw [if_pos c]
    refine (join4_good w hr h1 h2 h3 c).mono ?_
    rintro e w' ⟨V, rfl, ho, hb⟩
    exact ⟨V, rfl, .inr ho, hb⟩
  · rw [if_neg c]
    refine (join4_bad w hr h1 c).mono ?_
    rintro e w' ⟨rfl, hb⟩
    exact ⟨_, rfl, .inl ⟨rfl, rfl⟩, hb⟩
theorem mC4_ok {b : RbT} {A : Option Addr} {i j : Int} {r : RbT × Int} (w : World) (cap : Nat) (hr : ReadsL w w.heap.size A b.1) (h : mC4 b i j = some r) :
    Calls Tryz.prog 29 #[.agg #[.slice A b.1.length cap, .string b.2.1, .int .i64 b.2.2], .int .i64 i, .int .i64 j] w (PostRB w (.slice A b.1.length cap) b r) := by
  obtain ⟨⟨h1, h2, h3⟩, rfl⟩ := s_of h
  by_cases c : r4C b.1 b.2.2 i j = 0
  · rw [if_pos c]
    refine (cut4_good w hr h1 h2 h3 c).mono ?_
    rintro e w' ⟨V, rfl, ho, hb⟩
    exact ⟨V, rfl, .inr ho, hb⟩
  · rw [if_neg c]
    refine (cut4_bad w hr h1 c).mono ?_
    rintro e w' ⟨rfl, hb⟩
    exact ⟨_, rfl, .inl ⟨rfl, rfl⟩, hb⟩
def mF4 (b : RbT) (i j : Int) : Option (Int × Int) :=
  if (0 ≤ i ∧ i ≤ 7) ∧ (0 ≤ j ∧ j ≤ 7) then (R1_Far 300 8 b.1 true (-1)).bind fun M => (ix M i).bind fun row => (ix row j).bind fun y => some (y, 0) else some (0, 1)
theorem mF4_ok {b : RbT} {A : Option Addr} {i j : Int} {r : Int × Int} (w : World) (cap : Nat) (hr : ReadsL w w.heap.size A b.1) (h : mF4 b i j = some r) :
    Calls Tryz.prog 30 #[.agg #[.slice A b.1.length cap, .string b.2.1, .int .i64 b.2.2], .int .i64 i, .int .i64 j] w fun e w' =>
      e = .returned (.tuple #[.int .i64 r.1, .int .i64 r.2]) ∧ Below w.heap.size w w' := by
  unfold mF4 at h
  split at h
  · rename_i c
    obtain ⟨M, hM, h⟩ := obind h
    obtain ⟨row, h1, h⟩ := obind h
    obtain ⟨y, h2, h⟩ := obind h
    obtain rfl := Option.some.inj h
    exact far4_ok w hr c.1 c.2 hM h1 h2
  · rename_i c
    obtain rfl := Option.some.inj h
    exact far4_bad (v := .bool true) w c
end Go.Proofs.YtekfgkeimlidhaaGreatDoor
/- the book and the document's book: what they have in common -/
set_option linter.all false
set_option maxRecDepth 100000
namespace Go.Proofs.YtekfgkeimlidhaaGreatDoor
open Go.RowKit Pl
structure RRel (x : RbT) (b : BkT) : Prop where
  inv : BInv b
  txt : x.2.1 = b.2.1
  many : x.2.2 = b.2.2
  inl : InL 8 x.1
  bes : ∀ i j : Nat, i < 8 → j < 8 → (mk b i).testBit j = besL x.1 i j
  len : (x.1.length : Int) ≤ x.2.2
theorem rrel_new : RRel ([], (⟨#[]⟩ : ByteArray), 0) newB := by
  refine ⟨new_inv, rfl, rfl, fun p hp => (by cases hp), fun i j hi hj => ?_, by decide⟩
  have e : ∀ k, k < 8 → mk newB k = 0 := by decide
  rw [e i hi]; simp [besL, goes]
theorem besL_snoc (l : List (Int × Int)) (i j x y : Int) : besL (l ++ [(i, j)]) x y = (besL l x y || ((i == x && j == y) || (i == y && j == x))) := by
  unfold besL goes
  rw [List.any_append, List.any_append]
  simp only [List.any_cons, List.any_nil, Bool.or_false]
  cases List.any l fun p => p.1 == x && p.2 == y <;> cases List.any l fun p => p.1 == y && p.2 == x <;> simp
theorem goes_cut (l : List (Int × Int)) (i j x y : Int) : goes (cutL l i j) x y = (goes l x y && !((x == i && y == j) || (x == j && y == i))) := by
  unfold goes cutL
  rw [Bool.eq_iff_iff, Bool.and_eq_true, List.any_eq_true, List.any_eq_true]
  constructor
  · rintro ⟨p, hp, hh⟩
    obtain ⟨h1, h2⟩ := List.mem_filter.1 hp
    rw [Bool.and_eq_true, beq_iff_eq, beq_iff_eq] at hh
    refine ⟨⟨p, h1, by rw [Bool.and_eq_true, beq_iff_eq, beq_iff_eq]; exact hh⟩, ?_⟩
    rw [hh.1, hh.2] at h2; exact h2
  · rintro ⟨⟨p, h1, hh⟩, h2⟩
    refine ⟨p, List.mem_filter.2 ⟨h1, ?_⟩, hh⟩
    rw [Bool.and_eq_true, beq_iff_eq, beq_iff_eq] at hh
    rw [hh.1, hh.2]; exact h2
theorem besL_cut (l : List (Int × Int)) (i j x y : Int) : besL (cutL l i j) x y = (besL l x y && !((x == i && y == j) || (x == j && y == i))) := by
  unfold besL
  rw [goes_cut, goes_cut]
  cases goes l x y <;> cases goes l y x <;> cases x == i <;> cases y == j <;> cases x == j <;> cases y == i <;> rfl
theorem natInt_beq (a b : Nat) : ((a : Int) == (b : Int)) = decide (a = b) := by
  by_cases h : a = b
  · subst h; simp
  · rw [decide_eq_false h]; simp; omega
theorem RRel.size {x : RbT} {b : BkT} (h : RRel x b) : x.1.length < 290 ∧ x.2.1.size < 1000000 ∧ 0 ≤ x.2.2 := by
  have h1 := h.len; have h2 := h.many; have h3 := h.inv.many1; have h4 := h.inv.many0; have h5 := h.inv.txt; have h6 := h.txt
  rw [h6]; omega
theorem RRel.has {x : RbT} {b : BkT} (h : RRel x b) {i j : Nat} (hi : i < 8) (hj : j < 8) : hasB b.1 i j = besL x.1 i j := h.bes i j hi hj
theorem join_rel {x : RbT} {b : BkT} (h : RRel x b) (i j : Int) : ∃ e x' b', mJoin b i j = some (e, b') ∧ mJ4 x i j = some (x', e) ∧ RRel x' b' ∧ (e = 0 → b'.2.2 = b.2.2 + 1) ∧ (e ≠ 0 → b' = b ∧ x' = x) := by
  unfold mJoin mJ4
  rw [if_pos h.inv.ok, if_pos h.size]
  unfold r4E
  have hm := h.many; have h60 := h.inv.many1
  by_cases c1 : bkE i j = 0
  · rw [if_pos c1, if_pos c1]
    obtain ⟨p, q, rfl, rfl, hp, hq, hne⟩ := bkE_zero c1
    rw [h.has hp hq]
    by_cases c2 : besL x.1 p q = true
    · rw [if_pos c2, if_pos c2, if_neg (by decide)]
      exact ⟨6, x, b, rfl, rfl, h, fun q => (by cases q), fun _ => ⟨rfl, rfl⟩⟩
    · rw [if_neg c2, if_neg c2]
      by_cases c3 : b.2.2 = 60
      · rw [if_pos c3, if_pos (show 60 ≤ x.2.2 by omega), if_neg (by decide)]
        exact ⟨4, x, b, rfl, rfl, h, fun q => (by cases q), fun _ => ⟨rfl, rfl⟩⟩
      · rw [if_neg c3, if_neg (show ¬ 60 ≤ x.2.2 by omega), if_pos rfl]
        refine ⟨0, _, _, rfl, rfl, ⟨join_inv h.inv hp hq hne c3, ?_, ?_, fun r hr => ?_, fun a c ha hc => ?_, ?_⟩, fun _ => rfl, fun q => absurd rfl q⟩
        · show x.2.1 ++ _ = b.2.1 ++ _; rw [h.txt]
        · show x.2.2 + 1 = b.2.2 + 1; rw [h.many]
        · rcases List.mem_append.1 hr with hr | hr
          · exact h.inl r hr
          · rw [List.mem_singleton.1 hr]; omega
        · rw [join_bit h.inv hp hq hne a c ha, besL_snoc, h.bes a c ha hc]
          congr 1
          rw [natInt_beq, natInt_beq, natInt_beq, natInt_beq]
          by_cases e1 : p = a <;> by_cases e2 : q = c <;> by_cases e3 : p = c <;> by_cases e4 : q = a <;> simp [e1, e2, e3, e4] <;> omega
        · show ((x.1 ++ [_]).length : Int) ≤ x.2.2 + 1
          have := h.len
          rw [List.length_append]; simp; omega
  · rw [if_neg c1, if_neg c1, if_neg c1]
    exact ⟨_, x, b, rfl, rfl, h, fun q => absurd q c1, fun _ => ⟨rfl, rfl⟩⟩
theorem cut_rel {x : RbT} {b : BkT} (h : RRel x b) (i j : Int) : ∃ e x' b', mCut b i j = some (e, b') ∧ mC4 x i j = some (x', e) ∧ RRel x' b' ∧ (e = 0 → b'.2.2 = b.2.2 + 1) ∧ (e ≠ 0 → b' = b ∧ x' = x) := by
  unfold mCut mC4
  rw [if_pos h.inv.ok, if_pos h.size]
  unfold r4C
  have hm := h.many; have h60 := h.inv.many1
  by_cases c1 : bkE i j = 0
  · rw [if_pos c1, if_pos c1]
    obtain ⟨p, q, rfl, rfl, hp, hq, hne⟩ := bkE_zero c1
    rw [h.has hp hq]
    by_cases c2 : besL x.1 p q = true
    · rw [if_pos c2, if_pos c2]
      by_cases c3 : b.2.2 = 60
      · rw [if_pos c3, if_pos (show 60 ≤ x.2.2 by omega), if_neg (by decide)]
        exact ⟨4, x, b, rfl, rfl, h, fun q => (by cases q), fun _ => ⟨rfl, rfl⟩⟩
      · rw [if_neg c3, if_neg (show ¬ 60 ≤ x.2.2 by omega), if_pos rfl]
        refine ⟨0, _, _, rfl, rfl, ⟨cut_inv h.inv hp hq hne c3, ?_, ?_, fun r hr => ?_, fun a c ha hc => ?_, ?_⟩, fun _ => rfl, fun q => absurd rfl q⟩
        · show x.2.1 ++ _ = b.2.1 ++ _; rw [h.txt]
        · show x.2.2 + 1 = b.2.2 + 1; rw [h.many]
        · exact h.inl r (List.mem_filter.1 hr).1
        · rw [cut_bit h.inv hp hq hne a c ha, besL_cut, h.bes a c ha hc]
          congr 2
          rw [natInt_beq, natInt_beq, natInt_beq, natInt_beq]
          by_cases e1 : a = p <;> by_cases e2 : c = q <;> by_cases e3 : a = q <;> by_cases e4 : c = p <;> simp [e1, e2, e3, e4] <;> omega
        · show ((cutL x.1 _ _).length : Int) ≤ x.2.2 + 1
          have := h.len
          have := List.length_filter_le (fun r : Int × Int => !((r.1 == (p : Int) && r.2 == (q : Int)) || (r.1 == (q : Int) && r.2 == (p : Int)))) x.1
          unfold cutL; omega
    · rw [if_neg c2, if_neg c2, if_neg (by decide)]
      exact ⟨5, x, b, rfl, rfl, h, fun q => (by cases q), fun _ => ⟨rfl, rfl⟩⟩
  · rw [if_neg c1, if_neg c1, if_neg c1]
    exact ⟨_, x, b, rfl, rfl, h, fun q => absurd q c1, fun _ => ⟨rfl, rfl⟩⟩
/-! ### all lines -/
def allR (l : List (Int × Int)) (i : Nat) : List (Int × Int) := ((List.range' (i + 1) (8 - (i + 1))).filter fun j : Nat => besL l (i : Int) (j : Int)).map fun j : Nat => ((i : Int), (j : Int))
def allL (l : List (Int × Int)) : List (Int × Int) := (List.range 8).flatMap (allR l)
theorem all_eq {x : RbT} {b : BkT} (h : RRel x b) : linesOf b.1 = allL x.1 := by
  unfold linesOf allL
  have hrow : ∀ i ∈ List.range 8, rowB b.1 i = allR x.1 i := fun i hi => by
    have hi := List.mem_range.1 hi
    unfold rowB allR
    congr 1
    have hm : ∀ j, (upM (b.1.getD i 0) i).testBit j = ((mk b i).testBit j && decide (i ≤ j)) := fun j => upM_bit _ _ _
    have hlt := h.inv.lt i hi
    show (List.range 16).filter (fun j => (upM (b.1.getD i 0) i).testBit j) = _
    have e16 : List.range 16 = List.range' 0 (i + 1) ++ (List.range' (i + 1) (8 - (i + 1)) ++ List.range' 8 8) := by
      rw [List.range_eq_range']
      have : ∀ i, i < 8 → List.range' 0 16 = List.range' 0 (i + 1) ++ (List.range' (i + 1) (8 - (i + 1)) ++ List.range' 8 8) := by decide
      exact this i hi
    rw [e16, List.filter_append, List.filter_append]
    have z1 : (List.range' 0 (i + 1)).filter (fun j => (upM (b.1.getD i 0) i).testBit j) = [] := by
      rw [List.filter_eq_nil_iff]
      intro j hj
      rw [List.mem_range'_1] at hj
      rw [hm]
      by_cases e : j = i
      · subst e; rw [h.inv.irr j hi]; simp
      · rw [decide_eq_false (by omega)]; simp
    have z2 : (List.range' 8 8).filter (fun j => (upM (b.1.getD i 0) i).testBit j) = [] := by
      rw [List.filter_eq_nil_iff]
      intro j hj
      rw [List.mem_range'_1] at hj
      rw [hm, bit256 hlt (by omega)]; simp
    rw [z1, z2, List.nil_append, List.append_nil]
    refine List.filter_congr fun j hj => ?_
    rw [List.mem_range'_1] at hj
    rw [hm, h.bes i j hi (by omega), decide_eq_true (show i ≤ j by omega), Bool.and_true]
  rw [List.flatMap_def, List.flatMap_def, List.map_congr_left hrow]
theorem ad_mk {x : RbT} {b : BkT} (h : RRel x b) (a c : Nat) (ha : a < 8) : Ad 8 x.1 a c ↔ (mk b a).testBit c = true := by
  rw [ad_iff h.inl]
  by_cases hc : c < 8
  · rw [h.bes a c ha hc]
    unfold besL goes
    rw [Bool.or_eq_true, List.any_eq_true, List.any_eq_true]
    constructor
    · rintro ⟨p, hp, ⟨e1, e2⟩ | ⟨e1, e2⟩⟩
      · exact .inl ⟨p, hp, by rw [e1, e2]; simp⟩
      · exact .inr ⟨p, hp, by rw [e1, e2]; simp⟩
    · rintro (⟨p, hp, hh⟩ | ⟨p, hp, hh⟩)
      · rw [Bool.and_eq_true, beq_iff_eq, beq_iff_eq] at hh; exact ⟨p, hp, .inl hh⟩
      · rw [Bool.and_eq_true, beq_iff_eq, beq_iff_eq] at hh; exact ⟨p, hp, .inr hh⟩
  · rw [bit256 (h.inv.lt a ha) (by omega)]
    constructor
    · rintro ⟨p, hp, hh⟩
      have := h.inl p hp; omega
    · intro q; cases q
theorem far_rel {x : RbT} {b : BkT} (h : RRel x b) (i j : Int) : ∃ r, brambleweir_book_Book_Far 300 b.1 i j = some r ∧ mF4 x i j = some r ∧ (r.2 ≠ 0 ↔ ¬ ((0 ≤ i ∧ i ≤ 7) ∧ (0 ≤ j ∧ j ≤ 7))) := by
  unfold brambleweir_book_Book_Far mF4
  rw [core_All_ev _ _ (by simp) (by simp), Option.bind_some]
  by_cases c : (0 ≤ i ∧ i ≤ 7) ∧ (0 ≤ j ∧ j ≤ 7)
  · have hA : allIn [i, j] 0 7 = true := by simp [allIn]; omega
    rw [if_pos hA, if_pos c]
    obtain ⟨i', rfl⟩ := Int.eq_ofNat_of_zero_le c.1.1
    obtain ⟨j', rfl⟩ := Int.eq_ofNat_of_zero_le c.2.1
    have hi : i' < 8 := by omega
    have hj : j' < 8 := by omega
    obtain ⟨M, hM, hSh, hF⟩ := far_mat (k := 8) (l := x.1) (by omega) (by have := h.size; omega) h.inl
    have hf := hF i' hi
    have hf2 : Far 8 (fun a c => (mk b a).testBit c = true) i' (M.getD i' []) :=
      ⟨hf.len, hf.low, hf.start, fun a c ha h0 hb => hf.step a c ha h0 ((ad_mk h a c ha).2 hb), fun q hq h0 => (hf.down q hq h0).imp id fun ⟨p, p1, p2, p3⟩ => ⟨p, p1, (ad_mk h p q p1).1 p2, p3⟩⟩
    have hw : sWith 0 (i' : Int) = some (2 ^ i') := by unfold sWith; rw [if_pos (by omega), Int.toNat_natCast, Nat.zero_or]
    have hp : 2 ^ i' ≤ 2 ^ 7 := Nat.pow_le_pow_right (by omega) (by omega)
    have hm1 : (memb (2 ^ i')).length = 1 := by
      have : ∀ k, k < 8 → (memb (2 ^ k)).length = 1 := by decide +kernel
      exact this i' hi
    have hmain := bf_L1 h.inv hi hj hf2 300 (2 ^ i') 0 (by omega) (by omega) (fun q hq => by
      rw [Nat.testBit_two_pow, decide_eq_true_eq]
      constructor
      · intro e; subst e; have := hf.start; omega
      · rintro ⟨q1, q2⟩
        rcases hf.down q hq q1 with e2 | ⟨p, p1, p2, p3, p4⟩
        · exact e2.symm
        · omega) (by omega) (by omega)
    have m1 : ix M (i' : Int) = some (M.getD i' []) := hSh.ix hi
    have m2 : ix (M.getD i' []) (j' : Int) = some ((M.getD i' []).getD j' 0) := hSh.ix2 hi hj
    rw [hw, Option.bind_some, show brambleweir_book_Book_Far_L1 300 b.1 (j' : Int) 300 (2 ^ i') 0 = _ from hmain, Option.bind_some,
      show R1_Far 300 8 x.1 true (-1) = some M from hM, Option.bind_some, m1, Option.bind_some, m2, Option.bind_some]
    exact ⟨_, rfl, rfl, by simp [c]⟩
  · have hA : allIn [i, j] 0 7 = false := by
      cases e : allIn [i, j] 0 7
      · rfl
      · exfalso; simp [allIn] at e; omega
    rw [if_neg (by rw [hA]; decide), if_neg c]
    exact ⟨(0, 1), rfl, rfl, by simp [c]⟩
end Go.Proofs.YtekfgkeimlidhaaGreatDoor
/- the document's book: all lines -/
set_option linter.all false
set_option maxRecDepth 100000
namespace Go.Proofs.YtekfgkeimlidhaaGreatDoor
open Go.RowKit Go.Shelf Pl
def preR (l : List (Int × Int)) (i j : Nat) : List (Int × Int) := ((List.range' (i + 1) (j - (i + 1))).filter fun j : Nat => besL l (i : Int) (j : Int)).map fun j : Nat => ((i : Int), (j : Int))
def preA (l : List (Int × Int)) (i : Nat) : List (Int × Int) := (List.range i).flatMap (allR l)
theorem preR_step (l : List (Int × Int)) {i j : Nat} (h : i + 1 ≤ j) : preR l i (j + 1) = preR l i j ++ (if besL l (i : Int) (j : Int) = true then [((i : Int), (j : Int))] else []) := by
  unfold preR
  have e : List.range' (i + 1) (j + 1 - (i + 1)) = List.range' (i + 1) (j - (i + 1)) ++ [j] := by
    rw [show j + 1 - (i + 1) = (j - (i + 1)) + 1 by omega, List.range'_concat, Nat.one_mul, show i + 1 + (j - (i + 1)) = j by omega]
  rw [e, List.filter_append, List.map_append]
  congr 1
  by_cases c : besL l (i : Int) (j : Int) = true
  · rw [if_pos c, List.filter_cons_of_pos (by simpa using c)]; rfl
  · rw [if_neg c, List.filter_cons_of_neg (by simpa using c)]; rfl
theorem preA_step (l : List (Int × Int)) (i : Nat) : preA l (i + 1) = preA l i ++ preR l i 8 := by
  unfold preA
  rw [List.range_succ, List.flatMap_append]
  simp only [List.flatMap_cons, List.flatMap_nil, List.append_nil]; rfl
theorem preR_zero (l : List (Int × Int)) (i : Nat) : preR l i (i + 1) = [] := by unfold preR; rw [Nat.sub_self]; rfl
theorem preR_len (l : List (Int × Int)) {i j : Nat} (hj : j ≤ 8) : (preR l i j).length ≤ 8 := by
  unfold preR
  rw [List.length_map]
  have := List.length_filter_le (fun j : Nat => besL l (i : Int) (j : Int)) (List.range' (i + 1) (j - (i + 1)))
  rw [List.length_range'] at this; omega
theorem preA_len (l : List (Int × Int)) : ∀ i, (preA l i).length ≤ 8 * i
  | 0 => by simp [preA]
  | i+1 => by
    rw [preA_step, List.length_append]
    have := preA_len l i
    have := preR_len l (i := i) (j := 8) (by omega)
    omega
set_option maxHeartbeats 4000000 in
theorem all4_ok {A : Option Addr} {cap : Nat} {l : List (Int × Int)} {t : ByteArray} {n : Int} (w : World) (hr : ReadsL w w.heap.size A l) (hl : l.length < 290) :
    Calls Tryz.prog 32 #[.agg #[.slice A l.length cap, .string t, .int .i64 n]] w (PostG (fun v => v) (fun v => owL v (allL l)) w.heap.size w) := by
  have HR := Lib.hid hr; clear hr
  have HBV := Lib.hid (fun (i j : Int) => (R1_Beside_ev i j (by omega) (by omega) : R1_Beside 300 l i j = some (besL l i j)))
  have e1 : (w.alloc (.cells #[Value.slice A l.length cap, .string t, .int .i64 n] 44)).heap[w.heap.size]? = some (.cells #[Value.slice A l.length cap, .string t, .int .i64 n] 44 (0, 0)) := heap_alloc_new w _
  have hb2 : Below w.heap.size w (w.alloc (.cells #[Value.slice A l.length cap, .string t, .int .i64 n] 44)) := (Below.refl _ _).alloc (Nat.le_refl _) _
  go_enter Tryz.func32, Tryz.ntmps32
  go_wp2_with fail
  generalize hW : World.alloc w _ = W2 at *
  clear hW
  have l1 : w.heap.size < W2.heap.size := (Array.getElem?_eq_some_iff.1 e1).1
  have k0 : W2.cell? ⟨w.heap.size, 0, none⟩ = some (Value.slice A l.length cap) := by rw [Lib.cell_of_heap e1]; rfl
  have K0 := Lib.hid k0; have HB2 := Lib.hid hb2; have L1 := Lib.hid l1
  clear k0 e1 hb2 l1
  go_loopg [3, 4] 300 (fun gg uv ui wr => ∃ (V : Value) (i : Nat), V = uv ∧ ui = .int .i64 i ∧ i ≤ 8 ∧ gg = 300 - i ∧ Hid (Below W2.heap.size W2 wr) ∧ Hid (HP wr W2.heap.size [.fl (owL V (preA l i))]))
  case atStart => exact ⟨_, 0, rfl, rfl, by omega, rfl, Lib.hid (Below.refl _ _), Lib.hid (HP.nil.pushNil 89 2)⟩
  case round =>
    obtain ⟨V, i, rfl, rfl, hi, rfl, HD, HP_⟩ := hrel
    rename World => W3
    by_cases hi8 : ((i : Nat) : Int) < 8
    · go_wp2_with fail
      have hii : i + 1 ≤ 8 := by omega
      clear hi8
      go_loopg [3, 5] (300 - (i + 1)) (fun gg uv uj wr => ∃ (V : Value) (j : Nat), V = uv ∧ uj = .int .i64 j ∧ i + 1 ≤ j ∧ j ≤ 8 ∧ gg = 300 - j ∧ Hid (Below W2.heap.size W2 wr) ∧ Hid (HP wr W2.heap.size [.fl (owL V (preA l i ++ preR l i j))]))
      case atStart => exact ⟨_, i + 1, rfl, by go_num, Nat.le_refl _, hii, rfl, HD, Lib.hid (by rw [preR_zero, List.append_nil]; exact HP_.out)⟩
      case round =>
        clear HD HP_ hii
        obtain ⟨V, j, rfl, rfl, hij, hj, rfl, HD, HP_⟩ := hrel
        rename World => W4
        by_cases hj8 : ((j : Nat) : Int) < 8
        · have c0 := (HD.out.cell (p := ⟨w.heap.size, 0, none⟩) L1.out).trans K0.out
          have HC := Lib.hid (R1_Beside_ok W4 cap (rdL (HB2.out.trans (HD.out.mono HB2.out.size)) HR.out) (HBV.out (i : Int) (j : Int)))
          have HT := Lib.hid (preR_step l hij)
          have HIJ := Lib.hid hij; clear hij
          cases hb : besL l (i : Int) (j : Int) with
          | false =>
            rw [hb] at HC HT
            rw [if_neg (by decide), List.append_nil] at HT
            clear hb
            go_wp2_with fail
            refine HC.out.mono ?_; rintro e w' ⟨rfl, rfl⟩
            go_wp2_with fail
            clear c0
            go_roundg (300 - (j + 1))
            case measure => omega
            case rel => exact ⟨_, j + 1, rfl, by go_num, by have := HIJ.out; omega, by omega, rfl, HD, Lib.hid (by rw [HT.out]; exact HP_.out)⟩
          | true =>
            rw [hb] at HC HT
            rw [if_pos rfl] at HT
            clear hb
            have hlen : (preA l i ++ preR l i j).length < 1000000000 := by
              rw [List.length_append]
              have := preA_len l i; have := preR_len l (i := i) hj; omega
            obtain ⟨V', W5, q1, q2, q3, _⟩ := run_appL W4 42 42 Tryz.underlying42 (e' := 89) (L1 := []) (L2 := []) (y := (i : Int)) (z := (j : Int)) HP_.out hlen HD.out.size
            have Q1 := Lib.hid q1; have Q2 := Lib.hid q2; have Q3 := Lib.hid q3
            clear q1 q2 q3 hlen
            go_wp2_with fail
            refine HC.out.mono ?_; rintro e w' ⟨rfl, rfl⟩
            go_wp2_with (at_builtin; refine wp_appRun Q1.out rfl rfl rfl rfl ?_)
            clear c0
            go_roundg (300 - (j + 1))
            case measure => omega
            case rel => exact ⟨_, j + 1, rfl, by go_num, by have := HIJ.out; omega, by omega, rfl, Lib.hid (HD.out.trans Q3.out), Lib.hid (by rw [HT.out, ← List.append_assoc]; exact Q2.out)⟩
        · have : j = 8 := by omega
          subst this
          have HS := Lib.hid (preA_step l i)
          have HIJ := Lib.hid hij; clear hij
          go_wp2_with fail
          go_roundg (300 - (i + 1))
          case measure => omega
          case rel => exact ⟨_, i + 1, rfl, by go_num, by have := HIJ.out; omega, rfl, HD, Lib.hid (by rw [HS.out]; exact HP_.out)⟩
    · have : i = 8 := by omega
      subst this
      go_wp2_with fail
      go_ret
      exact ⟨_, rfl, Ow.ok.weak (HP_.out.get (List.Mem.head _)) (Nat.le_of_lt L1.out), HB2.out.trans (HD.out.mono HB2.out.size)⟩
end Go.Proofs.YtekfgkeimlidhaaGreatDoor
