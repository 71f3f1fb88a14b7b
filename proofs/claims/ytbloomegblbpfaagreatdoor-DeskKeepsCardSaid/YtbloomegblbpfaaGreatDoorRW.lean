import Derived.Test.YtbloomegblbpfaaGreatDoorBkD
import Derived.Test.YtbloomegblbpfaaGreatDoorEv2
import Derived.Test.YtbloomegblbpfaaGreatDoorQB
import Derived.Laws.Rows
import Derived.Test.YtbloomegblbpfaaGreatDoorGR
import Derived.Test.YtbloomegblbpfaaGreatDoorMSt
import Derived.Test.YtbloomegblbpfaaGreatDoorBox
/- the document's digits, its sum -/
set_option linter.all false
set_option maxRecDepth 100000
namespace Go.Proofs.YtbloomegblbpfaaGreatDoor
open Go.RowKit Go.Shelf
theorem dec_small : ∀ n, n < 10 → (⟨#[48, 49, 50, 51, 52, 53, 54, 55, 56, 57]⟩ : ByteArray).extract n (n + 1) = dec (n : Int) := by
  intro n hn
  have h : (⟨#[48, 49, 50, 51, 52, 53, 54, 55, 56, 57]⟩ : ByteArray).extract n (n + 1) = (⟨#[UInt8.ofNat (48 + n)]⟩ : ByteArray) := by
    have : ∀ n, n < 10 → (⟨#[48, 49, 50, 51, 52, 53, 54, 55, 56, 57]⟩ : ByteArray).extract n (n + 1) = (⟨#[UInt8.ofNat (48 + n)]⟩ : ByteArray) := by decide +kernel
    exact this n hn
  rw [h]; unfold dec Lib.itoa
  rw [if_neg (by omega), Int.toNat_natCast, Lib.decDigits_one hn]
theorem dec_big {n : Nat} (hn : ¬ n < 10) : dec (n : Int) = dec ((n / 10 : Nat) : Int) ++ dec ((n % 10 : Nat) : Int) := by
  unfold dec Lib.itoa
  rw [if_neg (by omega), if_neg (by omega), if_neg (by omega), Int.toNat_natCast, Int.toNat_natCast, Int.toNat_natCast, Lib.decDigits, dif_neg hn, Lib.decDigits_one (Nat.mod_lt n (by omega))]
  apply ByteArray.ext
  simp [ByteArray.data_append]
set_option maxHeartbeats 1000000 in
theorem digits_ok (w : World) : ∀ (k n : Nat), n < 10 ^ k → n ≤ 9223372036854775807 → Calls Tryz.prog 10 #[.int .i64 (n : Int)] w fun e w' => e = .returned (.string (dec (n : Int))) ∧ w = w' := by
  intro k
  induction k with
  | zero =>
    intro n hn _
    have h0 : n = 0 := by simpa using hn
    subst h0
    have hs := dec_small 0 (by omega)
    have HS := Lib.hid hs; clear hs hn
    go_enter Tryz.func10, Tryz.ntmps10
    go_wp2_with fail
    go_ret
    exact ⟨ret_v (congrArg Value.string HS.out), rfl⟩
  | succ k ih =>
    intro n hn hmax
    by_cases c : n < 10
    · have hs := dec_small n c
      have HS := Lib.hid hs; clear hs hn
      have c1 : ((n : Nat) : Int) < 10 := by omega
      have c2 : (0 : Int) ≤ ((n : Nat) : Int) := by omega
      have c3 : ((n : Nat) : Int) + 1 ≤ 10 := by omega
      go_enter Tryz.func10, Tryz.ntmps10
      go_wp2_with fail
      go_ret
      exact ⟨ret_v (congrArg Value.string (by first | exact HS.out | (simp; exact HS.out))), rfl⟩
    · have h1 := ih (n / 10) (by rw [Nat.pow_succ] at hn; omega) (by omega)
      have h2 : Calls Tryz.prog 10 #[.int .i64 ((n % 10 : Nat) : Int)] w fun e w' => e = .returned (.string (dec ((n % 10 : Nat) : Int))) ∧ w = w' := by
        rcases Nat.eq_zero_or_pos k with rfl | hk
        · exfalso; simp at hn; omega
        · exact ih (n % 10) (by have := Nat.mod_lt n (show 0 < 10 by omega); have := Nat.pow_le_pow_right (show 0 < 10 by omega) hk; omega) (by omega)
      have H1 := Lib.hid h1; have H2 := Lib.hid h2
      have hd1 := dec_le (n := ((n / 10 : Nat) : Int)) (by omega) (k := 19) (by omega) (by rw [Int.toNat_natCast]; omega)
      have hd2 := dec_le (n := ((n % 10 : Nat) : Int)) (by omega) (k := 1) (by omega) (by rw [Int.toNat_natCast]; omega)
      have hq : ((n : Nat) : Int).tdiv 10 = ((n / 10 : Nat) : Int) := rfl
      have hr : ((n : Nat) : Int).tmod 10 = ((n % 10 : Nat) : Int) := rfl
      have c1 : ¬ ((n : Nat) : Int) < 10 := by omega
      have HB := Lib.hid (dec_big c)
      have hc1 : ¬ (9223372036854775807 < (((dec ((n / 10 : Nat) : Int)).size : Int) + ((dec ((n % 10 : Nat) : Int)).size : Int))) := by omega
      clear h1 h2 hn c ih hd1 hd2
      generalize dec ((n / 10 : Nat) : Int) = y1 at *
      generalize dec ((n % 10 : Nat) : Int) = y2 at *
      go_enter Tryz.func10, Tryz.ntmps10
      go_wp2_with fail
      refine H1.out.mono ?_; rintro e w' ⟨rfl, rfl⟩
      go_wp2_with fail
      refine H2.out.mono ?_; rintro e w' ⟨rfl, rfl⟩
      go_wp2_with fail
      go_ret
      exact ⟨ret_v (congrArg Value.string HB.out.symm), rfl⟩
theorem bsm_drop {l : List UInt8} {k : Nat} (hk : k < l.length) : bsm (l.drop k) k = (k + 1) * (l[k]).toNat + bsm (l.drop (k + 1)) (k + 1) := by
  rw [List.drop_eq_getElem_cons hk, bsm]
set_option maxHeartbeats 1000000 in
theorem sum4_ok {s : ByteArray} {r : Int} (w : World) (h : mSum s = some r) :
    Calls Tryz.prog 78 #[.string s] w fun e w' => e = .returned (.int .i64 r) ∧ w = w' := by
  unfold mSum at h
  split at h
  case isFalse => cases h
  rename_i hs
  obtain rfl := Option.some.inj h
  clear h
  obtain ⟨bs, hL⟩ : ∃ bs, bs = s.data.toList := ⟨_, rfl⟩
  have hLn : bs.length = s.size := by rw [hL, Array.length_toList]; rfl
  have hat : ∀ k (hk : k < s.size), s[k]? = some (bs[k]'(by omega)) := fun k hk => by
    rw [getElem?_pos s k hk]
    simp [hL, ByteArray.getElem_eq_getElem_data]
  rw [← hL]
  clear hL
  go_enter Tryz.func78, Tryz.ntmps78
  go_wp2
  go_loop [3, 4] (fun vn vi => ∃ (k : Nat) (a : Int), vn = .int .i64 a ∧ vi = .int .i64 ((k : Int) - 1) ∧ k ≤ s.size ∧ Hid (a = (bsm (bs.drop k) k : Nat))) (fun _ vi => (intOf vi + 1).toNat)
  case atStart => exact ⟨s.size, 0, rfl, by first | rfl | go_num, by omega, by show (0 : Int) = _; rw [List.drop_of_length_le (by omega)]; rfl⟩
  case round =>
    obtain ⟨k, a, rfl, rfl, hk, hh⟩ := hrel
    rcases Nat.eq_zero_or_pos k with rfl | hk0
    · have ha := hh.out
      rw [List.drop_zero] at ha
      have hmod : a.tmod 9973 = ((bsm bs 0 % 9973 : Nat) : Int) := by rw [ha]; rfl
      clear hat ha
      go_wp2
      go_ret
      exact ⟨by first | rfl | (rw [← hmod]) | (congr 2), rfl⟩
    · obtain ⟨m, rfl⟩ : ∃ m, k = m + 1 := ⟨k - 1, by omega⟩
      have hm : ((m + 1 : Nat) : Int) - 1 = (m : Int) := by omega
      rw [hm]
      have ha := hh.out
      have hstep := bsm_drop (l := bs) (k := m) (by omega)
      have hle := bsm_le (bs.drop (m + 1)) (m + 1) s.size (by rw [List.length_drop]; omega)
      have hle2 : (bs.drop (m + 1)).length * (s.size * 255) ≤ 1000000 * (1000000 * 255) := Nat.mul_le_mul (by rw [List.length_drop]; omega) (Nat.mul_le_mul (by omega) (Nat.le_refl _))
      have a0 : 0 ≤ a := by omega
      have a1 : a ≤ 255000000000000 := by omega
      have hc := hat m (by omega)
      generalize bs[m]'(by omega) = c at hc hstep
      have hc256 : c.toNat < 256 := c.toNat_lt
      have hp : (m + 1) * c.toNat ≤ 1000000 * 255 := Nat.mul_le_mul (by omega) (by omega)
      have hpe : ((m : Int) + 1) * (c.toNat : Int) = (((m + 1) * c.toNat : Nat) : Int) := by rw [Int.natCast_mul]; rfl
      generalize hq : (m + 1) * c.toNat = q at hp hpe hstep
      have HSTEP := Lib.hid hstep
      obtain ⟨hms, hsc⟩ := getElem?_eq_some_iff.1 hc
      have HSC := Lib.hid hsc; have HPE := Lib.hid hpe; clear hsc
      have hci : s[((m : Int)).toNat]? = some c := by rw [Int.toNat_natCast]; exact hc
      clear hat hle hle2 ha hstep hq hm
      go_wp2
      go_round
      case rel => exact ⟨m, a + q, by
        refine congrArg (Value.int .i64) ?_
        first
          | rfl
          | (rw [HSC.out, w64 (x := (c.toNat : Int)) (by omega) (by omega), HPE.out, w64 (x := (q : Int)) (by omega) (by omega), w64 (by omega) (by omega)]), by first | rfl | go_num, by omega, by show _ = _; rw [HSTEP.out, hh.out]; omega⟩
      case measure => simp [intOf] <;> omega
end Go.Proofs.YtbloomegblbpfaaGreatDoor
/- the document's book: a line is put down -/
set_option linter.all false
set_option maxRecDepth 100000
namespace Go.Proofs.YtbloomegblbpfaaGreatDoor
open Go.RowKit Go.Shelf
/-- the document's book, as a value -/
def r4V (v : Value) (t : ByteArray) (n : Int) : Value := .agg #[v, .string t, .int .i64 n]
theorem line4 (word : ByteArray) (i j : Int) : (((word ++ (⟨#[32]⟩ : ByteArray)) ++ dec i) ++ (⟨#[32]⟩ : ByteArray)) ++ dec j = dnW word [i, j] := by
  rw [dnW, dnW, dnW]; simp only [ByteArray.append_assoc]
set_option maxHeartbeats 4000000 in
theorem down4_ok {A : Option Addr} {len cap : Nat} {t word : ByteArray} {n i j : Int} (w : World) (hi : 0 ≤ i ∧ i ≤ 7) (hj : 0 ≤ j ∧ j ≤ 7) (hw : word.size ≤ 10) (ht : t.size < 1000000) (hn : 0 ≤ n ∧ n < 1000) :
    Calls Tryz.prog 54 #[r4V (.slice A len cap) t n, .string word, .int .i64 i, .int .i64 j] w fun e w' =>
      e = .returned (r4V (.slice A len cap) (t ++ lineW (dnW word [i, j])) (n + 1)) ∧ Below w.heap.size w w' := by
  obtain ⟨i', rfl⟩ := Int.eq_ofNat_of_zero_le hi.1
  obtain ⟨j', rfl⟩ := Int.eq_ofNat_of_zero_le hj.1
  have d1 := dec_le (n := (i' : Int)) (by omega) (k := 1) (by omega) (by rw [Int.toNat_natCast]; omega)
  have d2 := dec_le (n := (j' : Int)) (by omega) (k := 1) (by omega) (by rw [Int.toNat_natCast]; omega)
  have hl := line4 word (i' : Int) (j' : Int)
  obtain ⟨wd, hwd⟩ : ∃ wd, wd = dnW word [(i' : Int), (j' : Int)] := ⟨_, rfl⟩
  have hws : wd.size ≤ 14 := by rw [hwd, ← hl]; simp only [ByteArray.size_append, one_size]; omega
  obtain ⟨sm, hsm⟩ : ∃ sm : Nat, sm = bsm wd.data.toList 0 % 9973 := ⟨_, rfl⟩
  have hsm0 : sm < 9973 := by rw [hsm]; exact Nat.mod_lt _ (by omega)
  have hS : mSum wd = some (sm : Int) := by unfold mSum; rw [if_pos (by omega), hsm]
  obtain ⟨y, hy⟩ : ∃ y, y = dec (sm : Int) := ⟨_, rfl⟩
  have hds : y.size ≤ 4 := by rw [hy]; exact dec_le (by omega) (by omega) (by rw [Int.toNat_natCast]; omega)
  have hline : (((t ++ wd) ++ (⟨#[32]⟩ : ByteArray)) ++ y) ++ (⟨#[10]⟩ : ByteArray) = t ++ lineW wd := by rw [lineW, hy, hsm]; simp only [ByteArray.append_assoc]
  have H1 := Lib.hid (fun w => digits_ok w 1 i' (by omega) (by omega))
  have H2 := Lib.hid (fun w => digits_ok w 1 j' (by omega) (by omega))
  rw [← hwd]
  rw [← hwd] at hl
  obtain ⟨di, hdi⟩ : ∃ di, di = dec (i' : Int) := ⟨_, rfl⟩
  obtain ⟨dj, hdj⟩ : ∃ dj, dj = dec (j' : Int) := ⟨_, rfl⟩
  rw [← hdi] at hl d1 H1
  rw [← hdj] at hl d2 H2
  have HL := Lib.hid hl
  have HLINE := Lib.hid hline
  have hc1 : ¬ (9223372036854775807 < ((word.size : Int) + ((⟨#[32]⟩ : ByteArray).size : Int))) := by rw [one_size]; omega
  have hc2 : ¬ (9223372036854775807 < (((word ++ (⟨#[32]⟩ : ByteArray)).size : Int) + (di.size : Int))) := by rw [ByteArray.size_append, one_size]; omega
  have hc3 : ¬ (9223372036854775807 < ((((word ++ (⟨#[32]⟩ : ByteArray)) ++ di).size : Int) + ((⟨#[32]⟩ : ByteArray).size : Int))) := by simp only [ByteArray.size_append, one_size]; omega
  have hc4 : ¬ (9223372036854775807 < (((((word ++ (⟨#[32]⟩ : ByteArray)) ++ di) ++ (⟨#[32]⟩ : ByteArray)).size : Int) + (dj.size : Int))) := by simp only [ByteArray.size_append, one_size]; omega
  have HCS := Lib.hid (fun W d_ os_ => Calls.regrown_of (v := .int .i64 (sm : Int)) ((sum4_ok (Go.Sort.grow (redrawn W d_) os_) hS).mono fun _ _ h_ => ⟨h_.1, h_.2 ▸ Below.refl _ _⟩))
  have HCI := Lib.hid (fun W d_ os_ => Calls.regrown_of (v := .string y) ((digits_ok (Go.Sort.grow (redrawn W d_) os_) 4 sm (by omega) (by omega)).mono fun _ _ h_ => ⟨by rw [hy]; exact h_.1, h_.2 ▸ Below.refl _ _⟩))
  have hn1 : ¬ (9223372036854775807 < t.size + wd.size) := by omega
  have hn2 : ¬ (9223372036854775807 < t.size + wd.size + 1) := by omega
  have hn3 : ¬ (9223372036854775807 < t.size + wd.size + 1 + y.size) := by omega
  have hn4 : ¬ (9223372036854775807 < t.size + wd.size + 1 + y.size + 1) := by omega
  clear hl hline hdi hdj hsm hy hwd hS d1 d2
  unfold r4V
  go_enter Tryz.func54, Tryz.ntmps54
  go_wp2_with fail
  refine (H1.out _).mono ?_; rintro e w' ⟨rfl, rfl⟩
  go_wp2_with fail
  refine (H2.out _).mono ?_; rintro e w' ⟨rfl, rfl⟩
  go_wp2_with fail
  rw [HL.out]
  have e1 : ((w.alloc (.cells #[Value.slice A len cap, .string t, .int .i64 n] 48)).alloc (.cells #[Value.slice none 0 0, .string { data := #[] }, .int .i64 0] 48)).heap[w.heap.size]? = some (.cells #[Value.slice A len cap, .string t, .int .i64 n] 48 (0, 0)) := by
    rw [heap_alloc_old _ _ _ (by simp)]; exact heap_alloc_new w _
  have e2 : ((w.alloc (.cells #[Value.slice A len cap, .string t, .int .i64 n] 48)).alloc (.cells #[Value.slice none 0 0, .string { data := #[] }, .int .i64 0] 48)).heap[w.heap.size + 1]? = some (.cells #[Value.slice none 0 0, .string { data := #[] }, .int .i64 0] 48 (0, 0)) := by
    have := heap_alloc_new (w.alloc (.cells #[Value.slice A len cap, .string t, .int .i64 n] 48)) (.cells #[Value.slice none 0 0, .string { data := #[] }, .int .i64 0] 48)
    simpa using this
  have hb2 : Below w.heap.size w ((w.alloc (.cells #[Value.slice A len cap, .string t, .int .i64 n] 48)).alloc (.cells #[Value.slice none 0 0, .string { data := #[] }, .int .i64 0] 48)) := ((Below.refl _ _).alloc (Nat.le_refl _) _).alloc (by simp) _
  generalize hW : World.alloc (World.alloc w _) _ = W2 at *
  clear hW
  have HB2 := Lib.hid hb2; have E1 := Lib.hid e1; have E2 := Lib.hid e2; clear hb2 e1 e2
  have c1 : W2.cell? ⟨w.heap.size, 1, none⟩ = some (.string t) := by rw [Lib.cell_of_heap E1.out]; rfl
  have c1_r := cell_regrown c1
  refine wp_region_quiet_tail 11 (by kernel_rfl) (by kernel_rfl) ?_
  dsimp only [List.take, List.drop]
  repeat (refine wpQH_step (fun K hK => ?_); go_simp; first | (refine hK _ ?_; clear hK K) | (apply Exists.intro; refine ⟨fun _ => ?_, hK _ ?_⟩; (first | (go_at_call 78; exact (HCS.out _ _ _)) | (go_at_call 10; exact (HCI.out _ _ _))); clear hK K))
  refine wpQH_nil ?_
  intro _ hw_
  obtain ⟨⟨dq, osq⟩, hw_⟩ := hw_
  subst hw_
  have hd := below_regrown W2 dq osq
  generalize Go.Sort.grow (redrawn W2 _) _ = W3 at *
  have l1 : w.heap.size < W2.heap.size := (Array.getElem?_eq_some_iff.1 E1.out).1
  have l2 : w.heap.size + 1 < W2.heap.size := (Array.getElem?_eq_some_iff.1 E2.out).1
  have g1 := (hd.block _ l1).trans E1.out
  have g2 := (hd.block _ l2).trans E2.out
  have HB3 := Lib.hid (HB2.out.trans (hd.mono HB2.out.size))
  clear c1 c1_r hd l1 l2
  rw [HLINE.out]
  have k1 : W3.cell? ⟨w.heap.size, 1, none⟩ = some (.string t) := by rw [Lib.cell_of_heap g1]; rfl
  have f1 : W3.frozen? ⟨w.heap.size, 1, none⟩ = false := Lib.frozen_of_heap g1 1
  have g1' : (W3.setCell ⟨w.heap.size, 1, none⟩ (.string (t ++ lineW wd))).heap[w.heap.size]? = some (.cells #[Value.slice A len cap, .string (t ++ lineW wd), .int .i64 n] 48 (0, 0)) := by
    simp [World.setCell, Array.getElem?_modify, g1]
  have g2' : (W3.setCell ⟨w.heap.size, 1, none⟩ (.string (t ++ lineW wd))).heap[w.heap.size + 1]? = _ := (Below.heap_setCell W3 ⟨w.heap.size, 1, none⟩ _ (w.heap.size + 1) (by simp)).trans g2
  have hb4 : Below w.heap.size w (W3.setCell ⟨w.heap.size, 1, none⟩ (.string (t ++ lineW wd))) := HB3.out.setCell (p := ⟨w.heap.size, 1, none⟩) (Nat.le_refl _) _
  have G1 := Lib.hid g1'; have G2 := Lib.hid g2'; have HB4 := Lib.hid hb4
  clear g1 g2 g1' g2' hb4
  go_upto_region 3 with (fail)
  generalize hW : World.setCell W3 _ _ = W4 at *
  clear hW k1 f1
  have k1 : W4.cell? ⟨w.heap.size, 2, none⟩ = some (.int .i64 n) := by rw [Lib.cell_of_heap G1.out]; rfl
  have f1 : W4.frozen? ⟨w.heap.size, 2, none⟩ = false := Lib.frozen_of_heap G1.out 2
  have g1' : (W4.setCell ⟨w.heap.size, 2, none⟩ (.int .i64 (n + 1))).heap[w.heap.size]? = some (.cells #[Value.slice A len cap, .string (t ++ lineW wd), .int .i64 (n + 1)] 48 (0, 0)) := by
    simp [World.setCell, Array.getElem?_modify, G1.out]
  have g2' : (W4.setCell ⟨w.heap.size, 2, none⟩ (.int .i64 (n + 1))).heap[w.heap.size + 1]? = _ := (Below.heap_setCell W4 ⟨w.heap.size, 2, none⟩ _ (w.heap.size + 1) (by simp)).trans G2.out
  have hb5 : Below w.heap.size w (W4.setCell ⟨w.heap.size, 2, none⟩ (.int .i64 (n + 1))) := HB4.out.setCell (p := ⟨w.heap.size, 2, none⟩) (Nat.le_refl _) _
  have J1 := Lib.hid g1'; have J2 := Lib.hid g2'; have HB5 := Lib.hid hb5
  clear g1' g2' hb5
  go_upto_region 4 with (fail)
  generalize hW : World.setCell W4 _ _ = W5 at *
  clear hW k1 f1
  have k0 : W5.cell? ⟨w.heap.size, 0, none⟩ = some (Value.slice A len cap) := by rw [Lib.cell_of_heap J1.out]; rfl
  have k1 : W5.cell? ⟨w.heap.size, 1, none⟩ = some (.string (t ++ lineW wd)) := by rw [Lib.cell_of_heap J1.out]; rfl
  have k2 : W5.cell? ⟨w.heap.size, 2, none⟩ = some (.int .i64 (n + 1)) := by rw [Lib.cell_of_heap J1.out]; rfl
  have r0 : W5.cell? ⟨w.heap.size + 1, 0, none⟩ = some (Value.slice none 0 0) := by rw [Lib.cell_of_heap J2.out]; rfl
  have r1 : W5.cell? ⟨w.heap.size + 1, 1, none⟩ = some (.string { data := #[] }) := by rw [Lib.cell_of_heap J2.out]; rfl
  have r2 : W5.cell? ⟨w.heap.size + 1, 2, none⟩ = some (.int .i64 0) := by rw [Lib.cell_of_heap J2.out]; rfl
  have q0 : W5.frozen? ⟨w.heap.size + 1, 0, none⟩ = false := Lib.frozen_of_heap J2.out 0
  have q1 : W5.frozen? ⟨w.heap.size + 1, 1, none⟩ = false := Lib.frozen_of_heap J2.out 1
  have q2 : W5.frozen? ⟨w.heap.size + 1, 2, none⟩ = false := Lib.frozen_of_heap J2.out 2
  go_wp2_with fail
  have g6 : (((W5.setCell ⟨w.heap.size + 1, 0, none⟩ (Value.slice A len cap)).setCell ⟨w.heap.size + 1, 1, none⟩ (.string (t ++ lineW wd))).setCell ⟨w.heap.size + 1, 2, none⟩ (.int .i64 (n + 1))).heap[w.heap.size + 1]? = some (.cells #[Value.slice A len cap, .string (t ++ lineW wd), .int .i64 (n + 1)] 48 (0, 0)) := by
    simp [World.setCell, Array.getElem?_modify, J2.out]
  have hb6 : Below w.heap.size w (((W5.setCell ⟨w.heap.size + 1, 0, none⟩ (Value.slice A len cap)).setCell ⟨w.heap.size + 1, 1, none⟩ (.string (t ++ lineW wd))).setCell ⟨w.heap.size + 1, 2, none⟩ (.int .i64 (n + 1))) :=
    ((HB5.out.setCell (p := ⟨w.heap.size + 1, 0, none⟩) (by simp) _).setCell (p := ⟨w.heap.size + 1, 1, none⟩) (by simp) _).setCell (p := ⟨w.heap.size + 1, 2, none⟩) (by simp) _
  refine bodyPost_ret (results_cell_row (p := 8) (ty := 48) rfl _ _ (w.heap.size + 1) _ _ _ _ rfl g6 Tryz.underlying48 rfl (by kernel_rfl)) rfl ⟨rfl, hb6⟩
end Go.Proofs.YtbloomegblbpfaaGreatDoor
set_option linter.all false
set_option maxRecDepth 100000
namespace Go.Proofs.YtbloomegblbpfaaGreatDoor
open Go.RowKit
def R4_in (F : Nat) (v0 : Int) (v1 : Int) (v2 : Int) : Option (Bool) := (if v1 ≤ v0 then if v0 ≤ v2 then some true else some false else some false).bind fun b1 => some (b1)
set_option maxRecDepth 100000 in
set_option maxHeartbeats 4000000 in
theorem R4_in_ok {F : Nat} {v0 : Int} {v1 : Int} {v2 : Int} {r : Bool} (w : World)  (h : R4_in F v0 v1 v2 = some r) :
    Calls Tryz.prog 56 #[.int .i64 v0, .int .i64 v1, .int .i64 v2] w fun e w' => e = .returned (.bool r) ∧ w = w' := by
  unfold R4_in at h
  have HM := Lib.hid h; clear h
  go_enter Tryz.func56, Tryz.ntmps56
  obtain ⟨b1, hb, hm⟩ := obind HM.out
  replace HM := Lib.hid hm; have HB2 := Lib.hid hb; clear hm hb
  by_cases hc3 : v1 ≤ v0
  · replace HB2 := Lib.hid (ifT hc3 HB2.out)
    have HK4 := Lib.hid hc3
    by_cases hc5 : v0 ≤ v2
    · replace HB2 := Lib.hid (ifT hc5 HB2.out)
      have HK6 := Lib.hid hc5
      obtain rfl := Option.some.inj HB2.out
      obtain rfl := Option.some.inj HM.out
      go_wp2_with fail
      go_ret
      exact ⟨(by first | rfl | (refine congrArg (fun b => Ending.returned (Value.bool b)) ?_; first | (exact decide_eq_true (by omega)) | (exact decide_eq_false (by omega)) | (have q := hc3; rw [bne_iff_ne] at q ⊢; omega) | (have q := hc3; rw [bne_eq_false_iff_eq] at q ⊢; omega) | (have q := hc3; rw [beq_iff_eq] at q ⊢; omega) | (have q := hc3; rw [beq_eq_false_iff_ne] at q ⊢; omega) | (have q := hc5; rw [bne_iff_ne] at q ⊢; omega) | (have q := hc5; rw [bne_eq_false_iff_eq] at q ⊢; omega) | (have q := hc5; rw [beq_iff_eq] at q ⊢; omega) | (have q := hc5; rw [beq_eq_false_iff_ne] at q ⊢; omega) | exact hc3 | (rw [hc3]; rfl) | exact hc5 | (rw [hc5]; rfl))), rfl⟩
    · replace HB2 := Lib.hid (ifF hc5 HB2.out)
      have hc5d := decide_eq_false hc5
      have HK6 := Lib.hid hc5
      obtain rfl := Option.some.inj HB2.out
      obtain rfl := Option.some.inj HM.out
      go_wp2_with fail
      go_ret
      exact ⟨(by first | rfl | (refine congrArg (fun b => Ending.returned (Value.bool b)) ?_; first | (exact decide_eq_true (by omega)) | (exact decide_eq_false (by omega)) | (have q := hc5; rw [bne_iff_ne] at q ⊢; omega) | (have q := hc5; rw [bne_eq_false_iff_eq] at q ⊢; omega) | (have q := hc5; rw [beq_iff_eq] at q ⊢; omega) | (have q := hc5; rw [beq_eq_false_iff_ne] at q ⊢; omega) | (have q := hc5d; rw [bne_iff_ne] at q ⊢; omega) | (have q := hc5d; rw [bne_eq_false_iff_eq] at q ⊢; omega) | (have q := hc5d; rw [beq_iff_eq] at q ⊢; omega) | (have q := hc5d; rw [beq_eq_false_iff_ne] at q ⊢; omega) | exact hc5 | (rw [hc5]; rfl) | exact hc5d | (rw [hc5d]; rfl))), rfl⟩
  · replace HB2 := Lib.hid (ifF hc3 HB2.out)
    have hc3d := decide_eq_false hc3
    have HK4 := Lib.hid hc3
    obtain rfl := Option.some.inj HB2.out
    obtain rfl := Option.some.inj HM.out
    go_wp2_with fail
    go_ret
    exact ⟨(by first | rfl | (refine congrArg (fun b => Ending.returned (Value.bool b)) ?_; first | (exact decide_eq_true (by omega)) | (exact decide_eq_false (by omega)) | (have q := hc3; rw [bne_iff_ne] at q ⊢; omega) | (have q := hc3; rw [bne_eq_false_iff_eq] at q ⊢; omega) | (have q := hc3; rw [beq_iff_eq] at q ⊢; omega) | (have q := hc3; rw [beq_eq_false_iff_ne] at q ⊢; omega) | (have q := hc3d; rw [bne_iff_ne] at q ⊢; omega) | (have q := hc3d; rw [bne_eq_false_iff_eq] at q ⊢; omega) | (have q := hc3d; rw [beq_iff_eq] at q ⊢; omega) | (have q := hc3d; rw [beq_eq_false_iff_ne] at q ⊢; omega) | exact hc3 | (rw [hc3]; rfl) | exact hc3d | (rw [hc3d]; rfl))), rfl⟩
def R4_two (F : Nat) (v0 : Int) (v1 : Int) : Option (Int) := (((R4_in F (v0) (0) (7)).bind fun y2 => if y2 = true then (R4_in F (v1) (0) (7)).bind fun y3 => if y3 = true then some false else some true else some true).bind fun b1 => if b1 = true then some (1) else (if (v0 == v1) = true then some (3) else some (0)))
set_option maxRecDepth 100000 in
set_option maxHeartbeats 4000000 in
theorem R4_two_ok {F : Nat} {v0 : Int} {v1 : Int} {r : Int} (w : World)  (h : R4_two F v0 v1 = some r) :
    Calls Tryz.prog 52 #[.int .i64 v0, .int .i64 v1] w fun e w' => e = .returned (.int .i64 r) ∧ w = w' := by
  unfold R4_two at h
  have HM := Lib.hid h; clear h
  go_enter Tryz.func52, Tryz.ntmps52
  go_upto_region 1 with (fail)
  obtain ⟨b1, hb, hm⟩ := obind HM.out
  replace HM := Lib.hid hm; have HB2 := Lib.hid hb; clear hm hb
  go_cut [12] (fun uq wr => uq = .bool b1 ∧ w = wr)
  case first =>
    obtain ⟨y6, hy4, hm⟩ := obind HB2.out
    replace HB2 := Lib.hid hm; clear hm
    have HC5 := R4_in_ok w  hy4
    clear hy4
    replace HC5 := Lib.hid HC5
    cases y6
    · replace HB2 := Lib.hid (ifF Bool.false_ne_true HB2.out)
      cases Option.some.inj HB2.out
      go_wp2_with fail
      refine HC5.out.mono ?_; rintro e w' ⟨rfl, rfl⟩
      try go_wp2_with fail
      go_meet
      case rel => exact ⟨rfl, rfl⟩
    · replace HB2 := Lib.hid (ifT rfl HB2.out)
      obtain ⟨y9, hy7, hm⟩ := obind HB2.out
      replace HB2 := Lib.hid hm; clear hm
      have HC8 := R4_in_ok w  hy7
      clear hy7
      replace HC8 := Lib.hid HC8
      cases y9
      · replace HB2 := Lib.hid (ifF Bool.false_ne_true HB2.out)
        cases Option.some.inj HB2.out
        go_wp2_with fail
        refine HC5.out.mono ?_; rintro e w' ⟨rfl, rfl⟩
        go_wp2_with fail
        refine HC8.out.mono ?_; rintro e w' ⟨rfl, rfl⟩
        try go_wp2_with fail
        go_meet
        case rel => exact ⟨rfl, rfl⟩
      · replace HB2 := Lib.hid (ifT rfl HB2.out)
        cases Option.some.inj HB2.out
        go_wp2_with fail
        refine HC5.out.mono ?_; rintro e w' ⟨rfl, rfl⟩
        go_wp2_with fail
        refine HC8.out.mono ?_; rintro e w' ⟨rfl, rfl⟩
        try go_wp2_with fail
        go_meet
        case rel => exact ⟨rfl, rfl⟩
  case rest =>
    obtain ⟨rfl, rfl⟩ := hcut
    cases b1
    · replace HM := Lib.hid (ifF Bool.false_ne_true HM.out)
      rcases Bool.eq_false_or_eq_true (v0 == v1) with hc10 | hc10
      · replace HM := Lib.hid (ifT hc10 HM.out)
        have HK11 := Lib.hid hc10
        obtain rfl := Option.some.inj HM.out
        go_wp2_with fail
        try clear hc10
        go_ret
        exact ⟨rfl, rfl⟩
      · replace HM := Lib.hid (ifF (bF hc10) HM.out)
        have HK11 := Lib.hid hc10
        obtain rfl := Option.some.inj HM.out
        go_wp2_with fail
        try clear hc10
        go_ret
        exact ⟨rfl, rfl⟩
    · replace HM := Lib.hid (ifT rfl HM.out)
      obtain rfl := Option.some.inj HM.out
      go_wp2_with fail
      go_ret
      exact ⟨rfl, rfl⟩
end Go.Proofs.YtbloomegblbpfaaGreatDoor
/- append of lines to a row that the call owns -/
set_option linter.all false
set_option maxRecDepth 100000
namespace Go.Proofs.YtbloomegblbpfaaGreatDoor
open Go.RowKit Go.Shelf Pl
theorem lineCells_app (l m : List (Int × Int)) : lineCells (l ++ m) = lineCells l ++ lineCells m := by simp [lineCells]
theorem run_appLs (W : World) (t ot : TypeId) (ht : Tryz.prog.underlying t = some (.slice 92))
    {B c : Nat} {A : Option Addr} {L1 L2 : List It} {v : Value} {l m : List (Int × Int)} (h : HP W B (L1 ++ .fl (owL v l) :: L2)) (hr : ReadsL W W.heap.size A m) (hlen : l.length + m.length < 1000000000) (hB : B ≤ W.heap.size) :
    ∃ v' w', (Builtin.append_ #[t, t] ot #[v, .slice A m.length c]).run Tryz.prog W = .ok v' w' ∧ HP w' B (L1 ++ .fl (owL v' (l ++ m)) :: L2) ∧ Below B W w' ∧ NC W w' := by
  obtain ⟨i0, hi0, hz0, hz1, hz2⟩ := info_parts line_info
  obtain ⟨M1, M2, h1, h2⟩ := h.getAt
  have hown : W.ownsRow B 92 2 v l.length (lineCells l) := h1.get (o := owL v l) (by simp)
  rcases A with _ | ad
  · have hm : m = [] := by
      rcases Nat.eq_zero_or_pos m.length with h0 | h0
      · exact List.eq_nil_of_length_eq_zero h0
      · obtain ⟨b, oo, e, _⟩ := hr.2 h0; cases e
    subst hm
    refine ⟨v, W, append_nil_run W (ty := ot) ht hi0 hown c, ?_, Below.refl _ _, NC.refl _⟩
    rw [List.append_nil]; exact h
  · obtain ⟨v', w', hrun, hown', hg, hlow, hblk⟩ := run_append_own_at (P := Tryz.prog) W B t ot 92 i0 _ 2 16 ht hi0 hz0 hz1 hz2 rfl (by omega) v l.length (lineCells l) hown ad m.length c (lineCells m) (lineCells_len m) (by
      intro j u hu
      have hj : 0 < m.length := by
        have := (List.getElem?_eq_some_iff.1 hu).1
        rw [lineCells_len] at this; omega
      obtain ⟨b, oo, e, _, hc⟩ := hr.2 hj
      cases e
      rw [Go.WideShapes.add_plain]; exact hc j u hu) (by
      intro u hu
      simp only [lineCells, List.mem_flatMap] at hu
      obtain ⟨y, _, hy⟩ := hu
      simp only [List.mem_cons, List.not_mem_nil, or_false] at hy
      rcases hy with rfl | rfl <;> rfl) (by unfold maxLen; omega) (by omega) hB
    refine ⟨v', w', hrun, h2 _ _ (h1.upd hg ?_ ?_), (Below.refl _ _).grown hg hB (fun k hk => (hown.lt k hk).1), NC.grown hg fun g hg' => own_cells hown hg'⟩
    · show w'.ownsRow B 92 2 v' (l ++ m).length (lineCells (l ++ m))
      rw [List.length_append, lineCells_app]; exact hown'
    · rcases hblk with e | e
      · exact .inl e
      · exact .inr ⟨_, e, by omega⟩
end Go.Proofs.YtbloomegblbpfaaGreatDoor
