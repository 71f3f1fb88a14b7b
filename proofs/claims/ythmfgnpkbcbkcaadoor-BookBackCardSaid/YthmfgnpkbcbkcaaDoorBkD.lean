import Derived.Test.YthmfgnpkbcbkcaaDoorBkS
/- what is put down -/
set_option linter.all false
set_option maxRecDepth 100000
namespace Go.Proofs.YthmfgnpkbcbkcaaDoor
open Go.RowKit Go.Shelf
def dnW : ByteArray → List Int → ByteArray
  | w, [] => w
  | w, n :: l => dnW (w ++ ((⟨#[32]⟩ : ByteArray) ++ dec n)) l
/-- a line, with its sum, and its end -/
def lineW (wd : ByteArray) : ByteArray := ((wd ++ (⟨#[32]⟩ : ByteArray)) ++ dec ((bsm wd.data.toList 0 % 9973 : Nat) : Int)) ++ (⟨#[10]⟩ : ByteArray)
theorem dec_size (n : Int) (h0 : 0 ≤ n) : (dec n).size = Lib.nDigits n.toNat := by
  unfold dec Lib.itoa
  rw [if_neg (by omega)]
  exact Lib.decDigits_length _
theorem nDigits_lt {u k : Nat} (hk : 0 < k) (h : u < 10 ^ k) : Lib.nDigits u ≤ k := by
  induction k generalizing u with
  | zero => omega
  | succ k ih =>
    rw [← Lib.decDigits_length, Lib.decDigits]
    split
    · simp
    · rename_i hu
      rcases Nat.eq_zero_or_pos k with rfl | hk'
      · simp at h; omega
      · have := ih hk' (u := u / 10) (by rw [Nat.pow_succ] at h; omega)
        rw [← Lib.decDigits_length] at this
        rw [List.length_append, List.length_singleton]; omega
theorem dec_le {n : Int} (h0 : 0 ≤ n) {k : Nat} (hk : 0 < k) (h : n.toNat < 10 ^ k) : (dec n).size ≤ k := by rw [dec_size n h0]; exact nDigits_lt hk h
theorem one_size (b : UInt8) : (⟨#[b]⟩ : ByteArray).size = 1 := rfl
set_option maxHeartbeats 2000000 in
theorem bkDown_ok {B g : Nat} {its1 its2 : List It} {ms : List Nat} {t : ByteArray} {n : Int} {A : Option Addr} {cap : Nat} {l : List Int} {word : ByteArray} (w : World) (htb : TabC w) (h : HP w B (its1 ++ .bk g ms t n :: its2)) (hB : B ≤ w.heap.size) (hr : ReadsI w w.heap.size A l)
    (hl : l.length ≤ 2) (hn : ∀ x ∈ l, 0 ≤ x ∧ x < 8) (hw : word.size ≤ 10) (ht : t.size < 1000000) (hm : 0 ≤ n ∧ n < 1000) :
    Calls Tryd.prog 27 #[.pointer (some ⟨g, 0, none⟩), .string word, .slice A l.length cap] w fun e w' =>
      e = .returned (.tuple #[]) ∧ HP w' B (its1 ++ .bk g ms (t ++ lineW (dnW word l)) (n + 1) :: its2) ∧ Below B w w' := by
  have HH := Lib.hid h; clear h
  have HR := Lib.hid hr; clear hr
  have HN := Lib.hid hn; clear hn
  have HTB := Lib.hid htb; clear htb
  have HT := Lib.hid ht; clear ht
  go_enter Tryd.func27, Tryd.ntmps27
  go_wp2_with fail
  go_loopg [1, 10] 100 (fun gg uw ui wr => ∃ (wd : ByteArray) (k : Nat), uw = .string wd ∧ ui = .int .i64 k ∧ k ≤ l.length ∧ gg = 100 - k ∧ Hid (Below w.heap.size w wr) ∧ Hid (dnW wd (l.drop k) = dnW word l) ∧ Hid (wd.size ≤ 10 + 2 * k))
  case atStart => exact ⟨word, 0, rfl, rfl, by omega, rfl, Lib.hid (Below.refl _ _), Lib.hid rfl, Lib.hid (by omega)⟩
  case round =>
    obtain ⟨wd, k, rfl, rfl, hk, rfl, HW, HD, HS⟩ := hrel
    rename World => W
    by_cases hkn : k < l.length
    · obtain ⟨b, o, rfl, _, hc⟩ := (rdI HW.out HR.out).at_ hkn
      have hd1 : l.drop k = l[k] :: l.drop (k + 1) := List.drop_eq_getElem_cons hkn
      have hx := HN.out _ (List.getElem_mem hkn)
      have hrel := HD.out
      rw [hd1, dnW] at hrel
      generalize l[k] = x at hc hx hrel
      have hs := HS.out
      have hds := dec_le hx.1 (k := 1) (by omega) (by omega)
      have HREL := Lib.hid hrel
      clear hd1 hrel
      obtain ⟨y, hy⟩ : ∃ y, y = dec x := ⟨_, rfl⟩
      have hI : mItoa x = some y := by unfold mItoa; rw [if_pos (by omega), hy]
      have HI := Lib.hid (mItoa_ok W (HTB.out.go HW.out) hI)
      have hc1 : ¬ (9223372036854775807 < (((⟨#[32]⟩ : ByteArray).size : Int) + (y.size : Int))) := by rw [hy, one_size]; omega
      have hc2 : ¬ (9223372036854775807 < ((wd.size : Int) + (((⟨#[32]⟩ : ByteArray) ++ y).size : Int))) := by rw [ByteArray.size_append, hy, one_size]; omega
      have HY := Lib.hid hy
      have HDS := Lib.hid hds
      clear hy hI hx hds hs
      go_wp2_with fail
      refine HI.out.mono ?_; rintro e W2 ⟨rfl, hd⟩
      go_wp2_with fail
      go_roundg (100 - (k + 1))
      case measure => omega
      case rel => exact ⟨_, k + 1, rfl, by go_num, by omega, rfl, Lib.hid (HW.out.trans (hd.mono HW.out.size)), Lib.hid (by rw [HY.out]; exact HREL.out), Lib.hid (by have := HS.out; have := HDS.out; rw [ByteArray.size_append, ByteArray.size_append, HY.out, one_size]; omega)⟩
    · have hke : k = l.length := by omega
      have hwd : wd = dnW word l := by have := HD.out; rw [hke, List.drop_length, dnW] at this; exact this
      have hs := HS.out
      obtain ⟨sm, hsm⟩ : ∃ sm : Int, sm = ((bsm wd.data.toList 0 % 9973 : Nat) : Int) := ⟨_, rfl⟩
      have hsm0 : 0 ≤ sm ∧ sm < 9973 := by have := Nat.mod_lt (bsm wd.data.toList 0) (show 0 < 9973 by omega); omega
      have hS : mSum wd = some sm := by unfold mSum; rw [if_pos (by omega), hsm]
      obtain ⟨y, hy⟩ : ∃ y, y = dec sm := ⟨_, rfl⟩
      have hI : mItoa sm = some y := by unfold mItoa; rw [if_pos (by omega), hy]
      have hds : y.size ≤ 4 := by rw [hy]; exact dec_le hsm0.1 (by omega) (by omega)
      have HCS := Lib.hid (fun d_ os_ => Calls.regrown_of (v := .int .i64 sm) (mSum_ok (Go.Sort.grow (redrawn W d_) os_) hS))
      have HCI := Lib.hid (fun d_ os_ => Calls.regrown_of (v := .string y) (mItoa_ok (Go.Sort.grow (redrawn W d_) os_) (HTB.out.go (HW.out.trans ((below_regrown W d_ os_).mono HW.out.size))) hI))
      have hc1 : ¬ (9223372036854775807 < ((wd.size : Int) + ((⟨#[32]⟩ : ByteArray).size : Int))) := by rw [one_size]; omega
      have hc2 : ¬ (9223372036854775807 < (((wd ++ (⟨#[32]⟩ : ByteArray)).size : Int) + (y.size : Int))) := by rw [ByteArray.size_append, one_size]; omega
      have hc3 : ¬ (9223372036854775807 < ((((wd ++ (⟨#[32]⟩ : ByteArray)) ++ y).size : Int) + ((⟨#[10]⟩ : ByteArray).size : Int))) := by rw [ByteArray.size_append, ByteArray.size_append, one_size, one_size]; omega
      have hn1 : ¬ (9223372036854775807 < wd.size + 1) := by omega
      have hn2 : ¬ (9223372036854775807 < wd.size + 1 + y.size) := by omega
      have hn3 : ¬ (9223372036854775807 < wd.size + 1 + y.size + 1) := by omega
      have hline : ((wd ++ (⟨#[32]⟩ : ByteArray)) ++ y) ++ (⟨#[10]⟩ : ByteArray) = lineW (dnW word l) := by rw [← hwd, lineW, hy, hsm]
      have hls : (lineW (dnW word l)).size < 100 := by rw [← hline, ByteArray.size_append, ByteArray.size_append, ByteArray.size_append, one_size, one_size]; omega
      have HLINE := Lib.hid hline
      have HLS := Lib.hid hls
      clear hsm hy hS hI hline hls hwd hds hs hsm0
      go_wp2_with fail
      refine wp_region_quiet_tail 10 (by kernel_rfl) (by kernel_rfl) ?_
      dsimp only [List.take, List.drop]
      repeat (refine wpQH_step (fun K hK => ?_); go_simp; first | (refine hK _ ?_; clear hK K) | (apply Exists.intro; refine ⟨fun _ => ?_, hK _ ?_⟩; (first | (go_at_call 43; exact (HCS.out _ _)) | (go_at_call 41; exact (HCI.out _ _))); clear hK K))
      refine wpQH_nil ?_
      intro _ hw_
      obtain ⟨⟨dq, osq⟩, hw_⟩ := hw_
      subst hw_
      have hd := below_regrown W dq osq
      generalize Go.Sort.grow (redrawn W _) _ = W9 at *
      have hbel := HW.out.trans (hd.mono HW.out.size)
      have h9 := HH.out.below hbel
      have HB9 := Lib.hid hbel
      clear hd hbel
      go_wp2_with fail
      refine (bkWrite_ok W9 h9 _ (by have := HLS.out; have := HT.out; rw [HLINE.out]; omega) (Nat.le_trans hB HB9.out.size)).mono ?_
      rintro e W10 ⟨rfl, h10, hb10⟩
      rw [HLINE.out] at h10
      obtain ⟨m1, m2, m3, m4, m5, m6⟩ := h10.bkM
      have f10 := m5 10
      obtain ⟨h11, hb11⟩ := h10.bkSetN (n + 1)
      clear m1 m2 m3 m5 m6 h9
      go_wp2_with fail
      go_end0
      refine ⟨rfl, ?_, ?_⟩
      · first | exact h11 | (have e1 : wrap64 (n + 1) = n + 1 := by omega; rw [e1]; exact h11)
      · first | exact ((HB9.out.mono hB).trans hb10).trans hb11 | skip
end Go.Proofs.YthmfgnpkbcbkcaaDoor
