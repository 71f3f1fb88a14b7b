import Derived.Test.YtecllcpjjllogaaGreatDoorDb
import Derived.Test.YtecllcpjjllogaaGreatDoorBL
import Derived.Test.YtecllcpjjllogaaGreatDoorBF
import Derived.Test.YtecllcpjjllogaaGreatDoorPhI
import Derived.MapKept
/- desk: what a session's verbs do -/
set_option linter.all false
set_option maxRecDepth 100000
namespace Go.Proofs.YtecllcpjjllogaaGreatDoor
open Go.RowKit Go.Shelf Pl
theorem mput_alloc {T K E : TypeId} (hT : Tryz.prog.underlying T = some (.map K E)) (hK : Tryz.prog.underlying K = some .string) {w : World} {es : Array MapEntry} {c : Nat} {k : ByteArray} {v : Value} (hf : Instr.findNow .string (.string k) es.toList 0 = some none) :
    (Instr.mapUpdate T (.map (some w.heap.size)) (.string k) v).run Tryz.prog (w.alloc (.map es c)) = .ok () (w.alloc (.map (es.push ⟨.string k, v, c⟩) (c + 1))) := by
  have hb : (w.alloc (.map es c)).heap[w.heap.size]? = some (.map es c) := heap_alloc_new w _
  have hc : (Instr.checkKey false 10000 K (.string k)).run Tryz.prog (w.alloc (.map es c)) = .ok () (w.alloc (.map es c)) := MapKept.run_checkKey hK (by trivial) false 9999
  have hk := MapKept.run_findKey (P := Tryz.prog) (w := w.alloc (.map es c)) hK hf
  have hs : ({ w.alloc (.map es c) with heap := (w.alloc (.map es c)).heap.setIfInBounds w.heap.size (.map (es.push ⟨.string k, v, c⟩) (c + 1)) } : World) = w.alloc (.map (es.push ⟨.string k, v, c⟩) (c + 1)) := by
    have : (w.heap.push (.map es c)).setIfInBounds w.heap.size (.map (es.push ⟨.string k, v, c⟩) (c + 1)) = w.heap.push (.map (es.push ⟨.string k, v, c⟩) (c + 1)) := by
      apply Array.ext_getElem?
      intro i
      rw [Array.getElem?_setIfInBounds, Array.getElem?_push, Array.getElem?_push]
      by_cases e : w.heap.size = i
      · subst e; simp
      · rw [if_neg e, if_neg (Ne.symm e), if_neg (Ne.symm e)]
    show ({ w.alloc (.map es c) with heap := (w.heap.push (.map es c)).setIfInBounds w.heap.size (.map (es.push ⟨.string k, v, c⟩) (c + 1)) } : World) = _
    rw [this]; rfl
  unfold Instr.mapUpdate
  simp only [run_underlying hT, Sem.run_bind, Result.andThen, MapKept.run_getObj_map hb, hc, hk, MapKept.run_setObj_map _ hb, hs]
theorem mget {T K E : TypeId} (hT : Tryz.prog.underlying T = some (.map K E)) (hK : Tryz.prog.underlying K = some .string) {z : Value} (hz : ∀ W : World, (zeroValue E).run Tryz.prog W = .ok z W) {W : World} {b : Nat} {es : Array MapEntry} {c : Nat} {k : ByteArray} {r : Option (Nat × Value)} (hb : W.heap[b]? = some (.map es c))
    (hf : Instr.findNow .string (.string k) es.toList 0 = some r) : (Instr.lookup T (.map (some b)) (.string k) true).run Tryz.prog W = .ok (.tuple #[(match r with | some (_, v) => v | none => z), .bool r.isSome]) W := by
  have hc : (Instr.checkKey es.isEmpty 10000 K (.string k)).run Tryz.prog W = .ok () W := MapKept.run_checkKey hK (by trivial) _ 9999
  have hk := MapKept.run_findKey (P := Tryz.prog) (w := W) hK hf
  unfold Instr.lookup
  cases r with
  | none => simp [run_underlying hT, Sem.run_bind, Result.andThen, MapKept.run_getObj_map hb, hc, hk, hz W]
  | some q => simp [run_underlying hT, Sem.run_bind, Result.andThen, MapKept.run_getObj_map hb, hc, hk]
abbrev dkI (g gb : Nat) (b : BkT) (its : List It) : List It := .fl (owX 29 (some ⟨g, 0, none⟩) (.pointer (some ⟨gb, 0, none⟩))) :: bkI gb b :: its
section
variable {B g gb : Nat} {its1 its2 : List It} {b : BkT} {A : Option Addr} {cap : Nat}
set_option maxHeartbeats 4000000 in
theorem dJoin_okN {i j : Int} {r : Int × BkT} (w : World) (htb : TabB B w) (htc : TyCell w) (h : HP w B (its1 ++ dkI g gb b its2)) (hB : B ≤ w.heap.size) (hgB : 1 < B) (hr : ReadsI w w.heap.size A [i, j]) (hm : mJoin b i j = some r) (he : 0 ≤ r.1 ∧ r.1 ≤ 6) :
    Calls Tryz.prog 18 #[.pointer (some ⟨g, 0, none⟩), .slice A 2 cap] w fun e w' => e = .returned (.string (tld r.1)) ∧ HP w' B (its1 ++ dkI g gb r.2 its2) ∧ Below B w w' ∧ NC w w' := by
  have c0 := h.bx (g := g) (u := .pointer (some ⟨gb, 0, none⟩)) (t := 29) (by simp)
  obtain ⟨g9, o9, eA, hb9, hc9⟩ := hr.2 (show 0 < 2 by decide)
  subst eA
  have f0 : w.cell? ⟨g9, o9, none⟩ = some (.int .i64 i) := hc9 0 _ rfl
  have f1 : w.cell? ⟨g9, o9 + 1, none⟩ = some (.int .i64 j) := hc9 1 _ rfl
  have HOA := Lib.hid h; have HTB := Lib.hid htb; have HTC := Lib.hid htc; have HB := Lib.hid hB; have HM := Lib.hid hm; have HE := Lib.hid he; have HG := Lib.hid hgB
  clear h htb htc hB hm hr hc9 he hgB
  go_enter Tryz.func18, Tryz.ntmps18
  go_upto_region 1 with (fail)
  have c0r := cell_regrown (w := w.drew) c0
  have f0r := cell_regrown (w := w.drew) f0
  have f1r := cell_regrown (w := w.drew) f1
  refine wp_region_ph [.P 0, .P 1, .P 2, .P 4, .P 5, .P 7, .P 8, .H [3, 6, 9], .S [10], .S [11], .P 12] (by kernel_rfl) (by kernel_rfl) ?_
  iterate 7 (refine wpPs_P rfl rfl (fun K hK => ?_); go_simp; refine hK _ ?_; clear hK K)
  refine wpPs_H ?_
  repeat (refine wpQI_step rfl rfl (fun K hK => ?_); go_simp; first | (refine hK _ ?_; clear hK K))
  refine wpQI_nil ?_
  intro _ hw_
  obtain ⟨⟨dq, osq⟩, hw_⟩ := hw_
  subst hw_
  have hd := below_regrown_drew w dq osq
  generalize Go.Sort.grow (redrawn w.drew _) _ = W6 at *
  clear c0r f0r f1r c0 f0 f1
  replace HOA := Lib.hid (HOA.out.below hd)
  replace HTB := Lib.hid (HTB.out.go (hd.mono HB.out))
  replace HTC := Lib.hid (HTC.out.go hd)
  have HN := Lib.hid (NC.of_below hd)
  have HD := Lib.hid (hd.mono HB.out)
  replace HB := Lib.hid (Nat.le_trans HB.out hd.size); clear hd
  have HC := Lib.hid (mJoin_okN (its1 := its1 ++ [.fl (owX 29 (some ⟨g, 0, none⟩) (.pointer (some ⟨gb, 0, none⟩)))]) (its2 := its2) W6 HTB.out (by simpa using HOA.out) HB.out HM.out)
  refine wpPs_S rfl (fun Q' hQ' hL' => ?_)
  go_wp2_with fail
  refine HC.out.mono ?_; rintro e1 W7 ⟨rfl, hp, hd, hn⟩
  replace HOA := Lib.hid (show HP W7 B (its1 ++ dkI g gb r.2 its2) by simpa using hp)
  replace HTC := Lib.hid (HTC.out.below' hd HG.out)
  replace HD := Lib.hid (HD.out.trans hd)
  replace HN := Lib.hid (HN.out.trans hn)
  replace HB := Lib.hid (Nat.le_trans HB.out hd.size); clear hd hn hp HC
  have HT := Lib.hid (told_ok r.1 HE.out W7 HTC.out)
  try go_wp2_with fail
  refine hQ' _ _ ?_; clear hQ' hL' Q'
  refine wpPs_S rfl (fun Q' hQ' hL' => ?_)
  go_wp2_with fail
  refine HT.out.mono ?_; rintro e1 W8 ⟨rfl, hd⟩
  replace HOA := Lib.hid (HOA.out.below hd)
  replace HD := Lib.hid (HD.out.trans (hd.mono HB.out))
  replace HN := Lib.hid (HN.out.trans (NC.of_below hd)); clear hd HT
  try go_wp2_with fail
  refine hQ' _ _ ?_; clear hQ' hL' Q'
  repeat (refine wpPs_P rfl rfl (fun K hK => ?_); go_simp; refine hK _ ?_; clear hK K)
  refine wpPs_nil ?_
  try go_wp2_with fail
  go_ret
  exact ⟨rfl, HOA.out, HD.out, HN.out⟩
set_option maxHeartbeats 4000000 in
theorem dCut_okN {i j : Int} {r : Int × BkT} (w : World) (htb : TabB B w) (htc : TyCell w) (h : HP w B (its1 ++ dkI g gb b its2)) (hB : B ≤ w.heap.size) (hgB : 1 < B) (hr : ReadsI w w.heap.size A [i, j]) (hm : mCut b i j = some r) (he : 0 ≤ r.1 ∧ r.1 ≤ 6) :
    Calls Tryz.prog 19 #[.pointer (some ⟨g, 0, none⟩), .slice A 2 cap] w fun e w' => e = .returned (.string (tld r.1)) ∧ HP w' B (its1 ++ dkI g gb r.2 its2) ∧ Below B w w' ∧ NC w w' := by
  have c0 := h.bx (g := g) (u := .pointer (some ⟨gb, 0, none⟩)) (t := 29) (by simp)
  obtain ⟨g9, o9, eA, hb9, hc9⟩ := hr.2 (show 0 < 2 by decide)
  subst eA
  have f0 : w.cell? ⟨g9, o9, none⟩ = some (.int .i64 i) := hc9 0 _ rfl
  have f1 : w.cell? ⟨g9, o9 + 1, none⟩ = some (.int .i64 j) := hc9 1 _ rfl
  have HOA := Lib.hid h; have HTB := Lib.hid htb; have HTC := Lib.hid htc; have HB := Lib.hid hB; have HM := Lib.hid hm; have HE := Lib.hid he; have HG := Lib.hid hgB
  clear h htb htc hB hm hr hc9 he hgB
  go_enter Tryz.func19, Tryz.ntmps19
  go_upto_region 1 with (fail)
  have c0r := cell_regrown (w := w.drew) c0
  have f0r := cell_regrown (w := w.drew) f0
  have f1r := cell_regrown (w := w.drew) f1
  refine wp_region_ph [.P 0, .P 1, .P 2, .P 4, .P 5, .P 7, .P 8, .H [3, 6, 9], .S [10], .S [11], .P 12] (by kernel_rfl) (by kernel_rfl) ?_
  iterate 7 (refine wpPs_P rfl rfl (fun K hK => ?_); go_simp; refine hK _ ?_; clear hK K)
  refine wpPs_H ?_
  repeat (refine wpQI_step rfl rfl (fun K hK => ?_); go_simp; first | (refine hK _ ?_; clear hK K))
  refine wpQI_nil ?_
  intro _ hw_
  obtain ⟨⟨dq, osq⟩, hw_⟩ := hw_
  subst hw_
  have hd := below_regrown_drew w dq osq
  generalize Go.Sort.grow (redrawn w.drew _) _ = W6 at *
  clear c0r f0r f1r c0 f0 f1
  replace HOA := Lib.hid (HOA.out.below hd)
  replace HTB := Lib.hid (HTB.out.go (hd.mono HB.out))
  replace HTC := Lib.hid (HTC.out.go hd)
  have HN := Lib.hid (NC.of_below hd)
  have HD := Lib.hid (hd.mono HB.out)
  replace HB := Lib.hid (Nat.le_trans HB.out hd.size); clear hd
  have HC := Lib.hid (mCut_okN (its1 := its1 ++ [.fl (owX 29 (some ⟨g, 0, none⟩) (.pointer (some ⟨gb, 0, none⟩)))]) (its2 := its2) W6 HTB.out (by simpa using HOA.out) HB.out HM.out)
  refine wpPs_S rfl (fun Q' hQ' hL' => ?_)
  go_wp2_with fail
  refine HC.out.mono ?_; rintro e1 W7 ⟨rfl, hp, hd, hn⟩
  replace HOA := Lib.hid (show HP W7 B (its1 ++ dkI g gb r.2 its2) by simpa using hp)
  replace HTC := Lib.hid (HTC.out.below' hd HG.out)
  replace HD := Lib.hid (HD.out.trans hd)
  replace HN := Lib.hid (HN.out.trans hn)
  replace HB := Lib.hid (Nat.le_trans HB.out hd.size); clear hd hn hp HC
  have HT := Lib.hid (told_ok r.1 HE.out W7 HTC.out)
  try go_wp2_with fail
  refine hQ' _ _ ?_; clear hQ' hL' Q'
  refine wpPs_S rfl (fun Q' hQ' hL' => ?_)
  go_wp2_with fail
  refine HT.out.mono ?_; rintro e1 W8 ⟨rfl, hd⟩
  replace HOA := Lib.hid (HOA.out.below hd)
  replace HD := Lib.hid (HD.out.trans (hd.mono HB.out))
  replace HN := Lib.hid (HN.out.trans (NC.of_below hd)); clear hd HT
  try go_wp2_with fail
  refine hQ' _ _ ?_; clear hQ' hL' Q'
  repeat (refine wpPs_P rfl rfl (fun K hK => ?_); go_simp; refine hK _ ?_; clear hK K)
  refine wpPs_nil ?_
  try go_wp2_with fail
  go_ret
  exact ⟨rfl, HOA.out, HD.out, HN.out⟩
def farS (r : Int × Int) : ByteArray := if r.2 = 0 then (if r.1 < 0 then ⟨#[110, 111, 110, 101]⟩ else dec r.1) else tld r.2
set_option maxHeartbeats 4000000 in
theorem dFar_okN {i j : Int} {r : Int × Int} (w : World) (htb : TabB B w) (htc : TyCell w) (h : HP w B (its1 ++ dkI g gb b its2)) (hB : B ≤ w.heap.size) (hr : ReadsI w w.heap.size A [i, j]) (hm : brambleweir_book_Book_Far 300 b.1 i j = some r) (he : (0 ≤ r.2 ∧ r.2 ≤ 6) ∧ r.1 ≤ 1000) :
    Calls Tryz.prog 20 #[.pointer (some ⟨g, 0, none⟩), .slice A 2 cap] w fun e w' => e = .returned (.string (farS r)) ∧ Below w.heap.size w w' := by
  have c0 := h.bx (g := g) (u := .pointer (some ⟨gb, 0, none⟩)) (t := 29) (by simp)
  obtain ⟨g9, o9, eA, hb9, hc9⟩ := hr.2 (show 0 < 2 by decide)
  subst eA
  have f0 : w.cell? ⟨g9, o9, none⟩ = some (.int .i64 i) := hc9 0 _ rfl
  have f1 : w.cell? ⟨g9, o9 + 1, none⟩ = some (.int .i64 j) := hc9 1 _ rfl
  have hrd : ReadsBk w gb b.1 := HP.rdBk (its1 := its1 ++ [.fl (owX 29 (some ⟨g, 0, none⟩) (.pointer (some ⟨gb, 0, none⟩)))]) (its2 := its2) (by simpa using h)
  have HRD := Lib.hid hrd; have HTB := Lib.hid htb; have HTC := Lib.hid htc; have HB := Lib.hid hB; have HM := Lib.hid hm; have HE := Lib.hid he
  clear h htb htc hB hm hr hc9 he hrd
  go_enter Tryz.func20, Tryz.ntmps20
  go_upto_region 1 with (fail)
  have c0r := cell_regrown (w := w.drew) c0
  have f0r := cell_regrown (w := w.drew) f0
  have f1r := cell_regrown (w := w.drew) f1
  refine wp_region_ph [.P 0, .P 1, .P 2, .P 4, .P 5, .P 7, .P 8, .H [3, 6, 9], .S [10], .P 11, .P 12, .P 13, .P 14, .P 15] (by kernel_rfl) (by kernel_rfl) ?_
  iterate 7 (refine wpPs_P rfl rfl (fun K hK => ?_); go_simp; refine hK _ ?_; clear hK K)
  refine wpPs_H ?_
  repeat (refine wpQI_step rfl rfl (fun K hK => ?_); go_simp; first | (refine hK _ ?_; clear hK K))
  refine wpQI_nil ?_
  intro _ hw_
  obtain ⟨⟨dq, osq⟩, hw_⟩ := hw_
  subst hw_
  have hd := below_regrown_drew w dq osq
  generalize Go.Sort.grow (redrawn w.drew _) _ = W6 at *
  clear c0r f0r f1r c0 f0 f1
  have HRD6 := Lib.hid (rdBk hd HRD.out)
  replace HTB := Lib.hid (HTB.out.go (hd.mono HB.out))
  replace HTC := Lib.hid (HTC.out.go hd)
  have HD := Lib.hid hd; clear hd
  have HC := Lib.hid (brambleweir_book_Book_Far_ok W6 HRD6.out HM.out)
  refine wpPs_S rfl (fun Q' hQ' hL' => ?_)
  go_wp2_with fail
  refine HC.out.mono ?_; rintro e1 W7 ⟨rfl, hd⟩
  replace HTB := Lib.hid (HTB.out.go (hd.mono (Nat.le_trans HB.out HD.out.size)))
  replace HTC := Lib.hid (HTC.out.go hd)
  replace HD := Lib.hid (HD.out.trans (hd.mono HD.out.size)); clear hd HC
  try go_wp2_with fail
  refine hQ' _ _ ?_; clear hQ' hL' Q'
  repeat (refine wpPs_P rfl rfl (fun K hK => ?_); go_simp; refine hK _ ?_; clear hK K)
  refine wpPs_nil ?_
  by_cases h0 : r.2 = 0
  · rw [h0, errV_zero]
    by_cases hn : r.1 < 0
    · have hnd := decide_eq_true hn
      go_wp2_with fail
      go_ret
      exact ⟨by unfold farS; rw [if_pos h0, if_pos hn]; rfl, HD.out⟩
    · have hnd := decide_eq_false hn
      have HI := Lib.hid (mItoa_ok (n := r.1) W7 HTB.out.1 (by unfold mItoa; rw [if_pos ⟨by omega, by have := HE.out.2; omega⟩]))
      go_wp2_with fail
      refine HI.out.mono ?_; rintro e1 W8 ⟨rfl, hd⟩
      go_wp2_with fail
      go_ret
      exact ⟨by unfold farS; rw [if_pos h0, if_neg (by omega)]; rfl, HD.out.trans (hd.mono HD.out.size)⟩
  · have HT := Lib.hid (told_ok r.2 HE.out.1 W7 HTC.out)
    rw [errV_pos _ h0] at HT ⊢
    go_wp2_with fail
    refine HT.out.mono ?_; rintro e1 W8 ⟨rfl, hd⟩
    go_wp2_with fail
    go_ret
    exact ⟨by unfold farS; rw [if_neg h0]; rfl, HD.out.trans (hd.mono HD.out.size)⟩
set_option maxHeartbeats 4000000 in
theorem dMany_okN {lo : List (Int × Int)} {n : Nat} (w : World) (htb : TabB B w) (h : HP w B (its1 ++ dkI g gb b its2)) (hB : B ≤ w.heap.size) (hm : brambleweir_book_Book_Lines 300 b.1 = some lo) (hlo : lo.length ≤ 1000) (V : Value) :
    Calls Tryz.prog 21 #[.pointer (some ⟨g, 0, none⟩), V] w fun e w' => e = .returned (.string (dec (lo.length : Int))) ∧ Below w.heap.size w w' := by
  have c0 := h.bx (g := g) (u := .pointer (some ⟨gb, 0, none⟩)) (t := 29) (by simp)
  have hrd : ReadsBk w gb b.1 := HP.rdBk (its1 := its1 ++ [.fl (owX 29 (some ⟨g, 0, none⟩) (.pointer (some ⟨gb, 0, none⟩)))]) (its2 := its2) (by simpa using h)
  have HC := Lib.hid (brambleweir_book_Book_Lines_ok w hrd hm)
  unfold PostG at HC
  have HTB := Lib.hid htb; have HB := Lib.hid hB
  clear h htb hB hm hrd
  go_enter Tryz.func21, Tryz.ntmps21
  go_wp2_with fail
  refine HC.out.mono ?_; rintro e1 W7 ⟨V7, rfl, ho, hd⟩
  obtain ⟨A7, c7, hV, _⟩ := HP.open_L (HP.call (HP.nil (W := w) (B := w.heap.size)) hd (Nat.le_refl _) ho) (List.Mem.head _)
  subst hV
  have HI := Lib.hid (mItoa_ok (n := (lo.length : Int)) W7 (HTB.out.go (hd.mono HB.out)).1 (by unfold mItoa; rw [if_pos ⟨by omega, by omega⟩]))
  have HD := Lib.hid hd; clear hd ho HC
  go_wp2_with fail
  refine HI.out.mono ?_; rintro e1 W8 ⟨rfl, hd⟩
  go_wp2_with fail
  go_ret
  exact ⟨rfl, HD.out.trans (hd.mono HD.out.size)⟩
def fndS (n : Int) : ByteArray := (⟨#[102, 111, 117, 110, 100, 32]⟩ : ByteArray) ++ dec n
theorem Fl.splitA {its1 its2 : List It} {L : List Ow} (h : Fl (its1 ++ its2) L) : ∃ L1 L2, L = L1 ++ L2 ∧ Fl its1 L1 ∧ Fl its2 L2 := by
  cases its2 with
  | nil => rw [List.append_nil] at h; exact ⟨L, [], by simp, h, .nil⟩
  | cons x l => exact Fl.split h
theorem HP.midBk {W : World} {B g : Nat} {its1 its2 : List It} {ms : List Nat} {t : ByteArray} {n : Int} (h : HP W B (.bk g ms t n :: (its1 ++ its2))) : HP W B (its1 ++ .bk g ms t n :: its2) := by
  obtain ⟨L, h1, h2⟩ := h
  cases h2 with
  | @bk _ p V _ _ _ _ L3 hp f2 =>
    obtain ⟨L1, L2, rfl, f1, f3⟩ := Fl.splitA f2
    refine ⟨L1 ++ (owBk g p V ms n :: owU V t :: L2), h1.perm ?_, Fl.join f1 (.bk g hp f3)⟩
    have := (List.perm_append_comm (l₁ := [owBk g p V ms n, owU V t]) (l₂ := L1)).append_right L2
    simpa using this
def CrP (B g : Nat) (its1 its2 : List It) (b : BkT) (r : Int × Int × BkT) (w : World) (e : Ending) (w' : World) : Prop :=
  ∃ gb', e = .returned (.string (if r.1 = 0 then fndS r.2.1 else tld r.1)) ∧ HP w' B (its1 ++ dkI g gb' (if r.1 = 0 then r.2.2 else b) its2) ∧ Below B w w' ∧ NC w w'
set_option maxHeartbeats 4000000 in
theorem dCrash_okN {n : Int} {r : Int × Int × BkT} (w : World) (hop : OpB B w) (htc : TyCell w) (h : HP w B (its1 ++ dkI g gb b its2)) (hB : B ≤ w.heap.size) (hgB : 1 < B) (hl : It.fl (owI (.slice A 1 cap) [n]) ∈ its1) (hn0 : 0 ≤ n) (hbs : b.2.1.size ≤ 1000000)
    (hm : mOpen (b.2.1.extract 0 (min n (b.2.1.size : Int)).toNat) = some r) (he : (0 ≤ r.1 ∧ r.1 ≤ 6) ∧ 0 ≤ r.2.1 ∧ r.2.1 ≤ 1000000) :
    Calls Tryz.prog 22 #[.pointer (some ⟨g, 0, none⟩), .slice A 1 cap] w (CrP B g its1 its2 b r w) := by
  have c0 := h.bx (g := g) (u := .pointer (some ⟨gb, 0, none⟩)) (t := 29) (by simp)
  have HC := Lib.hid (bkText_okN (its1 := its1 ++ [.fl (owX 29 (some ⟨g, 0, none⟩) (.pointer (some ⟨gb, 0, none⟩)))]) (its2 := its2) (b := b) w (by simpa using h) hB)
  have HOP := Lib.hid hop; have HTC := Lib.hid htc; have HB := Lib.hid hB; have HM := Lib.hid hm; have HE := Lib.hid he; have HG := Lib.hid hgB; have HL := Lib.hid hl
  clear h hop htc hB hm he hgB hl
  go_enter Tryz.func22, Tryz.ntmps22
  go_wp2_with fail
  refine HC.out.mono ?_; rintro e1 W7 ⟨rfl, hp, hd, hn⟩
  have HOA := Lib.hid (show HP W7 B (its1 ++ dkI g gb b its2) by simpa using hp)
  replace HOP := Lib.hid (HOP.out.go hd)
  replace HTC := Lib.hid (HTC.out.below' hd HG.out)
  have HN := Lib.hid hn
  have HD := Lib.hid hd
  replace HB := Lib.hid (Nat.le_trans HB.out hd.size); clear hd hn hp HC c0
  have hrd : ReadsI W7 W7.heap.size A [n] := HP.rd_I HOA.out (List.mem_append_left _ HL.out)
  obtain ⟨g9, o9, eA, hb9, hc9⟩ := hrd.2 (show 0 < 1 by decide)
  subst eA
  have f0 : W7.cell? ⟨g9, o9, none⟩ = some (.int .i64 n) := hc9 0 _ rfl
  clear hrd hc9
  obtain ⟨ms, tx, nn⟩ := b
  dsimp only at HM hbs ⊢
  have hmn0 : 0 ≤ min n (tx.size : Int) := by omega
  have hmn1 : min n (tx.size : Int) ≤ (tx.size : Int) := by omega
  have HO := Lib.hid (mOpen_ok W7 (HOP.out.mono HB.out) HM.out)
  go_wp2_with fail
  refine HO.out.mono ?_; rintro e2 W8 ⟨hd, (⟨h0, g2, rfl, hp⟩ | ⟨h0, rfl⟩)⟩
  · have hoa : HP W8 B (bkI g2 r.2.2 :: (its1 ++ dkI g gb (ms, tx, nn) its2)) := HP.callIt HOA.out hd HB.out hp
    replace HOP := Lib.hid (HOP.out.go (hd.mono HB.out))
    replace HN := Lib.hid (HN.out.trans (NC.of_below hd))
    replace HD := Lib.hid (HD.out.trans (hd.mono HB.out))
    replace HB := Lib.hid (Nat.le_trans HB.out hd.size); clear hd hp
    obtain ⟨q0, q1, hp2, hb2⟩ := HP.setBx (its1 := bkI g2 r.2.2 :: its1) (its2 := bkI gb (ms, tx, nn) :: its2) (t := 29) (g := g) (u := .pointer (some ⟨gb, 0, none⟩)) (by exact hoa) (.pointer (some ⟨g2, 0, none⟩))
    have hp3 := hp2.sub (List.Sublist.append (List.Sublist.refl (bkI g2 r.2.2 :: its1)) (.cons₂ _ (.cons _ (List.Sublist.refl its2))))
    have hp4 : HP (W8.setCell ⟨g, 0, none⟩ (.pointer (some ⟨g2, 0, none⟩))) B (its1 ++ dkI g g2 r.2.2 its2) := by
      have := HP.midBk (g := g2) (its1 := its1 ++ [.fl (owX 29 (some ⟨g, 0, none⟩) (.pointer (some ⟨g2, 0, none⟩)))]) (its2 := its2) (by simpa using hp3)
      simpa using this
    have HP4 := Lib.hid hp4
    have HN4 := Lib.hid (HN.out.trans (NC.setCell W8 ⟨g, 0, none⟩ (.pointer (some ⟨g2, 0, none⟩))))
    have HOP4 := Lib.hid (HOP.out.go hb2)
    have HD4 := Lib.hid (HD.out.trans hb2)
    have HB4 := Lib.hid (Nat.le_trans HB.out hb2.size)
    clear hoa hp2 hp3 hp4 hb2
    have hds := dec_le (n := r.2.1) (by have := HE.out.2; omega) (k := 7) (by omega) (by have := HE.out.2; omega)
    have hitm : mItoa r.2.1 = some (dec r.2.1) := by unfold mItoa; rw [if_pos ⟨by have := HE.out.2; omega, by have := HE.out.2; omega⟩]
    have HI := Lib.hid (mItoa_ok (n := r.2.1) (W8.setCell ⟨g, 0, none⟩ (.pointer (some ⟨g2, 0, none⟩))) HOP4.out.tab.1 hitm)
    have HFS := Lib.hid (show fndS r.2.1 = (⟨#[102, 111, 117, 110, 100, 32]⟩ : ByteArray) ++ dec r.2.1 from rfl)
    have HH0 := Lib.hid h0
    generalize dec r.2.1 = y at *
    have hc1 : ¬ (9223372036854775807 < (⟨#[102, 111, 117, 110, 100, 32]⟩ : ByteArray).size + y.size) := by
      have : (⟨#[102, 111, 117, 110, 100, 32]⟩ : ByteArray).size = 6 := rfl
      omega
    have hc2 : ¬ (9223372036854775807 < 6 + y.size) := by omega
    clear hitm hds h0
    go_wp2_with fail
    refine HI.out.mono ?_; rintro e1 W9 ⟨rfl, hd⟩
    go_wp2_with fail
    go_ret
    unfold CrP
    exact ⟨g2, by rw [if_pos HH0.out, HFS.out]; rfl, by rw [if_pos HH0.out]; exact HP4.out.below hd, HD4.out.trans (hd.mono HB4.out), HN4.out.trans (NC.of_below hd)⟩
  · have HH0 := Lib.hid h0
    have hne : r.1 ≠ 0 := h0
    rw [errV_pos _ hne]
    replace HTC := Lib.hid (HTC.out.go hd)
    replace HOA := Lib.hid (HOA.out.below hd)
    replace HN := Lib.hid (HN.out.trans (NC.of_below hd))
    replace HD := Lib.hid (HD.out.trans (hd.mono HB.out))
    replace HB := Lib.hid (Nat.le_trans HB.out hd.size); clear hd
    have HT := Lib.hid (told_ok r.1 HE.out.1 W8 HTC.out)
    rw [errV_pos _ hne] at HT
    clear h0 hne
    go_wp2_with fail
    refine HT.out.mono ?_; rintro e1 W9 ⟨rfl, hd⟩
    go_wp2_with fail
    go_ret
    unfold CrP
    exact ⟨gb, by rw [if_neg HH0.out]; rfl, by rw [if_neg HH0.out]; exact HOA.out.below hd, HD.out.trans (hd.mono HB.out), HN.out.trans (NC.of_below hd)⟩
end
end Go.Proofs.YtecllcpjjllogaaGreatDoor
