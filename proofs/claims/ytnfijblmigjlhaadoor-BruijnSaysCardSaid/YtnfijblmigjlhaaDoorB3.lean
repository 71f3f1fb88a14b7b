import Derived.Test.YtnfijblmigjlhaaDoorB2
set_option linter.all false
set_option maxRecDepth 100000
namespace Go.Proofs.YtnfijblmigjlhaaDoor
open Go.RowKit Pl
abbrev pargs (B : Nat) (t p : Nat) : Array Value := #[.int .i64 t, .int .i64 p, .pointer (some ⟨B+1, 0, none⟩), .pointer (some ⟨B+4, 0, none⟩), .pointer (some ⟨B+3, 0, none⟩), .pointer (some ⟨B+5, 0, none⟩), .pointer (some ⟨B, 0, none⟩)]
def PutSays (s l m : Nat) : Prop := ∀ (t p B : Nat) (w : World) (word out : List Int), RSt w B s l word out → InR s l word → t + m = l + 1 → 1 ≤ t → 1 ≤ p → p ≤ t → p ≤ l → out.length + 7 * 3 ^ m ≤ 1000000 →
  Calls Tryd.prog 17 #[.int .i64 t, .int .i64 p, .pointer (some ⟨B+1, 0, none⟩), .pointer (some ⟨B+4, 0, none⟩), .pointer (some ⟨B+3, 0, none⟩), .pointer (some ⟨B+5, 0, none⟩), .pointer (some ⟨B, 0, none⟩)] w
      fun e w' => e = .returned (.tuple #[]) ∧ RSt w' B s l (putM s l m t p (word, out)).1 (putM s l m t p (word, out)).2 ∧ Below B w w'
/-- with the arguments as the walk spells them -/
theorem PutSays.at_ {s l m : Nat} (h : PutSays s l m) (t' p' : Int) (t p B : Nat) (w : World) (word out : List Int) (ht' : t' = t) (hp' : p' = p) (hR : RSt w B s l word out) (hI : InR s l word) (htm : t + m = l + 1) (ht : 1 ≤ t) (hp : 1 ≤ p) (hpt : p ≤ t) (hpl : p ≤ l) (ho : out.length + 7 * 3 ^ m ≤ 1000000) :
  Calls Tryd.prog 17 #[.int .i64 t', .int .i64 p', .pointer (some ⟨B+1, 0, none⟩), .pointer (some ⟨B+4, 0, none⟩), .pointer (some ⟨B+3, 0, none⟩), .pointer (some ⟨B+5, 0, none⟩), .pointer (some ⟨B, 0, none⟩)] w
      fun e w' => e = .returned (.tuple #[]) ∧ RSt w' B s l (putM s l m t p (word, out)).1 (putM s l m t p (word, out)).2 ∧ Below B w w' := by
  subst ht' hp'; exact h t p B w word out hR hI htm ht hp hpt hpl ho
set_option maxHeartbeats 1000000 in
theorem put_any (s l : Nat) (hs3 : s ≤ 3) (hl6 : l ≤ 6) : ∀ m, PutSays s l m := by
  intro m
  induction m with
  | zero =>
    intro t p B w word out h hI ht ht1 hp1 hpt hpl hlen
    exact put_zero s l t p B w word out h hl6 (by omega) hp1 hpl hI.1 (by omega)
  | succ m ih =>
    intro t p B w word out h hI ht ht1 hp1 hpt hpl hlen
    obtain ⟨x0, x1, x2⟩ := hI.at_ (t := t - p) (by omega)
    have ok1 := put_ok s l m (t+1) p (word.set t (word.getD (t-p) 0), out) (hI.set ⟨x0, x1⟩) hl6 hs3 (by omega) (by omega) hp1
    have hpow : Hid (3 ^ (m + 1) = 3 * 3 ^ m) := by show _ = _; rw [Nat.pow_succ]; omega
    have hlen2 : out.length + 21 * 3 ^ m ≤ 1000000 := by have := hpow.out; rw [this] at hlen; omega
    have HM : Hid (putM s l (m+1) t p (word, out) = putL (fun q st => putM s l m (t+1) q st) t (s - (((putM s l m (t+1) p (word.set t (word.getD (t-p) 0), out)).1.getD (t-p) 0).toNat + 1)) (((putM s l m (t+1) p (word.set t (word.getD (t-p) 0), out)).1.getD (t-p) 0).toNat + 1) (putM s l m (t+1) p (word.set t (word.getD (t-p) 0), out))) := rfl
    have hR1 := (h.setW t (word.getD (t-p) 0)).drew
    have H1 := Lib.hid (ih.at_ ((t : Int) + 1) p (t+1) p B _ _ _ (by omega) rfl hR1 (hI.set ⟨x0, x1⟩) (by omega) (by omega) hp1 (by omega) hpl (by omega))
    generalize hst : putM s l m (t+1) p (word.set t (word.getD (t-p) 0), out) = st1 at *
    generalize word.getD (t-p) 0 = x at *
    have HI := Lib.hid hI; have H := Lib.hid h
    have c1 := cl h.hl; have c3 := cl h.hw; have c5 := cl h.hp
    have cd := cld h.hd x2
    have ct : ∃ y, w.cell? ⟨B+2, t, none⟩ = some y := by
      obtain ⟨_, _, y2⟩ := hI.at_ (t := t) (by omega)
      exact ⟨_, cld h.hd y2⟩
    obtain ⟨y, cty⟩ := ct
    have ft : w.frozen? ⟨B+2, t, none⟩ = false := fz h.hd
    obtain ⟨okI, okL⟩ := ok1
    have c5' := cl hR1.hp
    have c3' := cl hR1.hw
    unfold putV at c5 c5'
    have HR1 := Lib.hid hR1
    have HST := Lib.hid hst
    have HT := Lib.hid ht
    clear hst hR1 h hI ht x2
    have htl : ¬ ((l : Int) < t) := by have := HT.out; omega
    have htl2 : (t : Int) ≤ l := by omega
    have e1 : IntKind.i64.wrap ((t : Int) - p) = (t : Int) - p := IntWalk.i64_in _ (by omega)
    have e2 : (0 : Int) ≤ (t : Int) - p := by omega
    have e3 : ((t : Int) - p).toNat = t - p := by omega
    have e4 : ((t : Int) - p) < (l : Int) + 1 := by omega
    have e5 : (t : Int) < (l : Int) + 1 := by omega
    go_enter Tryd.func17, Tryd.ntmps17
    go_wp2
    go_still_tail 9, (by kernel_rfl)
    clear e4 e5
    change wpList _ _ _ _ _ w.drew
    go_wp2_with fail
    refine H1.out.mono ?_; rintro e w1 ⟨rfl, hR, hB⟩
    have HB1 : Hid (Below B w w1) := by
      have hlt := H.out.lt
      exact (((Below.refl B w).setCell (p := ⟨B+2, t, none⟩) (by simp) (.int .i64 x)).drew.trans hB)
    obtain ⟨z0, z1, z2⟩ := okI.at_ (t := t - p) (by omega)
    have d3 := cl hR.hw
    have dd := cld hR.hd z2
    have HR := Lib.hid hR; have HOK := Lib.hid okI
    clear hR hB z2 c1 c3 cd cty c5 c5' c3' ft okI
    generalize hz : st1.1.getD (t - p) 0 = z at *
    have HZ := Lib.hid hz; clear hz
    have e4 : ((t : Int) - p) < (l : Int) + 1 := by omega
    clear e1
    go_wp2_with fail
    go_loopw [9] (fun kk wr => ∃ (k i : Nat) (st : List Int × List Int), k + i = s ∧ 1 ≤ k ∧ kk = .int .i64 k ∧ RSt wr B s l st.1 st.2 ∧ InR s l st.1 ∧ st.2.length ≤ st1.2.length + (k - 1) * (7 * 3 ^ m) ∧
        putL (fun q st => putM s l m (t+1) q st) t i k st = putL (fun q st => putM s l m (t+1) q st) t (s - (z.toNat + 1)) (z.toNat + 1) st1 ∧ Below B w wr) (fun kk _ => s - (intOf kk).toNat)
    case atStart => exact ⟨z.toNat + 1, s - (z.toNat + 1), st1, by omega, by omega, by go_num, HR.out, HOK.out, by omega, rfl, HB1.out⟩
    case round =>
      obtain ⟨k, i, st, hk, hk1, rfl, hR, hI, hL, hP, hB⟩ := hrel
      have a3 := cl hR.hw
      have a1 := cl hR.hs
      have a5 := cl hR.hp
      unfold putV at a5
      have f2 : wr.frozen? ⟨B+2, t, none⟩ = false := fz hR.hd
      obtain ⟨_, _, y2⟩ := hI.at_ (t := t) (by omega)
      have a2 := cld hR.hd y2
      clear y2
      have HP := Lib.hid hP; have HK := Lib.hid hk
      by_cases hlt : k < s
      · obtain ⟨i, rfl⟩ : ∃ j, i = j + 1 := ⟨i - 1, by omega⟩
        have ok2 := put_ok s l m (t+1) t (st.1.set t (k : Int), st.2) (hI.set (by omega)) hl6 hs3 (by have := HT.out; omega) (by omega) (by omega)
        have hR2 := hR.setW t (k : Int)
        have hk3 : (k - 1) * (7 * 3 ^ m) ≤ 1 * (7 * 3 ^ m) := Nat.mul_le_mul_right _ (by omega)
        have hk4 : Hid (k * (7 * 3 ^ m) = (k - 1) * (7 * 3 ^ m) + 7 * 3 ^ m) := by show _ = _; rw [← Nat.succ_mul]; congr 1; omega
        have b5 := cl hR2.hp
        unfold putV at b5
        have H2 := Lib.hid (ih.at_ ((t : Int) + 1) t (t+1) t B _ _ _ (by omega) rfl hR2 (hI.set (by omega)) (by have := HT.out; omega) (by omega) (by omega) (by omega) (by omega) (by have := okL; simp only at *; omega))
        have e5 : (t : Int) < (l : Int) + 1 := by omega
        have OK2 := Lib.hid ok2
        clear hP hk ok2 hR hI hR2
        have hltz : (k : Int) < s := by omega
        go_wp2_with fail
        refine H2.out.mono ?_; rintro e w2 ⟨rfl, hR3, hB3⟩
        have HR3 := Lib.hid hR3
        have HB3 := Lib.hid (hB.trans (((Below.refl B wr).setCell (p := ⟨B+2, t, none⟩) (by simp) (.int .i64 k)).trans hB3))
        clear hR3 hB3
        go_wp2_with fail
        go_roundw
        case rel => exact ⟨k + 1, i, _, by have := HK.out; omega, by omega, by go_num, HR3.out, OK2.out.1, by have := OK2.out.2; rw [show k + 1 - 1 = k from rfl, hk4.out]; omega, HP.out, HB3.out⟩
        case measure => simp [intOf] <;> omega
      · obtain rfl : i = 0 := by omega
        have hltz : (s : Int) ≤ k := by omega
        clear hP hk
        go_wp2_with fail
        go_end0
        refine ⟨rfl, ?_, hB⟩
        rw [HM.out, ← HP.out]; exact hR
end Go.Proofs.YtnfijblmigjlhaaDoor
