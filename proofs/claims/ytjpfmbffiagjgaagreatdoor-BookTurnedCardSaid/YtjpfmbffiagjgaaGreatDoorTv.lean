import Derived.Test.YtjpfmbffiagjgaaGreatDoorTu
import Derived.Test.YtjpfmbffiagjgaaGreatDoorBW
import Derived.Test.YtjpfmbffiagjgaaGreatDoorPhI
import Derived.Laws.IdiomStrings
/- BookTurned -/
set_option linter.all false
set_option maxRecDepth 100000
namespace Go.Proofs.YtjpfmbffiagjgaaGreatDoor
open Go.RowKit Go.Shelf Pl
set_option maxHeartbeats 8000000 in
theorem turned_walk {b bo : BkT} {m i' : Nat} {er : Int} {c cx : UInt8} {steps : List (List Int)} {A : Option Addr} {cap : Nat} (w : World) (hop : OpB w.heap.size w) (htc : TyCell w) (hr : ReadsR w w.heap.size A steps) (hsl : steps.length ≤ maxLen)
    (hp : L4_put 300 steps = some b) (hi : i' < b.2.1.size) (hb2 : b.2.1.size ≤ 1000000) (hcx : b.2.1[i'] = cx) (h10 : cx ≠ 10) (hc : c ≠ 10) (hne : cx ≠ c) (hm : m = (b.2.1.data.toList.take i').count 10) (hm70 : m ≤ 70)
    (ho : mOpen ((b.2.1.extract 0 i' ++ ⟨#[c]⟩) ++ b.2.1.extract (i' + 1) b.2.1.size) = some (er, ((m + 1 : Nat) : Int), bo)) (her : er = 2 ∨ er = 6) :
    Calls Tryz.prog 4 #[.slice A steps.length cap, .int .i64 (i' : Int), .int .u8 (c.toNat : Int)] w fun e w' => e = .returned (.bool true) ∧ Below w.heap.size w w' := by
  have HOP := Lib.hid hop; clear hop
  have HTC := Lib.hid htc; clear htc
  have HR := Lib.hid hr; clear hr
  have HP0 := Lib.hid hp; have HO := Lib.hid ho; have HER := Lib.hid her
  have HMM := Lib.hid hm; have HM70 := Lib.hid hm70
  clear hp ho hm hm70 her
  have HD := Lib.hid (Below.refl w.heap.size w)
  go_enter Tryz.func4, Tryz.ntmps4
  go_wp2_with fail
  refine (bookFactM_ok w HOP.out.tab.1 rfl).mono ?_; rintro e1 W1 ⟨rfl, hd⟩
  replace HOP := Lib.hid (HOP.out.go hd)
  replace HD := Lib.hid (HD.out.trans hd); clear hd
  go_wp2_with fail
  refine (L4_put_ok W1 HOP.out.tab.1 cap (rdR HD.out HR.out) HP0.out).mono ?_; rintro e2 W2 ⟨g, rfl, hp, hd⟩
  have HOA := Lib.hid (HP.callIt (its := []) HP.nil hd HD.out.size hp)
  replace HOP := Lib.hid (HOP.out.go (hd.mono HD.out.size))
  replace HD := Lib.hid (HD.out.trans (hd.mono HD.out.size)); clear hd hp
  go_wp2_with fail
  refine (bkText_ok (its1 := []) W2 HOA.out HD.out.size).mono ?_; rintro e3 W3 ⟨rfl, hp, hd⟩
  replace HOP := Lib.hid (HOP.out.go hd)
  replace HD := Lib.hid (HD.out.trans hd); clear hd hp HOA
  generalize htx : b.2.1 = tx at *
  have hd1 := decide_eq_false (show ¬ (i' : Int) < 0 by omega)
  have hd2 := decide_eq_false (show ¬ (tx.size : Int) ≤ (i' : Int) by omega)
  have fx0 : tx[i']? = some cx := by rw [getElem?_pos tx i' hi, hcx]
  have u10 : ∀ {x : UInt8}, x ≠ 10 → ((x.toNat : Int) == 10) = false := fun {x} q => by
    rw [beq_eq_false_iff_ne]; intro e
    exact q (UInt8.toNat_inj.1 (by show x.toNat = 10; omega))
  have q1 := u10 h10
  have q2 := u10 hc
  have q3 : ((cx.toNat : Int) == (c.toNat : Int)) = false := by
    rw [beq_eq_false_iff_ne]; intro e
    exact hne (UInt8.toNat_inj.1 (by omega))
  clear u10
  go_wp2_with fail
  go_loopg [9, 10] (i' + 1) (fun gg u9 uA wr => ∃ (k : Nat), uA = .int .i64 (k : Int) ∧ u9 = .int .i64 ((((tx.data.toList.take k).count 10 + 1 : Nat)) : Int) ∧ Hid (k ≤ i' ∧ gg = i' + 1 - k) ∧ wr = W3)
  case atStart => exact ⟨0, rfl, by rw [List.take_zero]; rfl, Lib.hid ⟨by omega, by omega⟩, rfl⟩
  case round =>
    obtain ⟨k, rfl, rfl, hk, rfl⟩ := hrel
    obtain ⟨hkn, hkg⟩ := hk.out
    by_cases hlt : (k : Int) < (i' : Int)
    · have hkt : k < tx.size := by omega
      have hcd := decide_eq_true hlt
      have hkl : k < tx.data.toList.length := by rw [bytes_len]; exact hkt
      have hcnt : ((tx.data.toList.take (k + 1)).count 10 : Nat) = (tx.data.toList.take k).count 10 + (if tx[k] = 10 then 1 else 0) := by
        rw [List.take_succ_eq_append_getElem hkl, List.count_append]
        congr 1
        have e : tx.data.toList[k] = tx[k] := by simp [ByteArray.getElem_eq_getElem_data]
        rw [e, List.count_singleton]
        by_cases q : tx[k] = 10
        · rw [if_pos (by simp [q]), if_pos q]
        · rw [if_neg (by simp [q]), if_neg q]
      have hle : (tx.data.toList.take k).count 10 ≤ k := by
        have := List.count_le_length (a := (10 : UInt8)) (l := tx.data.toList.take k)
        rw [List.length_take] at this; omega
      have fx : tx[k]? = some tx[k] := getElem?_pos tx k hkt
      generalize hcn : (tx.data.toList.take k).count 10 = cn at *
      generalize hck : tx[k] = ck at *
      have fxt : ∃ h : k < tx.size, tx[k] = ck := ⟨hkt, hck⟩
      have HCN := Lib.hid hcnt; clear hcnt fxt
      by_cases q : ck = 10
      · have hqb : ((ck.toNat : Int) == 10) = true := by rw [q]; rfl
        go_wp2_with fail
        go_roundg (i' + 1 - (k + 1))
        case measure => omega
        case rel => exact ⟨k + 1, by go_num, by rw [HCN.out, if_pos q]; go_num, Lib.hid ⟨by omega, by omega⟩, rfl⟩
      · have hqb : ((ck.toNat : Int) == 10) = false := by
          rw [beq_eq_false_iff_ne]
          intro e
          exact q (UInt8.toNat_inj.1 (by show ck.toNat = 10; omega))
        go_wp2_with fail
        go_roundg (i' + 1 - (k + 1))
        case measure => omega
        case rel => exact ⟨k + 1, by go_num, by rw [HCN.out, if_neg q, Nat.add_zero], Lib.hid ⟨by omega, by omega⟩, rfl⟩
    · have hke : k = i' := by omega
      subst hke
      have hcd := decide_eq_false hlt
      rw [← HMM.out]
      have HI := Lib.hid hi; have HB2 := Lib.hid hb2
      have hsl1 : (k : Int) ≤ (tx.size : Int) := by omega
      have hkw : wrap64 ((k : Int) + 1) = ((k + 1 : Nat) : Int) := by unfold wrap64; omega
      have hsl : 0 ≤ wrap64 ((k : Int) + 1) ∧ wrap64 ((k : Int) + 1) ≤ (tx.size : Int) := by rw [hkw]; omega
      have hsl2 : 0 ≤ IntKind.i64.wrap ((k : Int) + 1) ∧ IntKind.i64.wrap ((k : Int) + 1) ≤ (tx.size : Int) := by rw [IntKind.wrap_i64]; omega
      have hxt : tx.extract (IntKind.i64.wrap ((k : Int) + 1)).toNat tx.size = tx.extract (k + 1) tx.size := by
        rw [show (IntKind.i64.wrap ((k : Int) + 1)).toNat = k + 1 by rw [IntKind.wrap_i64]; omega]
      have HXT := Lib.hid hxt
      clear hk hkn hkg hlt q1 q2 q3 hd1 hd2 h10 hc hne fx0 hxt
      go_upto_region 13 with (fail)
      refine wp_region_ph [.P 0, .P 1, .P 2, .P 3, .P 7, .P 8, .P 9, .P 10, .S [4], .S [5], .P 6, .P 11, .S [12], .P 13, .P 14, .P 15, .P 16, .P 17, .P 18, .P 19] (by kernel_rfl) (by kernel_rfl) ?_
      iterate 8 (refine wpPs_P rfl rfl (fun K hK => ?_); go_simp; refine hK _ ?_; clear hK K)
      rw [HXT.out]
      have hcv : (Go.convert 40 9 (.slice (some ⟨wr.heap.size, 0, none⟩) 1 1)).run Tryz.prog (wr.alloc (.cells #[.int .u8 (c.toNat : Int)] 5)).drew = .ok (.string ⟨#[c]⟩) (wr.alloc (.cells #[.int .u8 (c.toNat : Int)] 5)).drew := by
        have := run_convert_bytes_back (P := Tryz.prog) (wr.alloc (.cells #[.int .u8 (c.toNat : Int)] 5)).drew 40 9 5 ⟨wr.heap.size, 0, none⟩ 1 [c] Tryz.underlying40 Tryz.underlying5 Tryz.underlying9 (fun j hj => by
          have : j = 0 := by simpa using hj
          subst this
          have := heap_alloc_new wr (.cells #[.int .u8 (c.toNat : Int)] 5)
          exact (Lib.cell_of_heap (w := (wr.alloc (.cells #[.int .u8 (c.toNat : Int)] 5)).drew) this 0).trans rfl)
        exact this
      have hal : Below w.heap.size wr (wr.alloc (.cells #[.int .u8 (c.toNat : Int)] 5)).drew := ((Below.refl _ _).alloc HD.out.size _).trans ((Dr.one _).below _)
      replace HOP := Lib.hid (HOP.out.go hal)
      replace HD := Lib.hid (HD.out.trans hal); clear hal
      iterate 2 (refine wpPs_S rfl (fun Q' hQ' hL' => ?_); (try go_wp2_with fail); refine hQ' _ _ ?_; clear hQ' hL' Q')
      have y1 : (tx.extract 0 k).size ≤ 1000000 := by rw [ByteArray.size_extract]; omega
      have y2 : (tx.extract (k + 1) tx.size).size ≤ 1000000 := by rw [ByteArray.size_extract]; omega
      clear HXT
      generalize tx.extract 0 k = x1 at *
      generalize tx.extract (k + 1) tx.size = x2 at *
      have z1 : ¬ (9223372036854775807 < x1.size + 1) := by omega
      have z2 : ¬ (9223372036854775807 < x1.size + 1 + x2.size) := by omega
      clear y1 y2
      iterate 2 (refine wpPs_P rfl rfl (fun K hK => ?_); go_simp; refine hK _ ?_; clear hK K)
      clear z1 z2 hcv
      generalize World.drew (World.alloc wr _) = W4 at *
      refine wpPs_S rfl (fun Q' hQ' hL' => ?_)
      go_wp2_with fail
      refine (mOpen_ok W4 (HOP.out.mono HD.out.size) HO.out).mono ?_; rintro e4 W5 ⟨hd, (⟨h0, _⟩ | ⟨_, rfl⟩)⟩
      · exfalso
        rcases HER.out with h | h <;> (rw [h] at h0; cases h0)
      replace HOP := Lib.hid (HOP.out.go (hd.mono HD.out.size))
      replace HD := Lib.hid (HD.out.trans (hd.mono HD.out.size)); clear hd
      try go_wp2_with fail
      refine hQ' _ _ ?_; clear hQ' hL' Q'
      iterate 7 (refine wpPs_P rfl rfl (fun K hK => ?_); go_simp; refine hK _ ?_; clear hK K)
      refine wpPs_nil ?_
      have hmm : (((m + 1 : Nat) : Int) == (m : Int) + 1) = true := by rw [beq_iff_eq]; omega
      by_cases h2 : er = 2
      · subst h2
        have HE := Lib.hid (mErr_ok (c := 2) (k := 2) (r := true) W5 (HTC.out.go HD.out) rfl)
        go_wp2_with fail
        refine HE.out.mono ?_; rintro e6 W6 ⟨rfl, hd⟩
        replace HD := Lib.hid (HD.out.trans (hd.mono HD.out.size)); clear hd
        go_wp2_with fail
        go_ret
        exact ⟨rfl, HD.out⟩
      · have h6 : er = 6 := HER.out.resolve_left h2
        subst h6
        have HE := Lib.hid (mErr_ok (c := 6) (k := 2) (r := false) W5 (HTC.out.go HD.out) rfl)
        go_wp2_with fail
        refine HE.out.mono ?_; rintro e6 W6 ⟨rfl, hd⟩
        replace HD := Lib.hid (HD.out.trans (hd.mono HD.out.size)); clear hd
        have HE := Lib.hid (mErr_ok (c := 6) (k := 6) (r := true) W6 (HTC.out.go HD.out) rfl)
        go_wp2_with fail
        refine HE.out.mono ?_; rintro e6 W7 ⟨rfl, hd⟩
        replace HD := Lib.hid (HD.out.trans (hd.mono HD.out.size)); clear hd
        go_wp2_with fail
        go_ret
        exact ⟨rfl, HD.out⟩
set_option maxHeartbeats 4000000 in
theorem turned_out {b : BkT} {i : Int} {c : UInt8} {steps : List (List Int)} {A : Option Addr} {cap : Nat} (w : World) (hop : OpB w.heap.size w) (hr : ReadsR w w.heap.size A steps) (hp : L4_put 300 steps = some b) (hb2 : b.2.1.size ≤ 1000000)
    (hn : i < 0 ∨ (b.2.1.size : Int) ≤ i ∨ ∃ (k : Nat) (h : k < b.2.1.size), i = (k : Int) ∧ (b.2.1[k] = 10 ∨ c = 10 ∨ b.2.1[k] = c)) :
    Calls Tryz.prog 4 #[.slice A steps.length cap, .int .i64 i, .int .u8 (c.toNat : Int)] w fun e w' => e = .returned (.bool true) ∧ Below w.heap.size w w' := by
  have HOP := Lib.hid hop; clear hop
  have HR := Lib.hid hr; clear hr
  have HP0 := Lib.hid hp; clear hp
  have HN := Lib.hid hn; clear hn
  have HB2 := Lib.hid hb2; clear hb2
  have HD := Lib.hid (Below.refl w.heap.size w)
  go_enter Tryz.func4, Tryz.ntmps4
  go_wp2_with fail
  refine (bookFactM_ok w HOP.out.tab.1 rfl).mono ?_; rintro e1 W1 ⟨rfl, hd⟩
  replace HOP := Lib.hid (HOP.out.go hd)
  replace HD := Lib.hid (HD.out.trans hd); clear hd
  go_wp2_with fail
  refine (L4_put_ok W1 HOP.out.tab.1 cap (rdR HD.out HR.out) HP0.out).mono ?_; rintro e2 W2 ⟨g, rfl, hp, hd⟩
  have HOA := Lib.hid (HP.callIt (its := []) HP.nil hd HD.out.size hp)
  replace HD := Lib.hid (HD.out.trans (hd.mono HD.out.size)); clear hd hp
  go_wp2_with fail
  refine (bkText_ok (its1 := []) W2 HOA.out HD.out.size).mono ?_; rintro e3 W3 ⟨rfl, hp, hd⟩
  replace HD := Lib.hid (HD.out.trans hd); clear hd hp HOA
  generalize htx : b.2.1 = tx at *
  have hz := HB2.out
  by_cases h0 : i < 0
  · have hd1 := decide_eq_true h0
    go_wp2_with fail
    go_ret
    exact ⟨rfl, HD.out⟩
  have hd1 := decide_eq_false h0
  by_cases h1 : (tx.size : Int) ≤ i
  · have hd2 := decide_eq_true h1
    go_wp2_with fail
    go_ret
    exact ⟨rfl, HD.out⟩
  have hd2 := decide_eq_false h1
  obtain ⟨k, hk, rfl, hq⟩ := (HN.out.resolve_left h0).resolve_left h1
  have fx0 : tx[k]? = some tx[k] := getElem?_pos tx k hk
  generalize hcx : tx[k] = cx at *
  have HK := Lib.hid hk; have HQ := Lib.hid hq
  clear hq h0 h1
  by_cases q1 : cx = 10
  · have q1b : ((cx.toNat : Int) == 10) = true := by rw [q1]; rfl
    clear HN
    go_wp2_with fail
    go_ret
    exact ⟨rfl, HD.out⟩
  have q1b : ((cx.toNat : Int) == 10) = false := by
    rw [beq_eq_false_iff_ne]; intro e
    exact q1 (UInt8.toNat_inj.1 (by show cx.toNat = 10; omega))
  by_cases q2 : c = 10
  · have q2b : ((c.toNat : Int) == 10) = true := by rw [q2]; rfl
    clear HN
    go_wp2_with fail
    go_ret
    exact ⟨rfl, HD.out⟩
  have q2b : ((c.toNat : Int) == 10) = false := by
    rw [beq_eq_false_iff_ne]; intro e
    exact q2 (UInt8.toNat_inj.1 (by show c.toNat = 10; omega))
  have q3 : cx = c := (HQ.out.resolve_left q1).resolve_left q2
  have q3b : ((cx.toNat : Int) == (c.toNat : Int)) = true := by rw [q3]; simp
  clear HN q3 q1 q2
  go_wp2_with fail
  go_ret
  exact ⟨rfl, HD.out⟩
theorem u8_of {c : Int} (h : (Lit.int .u8 c).wf = true) : ∃ b : UInt8, c = (b.toNat : Int) := by
  have hb : 0 ≤ c ∧ c ≤ 255 := by
    simp only [Lit.wf, IntKind.min, IntKind.max, IntKind.signed, IntKind.bits, Bool.and_eq_true, decide_eq_true_eq] at h
    simpa using h
  refine ⟨UInt8.ofNat c.toNat, ?_⟩
  rw [UInt8.toNat_ofNat']; omega
theorem bookTurned_any (w : World) (hop : OpB w.heap.size w) (htc : TyCell w) (A : Option Addr) (cap : Nat) (l : List (List Int)) (hr : ReadsR w w.heap.size A l ∧ l.length ≤ maxLen ∧ ∀ x ∈ l, x.length ≤ maxLen ∧ ∀ n ∈ x, (Lit.int .i64 n).wf = true) (i : Int) (_ : (Lit.int .i64 i).wf = true) (c : Int) (hc : (Lit.int .u8 c).wf = true) :
    Calls Tryz.prog 4 #[.slice A l.length cap, .int .i64 i, .int .u8 c] w fun e w' => e = .returned (.bool true) ∧ Below w.heap.size w w' := by
  obtain ⟨g1, g2⟩ := goH_run (l.take 70) newB new_inv
  have hb2 : (goH (l.take 70) newB).2.2.1.size ≤ 1000000 := by have := g2.ok.2.1; omega
  obtain ⟨c, rfl⟩ := u8_of hc
  by_cases h0 : i < 0
  · exact turned_out w hop hr.1 (put_goH l) hb2 (.inl h0)
  by_cases h1 : (((goH (l.take 70) newB).2.2.1.size : Nat) : Int) ≤ i
  · exact turned_out w hop hr.1 (put_goH l) hb2 (.inr (.inl h1))
  obtain ⟨k, rfl⟩ := Int.eq_ofNat_of_zero_le (show 0 ≤ i by omega)
  have hk : k < (goH (l.take 70) newB).2.2.1.size := by omega
  have hget : (goH (l.take 70) newB).2.2.1.data.toList[k]? = some (goH (l.take 70) newB).2.2.1[k] := by
    have hkl : k < (goH (l.take 70) newB).2.2.1.data.toList.length := by rw [bytes_len]; exact hk
    rw [List.getElem?_eq_getElem hkl]
    simp [ByteArray.getElem_eq_getElem_data]
  by_cases h2 : (goH (l.take 70) newB).2.2.1[k] = 10 ∨ c = 10 ∨ (goH (l.take 70) newB).2.2.1[k] = c
  · exact turned_out w hop hr.1 (put_goH l) hb2 (.inr (.inr ⟨k, hk, rfl, h2⟩))
  · have n1 : (goH (l.take 70) newB).2.2.1[k] ≠ 10 := fun e => h2 (.inl e)
    have n2 : c ≠ 10 := fun e => h2 (.inr (.inl e))
    have n3 : (goH (l.take 70) newB).2.2.1[k] ≠ c := fun e => h2 (.inr (.inr e))
    obtain ⟨er, m, bo, t1, t2, t3, t4⟩ := turned_facts l (i := k) (c := c) (t := ((goH (l.take 70) newB).2.2.1.extract 0 k ++ ⟨#[c]⟩) ++ (goH (l.take 70) newB).2.2.1.extract (k + 1) (goH (l.take 70) newB).2.2.1.size) hk
      (by rw [hget]; intro e; exact n1 (Option.some.inj e)) n2 (by rw [hget]; intro e; exact n3 (Option.some.inj e)) (by
        rw [show ∀ a b : ByteArray, (a ++ b).data.toList = a.data.toList ++ b.data.toList from fun a b => by simp, show ∀ a b : ByteArray, (a ++ b).data.toList = a.data.toList ++ b.data.toList from fun a b => by simp, Lib.extract_data, Lib.extract_data, List.drop_zero, Nat.sub_zero, List.append_assoc]
        congr 1
        show c :: _ = _
        congr 1
        rw [List.take_of_length_le (by rw [List.length_drop, bytes_len]; exact Nat.le_refl _)]
        rfl)
    exact turned_walk w hop htc hr.1 hr.2.1 (put_goH l) hk hb2 rfl n1 n2 n3 t2 t3 t4 t1
end Go.Proofs.YtjpfmbffiagjgaaGreatDoor
