import Derived.Test.YthmfgnpkbcbkcaaDoorTn
import Derived.Test.YthmfgnpkbcbkcaaDoorBW
import Derived.Test.YthmfgnpkbcbkcaaDoorPhI
/- BookTorn -/
set_option linter.all false
set_option maxRecDepth 100000
namespace Go.Proofs.YthmfgnpkbcbkcaaDoor
open Go.RowKit Go.Shelf Pl
theorem wpCs_UK {P : Program} {ops : Array Oper} {C : World → Prop} {R : Act → World → Prop} {ps : List PC} {a : Act} {w : World} {i : Nat} {o : Oper} (ho : ops[i]? = some o) (hw : Region.wanted o (yielded ops a.tmps) = false)
    (h : ∀ K : Act → Prop, (∀ a, QHid (wpCs P ops C R ps a w) → K a) → K (a.put o.dst undef)) : QHid (wpCs P ops C R (.P i :: ps) a w) := wpCs_U ho hw (h _ fun _ h => h)
set_option maxHeartbeats 8000000 in
theorem torn_walk {b bo : BkT} {m n' : Nat} {lo : List (Int × Int)} {steps : List (List Int)} {A : Option Addr} {cap : Nat} (w : World) (hop : OpB w.heap.size w) (hr : ReadsR w w.heap.size A steps) (hsl : steps.length ≤ maxLen)
    (hp : L4_put 300 steps = some b) (hn : n' ≤ b.2.1.size) (hb2 : b.2.1.size ≤ 1000000) (hm : m = (b.2.1.data.toList.take n').count 10) (ho : mOpen (b.2.1.extract 0 n') = some (0, (m : Int), bo))
    (ht : tornM m (steps.take 70) newB 0 = (bo, m)) (hI : BInv bo) (hl : brambleweir_book_Book_Lines 300 bo.1 = some lo) (hs : SE_Lines 300 lo lo = some true) (hz : bo.2.1.size ≤ n') (hmn : m ≤ n') :
    Calls Tryd.prog 5 #[.slice A steps.length cap, .int .i64 (n' : Int)] w fun e w' => e = .returned (.bool true) ∧ Below w.heap.size w w' := by
  have HOP := Lib.hid hop; clear hop
  have HR := Lib.hid hr; clear hr
  have HP0 := Lib.hid hp; have HO := Lib.hid ho; have HL := Lib.hid hl; have HS := Lib.hid hs; have HT := Lib.hid ht; have HIO := Lib.hid hI
  have HMM := Lib.hid hm; have HMN := Lib.hid hmn; have HZ := Lib.hid hz
  clear hp ho hl hs ht hI hm hmn hz
  have HD := Lib.hid (Below.refl w.heap.size w)
  have hself : (bo.2.1.toList == bo.2.1.toList) = true := beq_self_eq_true _
  go_enter Tryd.func5, Tryd.ntmps5
  go_wp2_with fail
  refine (bookFactM_ok w HOP.out.tab.1 rfl).mono ?_; rintro e1 W1 ⟨rfl, hd⟩
  replace HOP := Lib.hid (HOP.out.go hd)
  replace HD := Lib.hid (HD.out.trans hd); clear hd
  go_wp2_with fail
  refine (L4_put_ok W1 HOP.out.tab.1 cap (rdR HD.out HR.out) HP0.out).mono ?_; rintro e2 W2 ⟨g, rfl, hp, hd⟩
  have HOA := Lib.hid (HP.callIt (its := []) HP.nil hd HD.out.size hp)
  replace HOP := Lib.hid (HOP.out.go (hd.mono HD.out.size))
  replace HD := Lib.hid (HD.out.trans (hd.mono HD.out.size)); clear hd hp
  go_wp2_with fail
  refine (bkText_ok (its1 := []) W2 HOA.out HD.out.size).mono ?_; rintro e3 W3 ⟨rfl, hp, hd⟩
  replace HOP := Lib.hid (HOP.out.go hd)
  replace HD := Lib.hid (HD.out.trans hd); clear hd hp HOA
  generalize htx : b.2.1 = tx at *
  have hd1 := decide_eq_false (show ¬ (n' : Int) < 0 by omega)
  have hd2 := decide_eq_false (show ¬ (tx.size : Int) < (n' : Int) by omega)
  go_wp2_with fail
  go_loopg [7, 8] (n' + 1) (fun gg u7 u8 wr => ∃ (k : Nat), u8 = .int .i64 (k : Int) ∧ u7 = .int .i64 (((tx.data.toList.take k).count 10 : Nat) : Int) ∧ Hid (k ≤ n' ∧ gg = n' + 1 - k) ∧ wr = W3)
  case atStart => exact ⟨0, rfl, by rw [List.take_zero]; rfl, Lib.hid ⟨by omega, by omega⟩, rfl⟩
  case round =>
    obtain ⟨k, rfl, rfl, hk, rfl⟩ := hrel
    obtain ⟨hkn, hkg⟩ := hk.out
    by_cases hc : (k : Int) < (n' : Int)
    · have hkt : k < tx.size := by omega
      have hcd := decide_eq_true hc
      have hkl : k < tx.data.toList.length := by rw [bytes_len]; exact hkt
      have hcnt : ((tx.data.toList.take (k + 1)).count 10 : Nat) = (tx.data.toList.take k).count 10 + (if tx[k] = 10 then 1 else 0) := by
        rw [List.take_succ_eq_append_getElem hkl, List.count_append]
        congr 1
        have e : tx.data.toList[k] = tx[k] := by simp [ByteArray.getElem_eq_getElem_data]
        rw [e, List.count_singleton]
        by_cases q : tx[k] = 10
        · rw [if_pos (by simp [q]), if_pos q]
        · rw [if_neg (by simp [q]), if_neg q]
      have hle : (tx.data.toList.take k).count 10 ≤ k := by
        have := List.count_le_length (a := (10 : UInt8)) (l := tx.data.toList.take k)
        rw [List.length_take] at this; omega
      have fx : tx[k]? = some tx[k] := getElem?_pos tx k hkt
      generalize hcn : (tx.data.toList.take k).count 10 = cn at *
      generalize hcx : tx[k] = cx at *
      have fxt : ∃ h : k < tx.size, tx[k] = cx := ⟨hkt, hcx⟩
      have HCN := Lib.hid hcnt; clear hcnt fxt
      by_cases q : cx = 10
      · have hqb : ((cx.toNat : Int) == 10) = true := by rw [q]; rfl
        go_wp2_with fail
        go_roundg (n' + 1 - (k + 1))
        case measure => omega
        case rel => exact ⟨k + 1, by go_num, by rw [HCN.out, if_pos q]; go_num, Lib.hid ⟨by omega, by omega⟩, rfl⟩
      · have hqb : ((cx.toNat : Int) == 10) = false := by
          rw [beq_eq_false_iff_ne]
          intro e
          exact q (UInt8.toNat_inj.1 (by show cx.toNat = 10; omega))
        go_wp2_with fail
        go_roundg (n' + 1 - (k + 1))
        case measure => omega
        case rel => exact ⟨k + 1, by go_num, by rw [HCN.out, if_neg q, Nat.add_zero], Lib.hid ⟨by omega, by omega⟩, rfl⟩
    · have hke : k = n' := by omega
      subst hke
      have hcd := decide_eq_false hc
      rw [← HMM.out]
      generalize k = n' at *
      clear hk hkn hkg hc
      go_wp2_with fail
      refine (mOpen_ok wr (HOP.out.mono HD.out.size) HO.out).mono ?_; rintro e4 W4 ⟨hd, (⟨_, g2, rfl, hp⟩ | ⟨hne, _⟩)⟩
      case inr => exact absurd rfl hne
      have HOA := Lib.hid (HP.callIt (its := []) HP.nil hd HD.out.size hp)
      replace HOP := Lib.hid (HOP.out.go (hd.mono HD.out.size))
      replace HD := Lib.hid (HD.out.trans (hd.mono HD.out.size)); clear hd hp
      have hmm : (((m : Nat) : Int) != (m : Int)) = false := by simp
      go_wp2_with fail
      refine (bkNew_ok W4).mono ?_; rintro e5 W5 ⟨g3, rfl, hp, hd⟩
      replace HOA := Lib.hid (show HP W5 w.heap.size [bkI g3 newB, bkI g2 bo] from HP.callIt HOA.out hd HD.out.size hp)
      replace HOP := Lib.hid (HOP.out.go (hd.mono HD.out.size))
      replace HD := Lib.hid (HD.out.trans (hd.mono HD.out.size)); clear hd hp hcd hd1 hd2
      go_wp2_with fail
      go_loopg [13, 14] 71 (fun gg u13 u14 wr => ∃ (k had : Nat) (b1 : BkT), u14 = .int .i64 (k : Int) ∧ u13 = .int .i64 (had : Int) ∧ Hid (k ≤ 70 ∧ gg = 71 - k ∧ had ≤ k ∧ had ≤ m) ∧ Hid (BInv b1) ∧ Hid (Below w.heap.size w wr) ∧ Hid (HP wr w.heap.size [bkI g3 b1, bkI g2 bo]) ∧ Hid (OpB w.heap.size wr) ∧
        Hid (tornM m ((steps.take 70).drop k) b1 had = (bo, m)))
      case atStart => exact ⟨0, 0, newB, rfl, rfl, Lib.hid ⟨by omega, by omega, by omega, by omega⟩, Lib.hid new_inv, HD, HOA, HOP, HT⟩
      case round =>
        clear HD HOA HOP HT
        obtain ⟨k, had, b1, rfl, rfl, hk, HI, HD, HOA, HOP, HT⟩ := hrel
        rename World => W6
        by_cases hc : (k < steps.length ∧ k < 70) ∧ had < m
        · obtain ⟨⟨hc1, hc2⟩, hc3⟩ := hc
          have i1 : (k : Int) < (steps.length : Int) := by omega
          have i2 : (k : Int) < 70 := by omega
          have i3 : (had : Int) < (m : Int) := by omega
          have hlt : k < (steps.take 70).length := by rw [List.length_take]; omega
          have hdr := List.drop_eq_getElem_cons hlt
          have hix : ix steps (k : Int) = some ((steps.take 70)[k]) := by rw [ix_nat hc1, List.getElem_take]
          generalize (steps.take 70)[k] = l at *
          have htm := HT.out
          rw [hdr] at htm
          have htm : (if had < m then (if l.length = 3 then (match opI b1 l with
            | some (e, b') => if e = 0 then tornM m ((steps.take 70).drop (k + 1)) b' (had + 1) else tornM m ((steps.take 70).drop (k + 1)) b' had
            | none => (b1, had)) else tornM m ((steps.take 70).drop (k + 1)) b1 had) else (b1, had)) = (bo, m) := htm
          rw [if_pos hc3] at htm
          obtain ⟨b22, o23, A29, cap30, ea24, _, f25, f26, f27, hrr, hrc⟩ := ReadsR.ixc HR.out hix
          cases ea24
          try simp only [Nat.zero_add, Nat.add_zero, Int.toNat_natCast, Int.toNat_zero, Int.toNat_one] at f27
          replace f27 := (HD.out.cell (p := ⟨b22, o23 + k, none⟩) (World.block_lt_of_cell? _ _ f27)).trans f27
          have HRR := Lib.hid hrr; clear hrr hrc hix hdr hlt
          have HTM := Lib.hid htm; clear htm HT
          obtain ⟨h70, hgk, hhk, hhm⟩ := hk.out
          clear hk
          by_cases h3 : l.length = 3
          · have hb3 : (((l.length : Nat) : Int) != 3) = false := by rw [h3]; rfl
            obtain ⟨l0, l1, l2, rfl⟩ : ∃ l0 l1 l2, l = [l0, l1, l2] := by
              match l, h3 with
              | [l0, l1, l2], _ => exact ⟨l0, l1, l2, rfl⟩
            obtain ⟨b37, o38, eA, hb37, hcc⟩ := HRR.out.2 (show 0 < 3 by decide)
            subst eA
            have k0 : w.cell? ⟨b37, o38, none⟩ = some (.int .i64 l0) := hcc 0 _ rfl
            have k1 : w.cell? ⟨b37, o38 + 1, none⟩ = some (.int .i64 l1) := hcc 1 _ rfl
            have k2 : w.cell? ⟨b37, o38 + 2, none⟩ = some (.int .i64 l2) := hcc 2 _ rfl
            obtain ⟨C_, hC_⟩ : ∃ C_ : World → Prop, C_ = fun W_ => W_.cell? ⟨b37, o38, none⟩ = some (.int .i64 l0) ∧ W_.cell? ⟨b37, o38 + 1, none⟩ = some (.int .i64 l1) ∧ W_.cell? ⟨b37, o38 + 2, none⟩ = some (.int .i64 l2) := ⟨_, rfl⟩
            have hC6 : C_ W6.drew := by
              rw [hC_]
              exact ⟨(HD.out.cell (p := ⟨b37, o38, none⟩) hb37).trans k0, (HD.out.cell (p := ⟨b37, o38 + 1, none⟩) hb37).trans k1, (HD.out.cell (p := ⟨b37, o38 + 2, none⟩) hb37).trans k2⟩
            have hCk : ∀ W W' : World, C_ W → Below w.heap.size W W' → C_ W' := fun W W' h hb => by
              rw [hC_] at h ⊢
              exact ⟨(hb.cell (p := ⟨b37, o38, none⟩) hb37).trans h.1, (hb.cell (p := ⟨b37, o38 + 1, none⟩) hb37).trans h.2.1, (hb.cell (p := ⟨b37, o38 + 2, none⟩) hb37).trans h.2.2⟩
            have HCK := Lib.hid hCk
            clear k0 k1 k2 hcc
            have htm := HTM.out
            rw [if_pos h3] at htm
            go_upto_region 23 with (fail)
            clear f25 f26 f27 i1 i2 i3 hb3
            have HC6 := Lib.hid hC6; clear hC6 hCk
            have hCd : ∀ W_, C_ W_ → W_.cell? ⟨b37, o38, none⟩ = some (.int .i64 l0) ∧ W_.cell? ⟨b37, o38 + 1, none⟩ = some (.int .i64 l1) ∧ W_.cell? ⟨b37, o38 + 2, none⟩ = some (.int .i64 l2) := fun W_ h => by rw [hC_] at h; exact h
            have HCD := Lib.hid hCd; clear hCd hC_
            by_cases hz : l0 = 0
            · have hq : (l0 == 0) = true := by rw [hz]; rfl
              have hq2 : (l0 != 0) = false := by rw [hz]; rfl
              obtain ⟨e, b', j1, j2, j3, j4⟩ := join_ev HI.out l1 l2
              have hop : opI b1 [l0, l1, l2] = some (e, b') := by unfold opI; rw [if_pos (show [l0, l1, l2].getD 0 0 = 0 from hz)]; exact j1
              rw [hop] at htm
              have htm : (if e = 0 then tornM m ((steps.take 70).drop (k + 1)) b' (had + 1) else tornM m ((steps.take 70).drop (k + 1)) b' had) = (bo, m) := htm
              have HTM2 := Lib.hid htm; have HJ := Lib.hid j1; have HI2 := Lib.hid j2; have HH3 := Lib.hid hhm
              clear htm HTM j1 j2 j3 j4 hop HI
              refine wp_region_phc C_ [.P 0, .P 1, .P 2, .P 3, .P 4, .P 5, .P 6, .P 7, .P 8, .P 9, .P 10, .P 11, .S 12, .P 13, .P 14, .P 15, .P 16, .P 17, .P 18, .P 19, .P 20, .P 21, .P 22, .P 23, .P 24, .P 25, .P 26, .P 27, .P 28, .P 29, .P 30, .P 31] (by kernel_rfl) (by kernel_rfl) HC6.out ?_
              iterate 4 (refine wpCs_P rfl rfl (fun K hK => ?_); apply Exists.intro; refine ⟨fun W_ hc_ => ?_, ?_⟩; (have c_ := HCD.out W_ hc_; have c0_ := c_.1; have c1_ := c_.2.1; have c2_ := c_.2.2; clear c_ hc_; go_simp; try rfl); (go_simp; refine hK _ ?_; clear hK K))
              try rw [hq]
              iterate 8 (refine wpCs_P rfl rfl (fun K hK => ?_); apply Exists.intro; refine ⟨fun W_ hc_ => ?_, ?_⟩; (have c_ := HCD.out W_ hc_; have c0_ := c_.1; have c1_ := c_.2.1; have c2_ := c_.2.2; clear c_ hc_; go_simp; try rfl); (go_simp; refine hK _ ?_; clear hK K))
              replace HOA := Lib.hid (HOA.out.dr (Dr.one _))
              replace HOP := Lib.hid (HOP.out.go ((Dr.one _).below _))
              replace HD := Lib.hid (HD.out.trans ((Dr.one _).below _))
              generalize hW : World.drew W6 = W7 at *
              clear hW
              refine wpCs_S rfl (fun Q' hQ' hL' => ?_)
              go_wp2_with fail
              refine (mJoin_ok (its1 := []) W7 HOP.out.tab HOA.out HD.out.size HJ.out).mono ?_; rintro e6 W8 ⟨rfl, hp, hd⟩
              have HC8 := Lib.hid (HCK.out W7 W8 HC6.out hd)
              replace HOA := Lib.hid (show HP W8 w.heap.size [bkI g3 b', bkI g2 bo] from hp)
              replace HOP := Lib.hid (HOP.out.go hd)
              replace HD := Lib.hid (HD.out.trans hd); clear hd hp
              try go_wp2_with fail
              refine hQ' _ _ HC8.out ?_; clear hQ' hL' Q'
              by_cases he : e = 0
              · subst he
                rw [errV_zero]
                iterate 3 (refine wpCs_P rfl rfl (fun K hK => ?_); apply Exists.intro; refine ⟨fun W_ hc_ => ?_, ?_⟩; (have c_ := HCD.out W_ hc_; have c0_ := c_.1; have c1_ := c_.2.1; have c2_ := c_.2.2; clear c_ hc_; go_simp; try rfl); (go_simp; refine hK _ ?_; clear hK K))
                iterate 12 (refine wpCs_UK rfl (by kernel_rfl) (fun K hK => ?_); (go_simp; refine hK _ ?_; clear hK K))
                refine wpCs_UK rfl (by kernel_rfl) (fun K hK => ?_); (go_simp; refine hK _ ?_; clear hK K)
                iterate 2 (refine wpCs_UK rfl (by kernel_rfl) (fun K hK => ?_); (go_simp; refine hK _ ?_; clear hK K))
                iterate 1 (refine wpCs_P rfl rfl (fun K hK => ?_); apply Exists.intro; refine ⟨fun W_ hc_ => ?_, ?_⟩; (have c_ := HCD.out W_ hc_; have c0_ := c_.1; have c1_ := c_.2.1; have c2_ := c_.2.2; clear c_ hc_; go_simp; try rfl); (go_simp; refine hK _ ?_; clear hK K))
                refine wpCs_nil ?_
                go_wp2_with fail
                go_roundg (71 - (k + 1))
                case measure => omega
                case rel => exact ⟨k + 1, had + 1, b', by go_num, by go_num, Lib.hid ⟨by omega, by omega, by omega, by omega⟩, HI2, HD, HOA, HOP, Lib.hid (by have := HTM2.out; simpa using this)⟩
              · rw [errV_pos _ he]
                iterate 3 (refine wpCs_P rfl rfl (fun K hK => ?_); apply Exists.intro; refine ⟨fun W_ hc_ => ?_, ?_⟩; (have c_ := HCD.out W_ hc_; have c0_ := c_.1; have c1_ := c_.2.1; have c2_ := c_.2.2; clear c_ hc_; go_simp; try rfl); (go_simp; refine hK _ ?_; clear hK K))
                iterate 4 (refine wpCs_P rfl rfl (fun K hK => ?_); apply Exists.intro; refine ⟨fun W_ hc_ => ?_, ?_⟩; (have c_ := HCD.out W_ hc_; have c0_ := c_.1; have c1_ := c_.2.1; have c2_ := c_.2.2; clear c_ hc_; go_simp; try rfl); (go_simp; refine hK _ ?_; clear hK K))
                try rw [hq2]
                iterate 1 (refine wpCs_P rfl rfl (fun K hK => ?_); apply Exists.intro; refine ⟨fun W_ hc_ => ?_, ?_⟩; (have c_ := HCD.out W_ hc_; have c0_ := c_.1; have c1_ := c_.2.1; have c2_ := c_.2.2; clear c_ hc_; go_simp; try rfl); (go_simp; refine hK _ ?_; clear hK K))
                iterate 7 (refine wpCs_UK rfl (by kernel_rfl) (fun K hK => ?_); (go_simp; refine hK _ ?_; clear hK K))
                refine wpCs_UK rfl (by kernel_rfl) (fun K hK => ?_); (go_simp; refine hK _ ?_; clear hK K)
                iterate 1 (refine wpCs_UK rfl (by kernel_rfl) (fun K hK => ?_); (go_simp; refine hK _ ?_; clear hK K))
                iterate 2 (refine wpCs_P rfl rfl (fun K hK => ?_); apply Exists.intro; refine ⟨fun W_ hc_ => ?_, ?_⟩; (have c_ := HCD.out W_ hc_; have c0_ := c_.1; have c1_ := c_.2.1; have c2_ := c_.2.2; clear c_ hc_; go_simp; try rfl); (go_simp; refine hK _ ?_; clear hK K))
                refine wpCs_nil ?_
                go_wp2_with fail
                go_roundg (71 - (k + 1))
                case measure => omega
                case rel => exact ⟨k + 1, had, b', by go_num, rfl, Lib.hid ⟨by omega, by omega, by omega, by omega⟩, HI2, HD, HOA, HOP, Lib.hid (by have := HTM2.out; rw [if_neg he] at this; exact this)⟩
            · have hq : (l0 == 0) = false := by rw [beq_eq_false_iff_ne]; exact hz
              have hq2 : (l0 != 0) = true := by rw [bne_iff_ne]; exact hz
              obtain ⟨e, b', j1, j2, j3, j4⟩ := cut_ev HI.out l1 l2
              have hop : opI b1 [l0, l1, l2] = some (e, b') := by unfold opI; rw [if_neg (show ¬ [l0, l1, l2].getD 0 0 = 0 from hz)]; exact j1
              rw [hop] at htm
              have htm : (if e = 0 then tornM m ((steps.take 70).drop (k + 1)) b' (had + 1) else tornM m ((steps.take 70).drop (k + 1)) b' had) = (bo, m) := htm
              have HTM2 := Lib.hid htm; have HJ := Lib.hid j1; have HI2 := Lib.hid j2; have HH3 := Lib.hid hhm
              clear htm HTM j1 j2 j3 j4 hop HI
              refine wp_region_phc C_ [.P 0, .P 1, .P 2, .P 3, .P 4, .P 5, .P 6, .P 7, .P 8, .P 9, .P 10, .P 11, .S 12, .P 13, .P 14, .P 15, .P 16, .P 17, .P 18, .P 19, .P 20, .P 21, .P 22, .P 23, .P 24, .P 25, .P 26, .P 27, .S 28, .P 29, .P 30, .P 31] (by kernel_rfl) (by kernel_rfl) HC6.out ?_
              iterate 4 (refine wpCs_P rfl rfl (fun K hK => ?_); apply Exists.intro; refine ⟨fun W_ hc_ => ?_, ?_⟩; (have c_ := HCD.out W_ hc_; have c0_ := c_.1; have c1_ := c_.2.1; have c2_ := c_.2.2; clear c_ hc_; go_simp; try rfl); (go_simp; refine hK _ ?_; clear hK K))
              try rw [hq]
              iterate 1 (refine wpCs_P rfl rfl (fun K hK => ?_); apply Exists.intro; refine ⟨fun W_ hc_ => ?_, ?_⟩; (have c_ := HCD.out W_ hc_; have c0_ := c_.1; have c1_ := c_.2.1; have c2_ := c_.2.2; clear c_ hc_; go_simp; try rfl); (go_simp; refine hK _ ?_; clear hK K))
              iterate 7 (refine wpCs_UK rfl (by kernel_rfl) (fun K hK => ?_); (go_simp; refine hK _ ?_; clear hK K))
              replace HOA := Lib.hid (HOA.out.dr (Dr.one _))
              replace HOP := Lib.hid (HOP.out.go ((Dr.one _).below _))
              replace HD := Lib.hid (HD.out.trans ((Dr.one _).below _))
              generalize hW : World.drew W6 = W7 at *
              clear hW
              refine wpCs_S rfl (fun Q' hQ' hL' => ?_)
              go_wp2_with fail
              refine hQ' _ _ HC6.out ?_; clear hQ' hL' Q'
              iterate 1 (refine wpCs_UK rfl (by kernel_rfl) (fun K hK => ?_); (go_simp; refine hK _ ?_; clear hK K))
              iterate 2 (refine wpCs_P rfl rfl (fun K hK => ?_); apply Exists.intro; refine ⟨fun W_ hc_ => ?_, ?_⟩; (have c_ := HCD.out W_ hc_; have c0_ := c_.1; have c1_ := c_.2.1; have c2_ := c_.2.2; clear c_ hc_; go_simp; try rfl); (go_simp; refine hK _ ?_; clear hK K))
              iterate 4 (refine wpCs_P rfl rfl (fun K hK => ?_); apply Exists.intro; refine ⟨fun W_ hc_ => ?_, ?_⟩; (have c_ := HCD.out W_ hc_; have c0_ := c_.1; have c1_ := c_.2.1; have c2_ := c_.2.2; clear c_ hc_; go_simp; try rfl); (go_simp; refine hK _ ?_; clear hK K))
              try rw [hq2]
              iterate 1 (refine wpCs_P rfl rfl (fun K hK => ?_); apply Exists.intro; refine ⟨fun W_ hc_ => ?_, ?_⟩; (have c_ := HCD.out W_ hc_; have c0_ := c_.1; have c1_ := c_.2.1; have c2_ := c_.2.2; clear c_ hc_; go_simp; try rfl); (go_simp; refine hK _ ?_; clear hK K))
              iterate 7 (refine wpCs_P rfl rfl (fun K hK => ?_); apply Exists.intro; refine ⟨fun W_ hc_ => ?_, ?_⟩; (have c_ := HCD.out W_ hc_; have c0_ := c_.1; have c1_ := c_.2.1; have c2_ := c_.2.2; clear c_ hc_; go_simp; try rfl); (go_simp; refine hK _ ?_; clear hK K))
              refine wpCs_S rfl (fun Q' hQ' hL' => ?_)
              go_wp2_with fail
              refine (mCut_ok (its1 := []) W7 HOP.out.tab HOA.out HD.out.size HJ.out).mono ?_; rintro e6 W8 ⟨rfl, hp, hd⟩
              have HC8 := Lib.hid (HCK.out W7 W8 HC6.out hd)
              replace HOA := Lib.hid (show HP W8 w.heap.size [bkI g3 b', bkI g2 bo] from hp)
              replace HOP := Lib.hid (HOP.out.go hd)
              replace HD := Lib.hid (HD.out.trans hd); clear hd hp
              try go_wp2_with fail
              refine hQ' _ _ HC8.out ?_; clear hQ' hL' Q'
              by_cases he : e = 0
              · subst he
                rw [errV_zero]
                iterate 3 (refine wpCs_P rfl rfl (fun K hK => ?_); apply Exists.intro; refine ⟨fun W_ hc_ => ?_, ?_⟩; (have c_ := HCD.out W_ hc_; have c0_ := c_.1; have c1_ := c_.2.1; have c2_ := c_.2.2; clear c_ hc_; go_simp; try rfl); (go_simp; refine hK _ ?_; clear hK K))
                refine wpCs_nil ?_
                go_wp2_with fail
                go_roundg (71 - (k + 1))
                case measure => omega
                case rel => exact ⟨k + 1, had + 1, b', by go_num, by go_num, Lib.hid ⟨by omega, by omega, by omega, by omega⟩, HI2, HD, HOA, HOP, Lib.hid (by have := HTM2.out; simpa using this)⟩
              · rw [errV_pos _ he]
                iterate 3 (refine wpCs_P rfl rfl (fun K hK => ?_); apply Exists.intro; refine ⟨fun W_ hc_ => ?_, ?_⟩; (have c_ := HCD.out W_ hc_; have c0_ := c_.1; have c1_ := c_.2.1; have c2_ := c_.2.2; clear c_ hc_; go_simp; try rfl); (go_simp; refine hK _ ?_; clear hK K))
                refine wpCs_nil ?_
                go_wp2_with fail
                go_roundg (71 - (k + 1))
                case measure => omega
                case rel => exact ⟨k + 1, had, b', by go_num, rfl, Lib.hid ⟨by omega, by omega, by omega, by omega⟩, HI2, HD, HOA, HOP, Lib.hid (by have := HTM2.out; rw [if_neg he] at this; exact this)⟩
          · have hb3 : (((l.length : Nat) : Int) != 3) = true := by rw [bne_iff_ne]; exact fun q => h3 (by omega)
            have htm := HTM.out
            rw [if_neg h3] at htm
            have HT := Lib.hid htm; clear htm HTM
            go_wp2_with fail
            go_roundg (71 - (k + 1))
            case measure => omega
            case rel => exact ⟨k + 1, had, b1, by go_num, rfl, Lib.hid ⟨by omega, by omega, by omega, by omega⟩, HI, HD, HOA, HOP, HT⟩
        · have hfin : b1 = bo ∧ had = m := by
            have := HT.out
            obtain ⟨h70, hgk, hhk, hhm⟩ := hk.out
            by_cases hh : had < m
            · have hz : (steps.take 70).drop k = [] := by rw [List.drop_eq_nil_iff, List.length_take]; omega
              rw [hz] at this
              have : (b1, had) = (bo, m) := this
              exact ⟨congrArg Prod.fst this, congrArg Prod.snd this⟩
            · rw [torn_stop hh] at this
              exact ⟨congrArg Prod.fst this, congrArg Prod.snd this⟩
          obtain ⟨rfl, rfl⟩ := hfin
          have i3 := decide_eq_false (show ¬ ((had : Nat) : Int) < ((had : Nat) : Int) by omega)
          have ieq : ((((had : Nat) : Int)) == ((had : Nat) : Int)) = true := by simp
          have hzd := decide_eq_true (show ((b1.2.1.size : Nat) : Int) ≤ ((n' : Nat) : Int) by have := HZ.out; omega)
          clear hc
          by_cases q1 : (k : Int) < (steps.length : Int)
          · by_cases q2 : (k : Int) < 70
            · go_wp2_with fail
              refine (brambleweir_book_Book_Lines_ok W6 (HP.rdBk (its1 := [_]) HOA.out) HL.out).mono ?_; rintro e7 W7 ⟨V7, rfl, ho, hd⟩
              replace HOA := Lib.hid (HOA.out.call hd HD.out.size ho)
              replace HD := Lib.hid (HD.out.trans (hd.mono HD.out.size)); clear hd ho
              go_wp2_with fail
              refine (brambleweir_book_Book_Lines_ok W7 (HP.rdBk (its1 := [_]) HOA.out) HL.out).mono ?_; rintro e8 W8 ⟨V8, rfl, ho, hd⟩
              replace HOA := Lib.hid (HOA.out.call hd HD.out.size ho)
              replace HD := Lib.hid (HD.out.trans (hd.mono HD.out.size)); clear hd ho
              obtain ⟨A7, c7, rfl, r7⟩ := HP.open_L HOA.out (List.Mem.tail _ (List.Mem.head _))
              obtain ⟨A8, c8, rfl, r8⟩ := HP.open_L HOA.out (List.Mem.head _)
              go_wp2_with fail
              refine (SE_Lines_ok W8 c7 r7 c8 r8 HS.out).mono ?_; rintro e9 W9 ⟨rfl, hd⟩
              replace HOA := Lib.hid (HOA.out.dr hd)
              replace HD := Lib.hid (HD.out.trans (hd.below _)); clear hd r7 r8
              replace HOA := Lib.hid (show HP W9 w.heap.size [bkI g3 b1, bkI g2 b1] from HOA.out.sub (.cons _ (.cons _ (List.Sublist.refl _))))
              go_wp2_with fail
              refine (bkText_ok (its1 := [_]) W9 HOA.out HD.out.size).mono ?_; rintro e10 W10 ⟨rfl, hp, hd⟩
              replace HOA := Lib.hid hp
              replace HD := Lib.hid (HD.out.trans hd); clear hd hp
              go_wp2_with fail
              refine (bkText_ok (its1 := []) W10 HOA.out HD.out.size).mono ?_; rintro e11 W11 ⟨rfl, hp, hd⟩
              replace HOA := Lib.hid hp
              replace HD := Lib.hid (HD.out.trans hd); clear hd hp
              go_wp2_with fail
              refine (bkText_ok (its1 := [_]) W11 HOA.out HD.out.size).mono ?_; rintro e12 W12 ⟨rfl, hp, hd⟩
              replace HD := Lib.hid (HD.out.trans hd); clear hd hp
              go_wp2_with fail
              go_ret
              exact ⟨congrArg (fun q => Ending.returned (.bool q)) (decide_eq_true HZ.out), HD.out⟩
            · have q2d := decide_eq_false q2
              go_wp2_with fail
              refine (brambleweir_book_Book_Lines_ok W6 (HP.rdBk (its1 := [_]) HOA.out) HL.out).mono ?_; rintro e7 W7 ⟨V7, rfl, ho, hd⟩
              replace HOA := Lib.hid (HOA.out.call hd HD.out.size ho)
              replace HD := Lib.hid (HD.out.trans (hd.mono HD.out.size)); clear hd ho
              go_wp2_with fail
              refine (brambleweir_book_Book_Lines_ok W7 (HP.rdBk (its1 := [_]) HOA.out) HL.out).mono ?_; rintro e8 W8 ⟨V8, rfl, ho, hd⟩
              replace HOA := Lib.hid (HOA.out.call hd HD.out.size ho)
              replace HD := Lib.hid (HD.out.trans (hd.mono HD.out.size)); clear hd ho
              obtain ⟨A7, c7, rfl, r7⟩ := HP.open_L HOA.out (List.Mem.tail _ (List.Mem.head _))
              obtain ⟨A8, c8, rfl, r8⟩ := HP.open_L HOA.out (List.Mem.head _)
              go_wp2_with fail
              refine (SE_Lines_ok W8 c7 r7 c8 r8 HS.out).mono ?_; rintro e9 W9 ⟨rfl, hd⟩
              replace HOA := Lib.hid (HOA.out.dr hd)
              replace HD := Lib.hid (HD.out.trans (hd.below _)); clear hd r7 r8
              replace HOA := Lib.hid (show HP W9 w.heap.size [bkI g3 b1, bkI g2 b1] from HOA.out.sub (.cons _ (.cons _ (List.Sublist.refl _))))
              go_wp2_with fail
              refine (bkText_ok (its1 := [_]) W9 HOA.out HD.out.size).mono ?_; rintro e10 W10 ⟨rfl, hp, hd⟩
              replace HOA := Lib.hid hp
              replace HD := Lib.hid (HD.out.trans hd); clear hd hp
              go_wp2_with fail
              refine (bkText_ok (its1 := []) W10 HOA.out HD.out.size).mono ?_; rintro e11 W11 ⟨rfl, hp, hd⟩
              replace HOA := Lib.hid hp
              replace HD := Lib.hid (HD.out.trans hd); clear hd hp
              go_wp2_with fail
              refine (bkText_ok (its1 := [_]) W11 HOA.out HD.out.size).mono ?_; rintro e12 W12 ⟨rfl, hp, hd⟩
              replace HD := Lib.hid (HD.out.trans hd); clear hd hp
              go_wp2_with fail
              go_ret
              exact ⟨congrArg (fun q => Ending.returned (.bool q)) (decide_eq_true HZ.out), HD.out⟩
          · have q1d := decide_eq_false q1
            go_wp2_with fail
            refine (brambleweir_book_Book_Lines_ok W6 (HP.rdBk (its1 := [_]) HOA.out) HL.out).mono ?_; rintro e7 W7 ⟨V7, rfl, ho, hd⟩
            replace HOA := Lib.hid (HOA.out.call hd HD.out.size ho)
            replace HD := Lib.hid (HD.out.trans (hd.mono HD.out.size)); clear hd ho
            go_wp2_with fail
            refine (brambleweir_book_Book_Lines_ok W7 (HP.rdBk (its1 := [_]) HOA.out) HL.out).mono ?_; rintro e8 W8 ⟨V8, rfl, ho, hd⟩
            replace HOA := Lib.hid (HOA.out.call hd HD.out.size ho)
            replace HD := Lib.hid (HD.out.trans (hd.mono HD.out.size)); clear hd ho
            obtain ⟨A7, c7, rfl, r7⟩ := HP.open_L HOA.out (List.Mem.tail _ (List.Mem.head _))
            obtain ⟨A8, c8, rfl, r8⟩ := HP.open_L HOA.out (List.Mem.head _)
            go_wp2_with fail
            refine (SE_Lines_ok W8 c7 r7 c8 r8 HS.out).mono ?_; rintro e9 W9 ⟨rfl, hd⟩
            replace HOA := Lib.hid (HOA.out.dr hd)
            replace HD := Lib.hid (HD.out.trans (hd.below _)); clear hd r7 r8
            replace HOA := Lib.hid (show HP W9 w.heap.size [bkI g3 b1, bkI g2 b1] from HOA.out.sub (.cons _ (.cons _ (List.Sublist.refl _))))
            go_wp2_with fail
            refine (bkText_ok (its1 := [_]) W9 HOA.out HD.out.size).mono ?_; rintro e10 W10 ⟨rfl, hp, hd⟩
            replace HOA := Lib.hid hp
            replace HD := Lib.hid (HD.out.trans hd); clear hd hp
            go_wp2_with fail
            refine (bkText_ok (its1 := []) W10 HOA.out HD.out.size).mono ?_; rintro e11 W11 ⟨rfl, hp, hd⟩
            replace HOA := Lib.hid hp
            replace HD := Lib.hid (HD.out.trans hd); clear hd hp
            go_wp2_with fail
            refine (bkText_ok (its1 := [_]) W11 HOA.out HD.out.size).mono ?_; rintro e12 W12 ⟨rfl, hp, hd⟩
            replace HD := Lib.hid (HD.out.trans hd); clear hd hp
            go_wp2_with fail
            go_ret
            exact ⟨congrArg (fun q => Ending.returned (.bool q)) (decide_eq_true HZ.out), HD.out⟩
set_option maxHeartbeats 4000000 in
theorem torn_out {b : BkT} {n : Int} {steps : List (List Int)} {A : Option Addr} {cap : Nat} (w : World) (hop : OpB w.heap.size w) (hr : ReadsR w w.heap.size A steps) (hp : L4_put 300 steps = some b) (hn : n < 0 ∨ (b.2.1.size : Int) < n) :
    Calls Tryd.prog 5 #[.slice A steps.length cap, .int .i64 n] w fun e w' => e = .returned (.bool true) ∧ Below w.heap.size w w' := by
  have HOP := Lib.hid hop; clear hop
  have HR := Lib.hid hr; clear hr
  have HP0 := Lib.hid hp; clear hp
  have HN := Lib.hid hn; clear hn
  have HD := Lib.hid (Below.refl w.heap.size w)
  go_enter Tryd.func5, Tryd.ntmps5
  go_wp2_with fail
  refine (bookFactM_ok w HOP.out.tab.1 rfl).mono ?_; rintro e1 W1 ⟨rfl, hd⟩
  replace HOP := Lib.hid (HOP.out.go hd)
  replace HD := Lib.hid (HD.out.trans hd); clear hd
  go_wp2_with fail
  refine (L4_put_ok W1 HOP.out.tab.1 cap (rdR HD.out HR.out) HP0.out).mono ?_; rintro e2 W2 ⟨g, rfl, hp, hd⟩
  have HOA := Lib.hid (HP.callIt (its := []) HP.nil hd HD.out.size hp)
  replace HD := Lib.hid (HD.out.trans (hd.mono HD.out.size)); clear hd hp
  go_wp2_with fail
  refine (bkText_ok (its1 := []) W2 HOA.out HD.out.size).mono ?_; rintro e3 W3 ⟨rfl, hp, hd⟩
  replace HD := Lib.hid (HD.out.trans hd); clear hd hp HOA
  by_cases h0 : n < 0
  · have hd1 := decide_eq_true h0
    go_wp2_with fail
    go_ret
    exact ⟨rfl, HD.out⟩
  · have hd1 := decide_eq_false h0
    have h2 := HN.out.resolve_left h0
    have hd2 := decide_eq_true h2
    go_wp2_with fail
    go_ret
    exact ⟨rfl, HD.out⟩
theorem bookTorn_any (w : World) (hop : OpB w.heap.size w) (A : Option Addr) (cap : Nat) (l : List (List Int)) (hr : ReadsR w w.heap.size A l ∧ l.length ≤ maxLen ∧ ∀ x ∈ l, x.length ≤ maxLen ∧ ∀ n ∈ x, (Lit.int .i64 n).wf = true) (n : Int) (_ : (Lit.int .i64 n).wf = true) :
    Calls Tryd.prog 5 #[.slice A l.length cap, .int .i64 n] w fun e w' => e = .returned (.bool true) ∧ Below w.heap.size w w' := by
  obtain ⟨g1, g2⟩ := goH_run (l.take 70) newB new_inv
  have hb2 : (goH (l.take 70) newB).2.2.1.size ≤ 1000000 := by have := g2.ok.2.1; omega
  by_cases c : n < 0 ∨ (((goH (l.take 70) newB).2.2.1.size : Nat) : Int) < n
  · exact torn_out w hop hr.1 (put_goH l) c
  · obtain ⟨n', rfl⟩ := Int.eq_ofNat_of_zero_le (show 0 ≤ n by omega)
    obtain ⟨bo, m, t1, t2, t3, t4, t5, t6⟩ := torn_facts l (n := n') (by omega)
    exact torn_walk w hop hr.1 hr.2.1 (put_goH l) (by omega) hb2 t1 t2 t3 t4 (lines_ev t4) (se_same _ (by have := linesOf_le bo.1; omega)) t5 t6
end Go.Proofs.YthmfgnpkbcbkcaaDoor
