import Derived.Test.YtjpfmbffiagjgaaGreatDoorLS
import Derived.Test.YtjpfmbffiagjgaaGreatDoorStr
/- a line of a log read: (*Book).line -/
set_option linter.all false
set_option maxRecDepth 100000
namespace Go.Proofs.YtjpfmbffiagjgaaGreatDoor
open Go.RowKit Go.Shelf
def lnNums : List ByteArray → List Int → Option (List Int)
  | [], l => some l
  | x :: xs, l => if (numM x).2 = true then lnNums xs (l ++ [(numM x).1]) else none
def lnRes (b : BkT) (w0 : ByteArray) : Option (List Int) → Option (Int × BkT)
  | none => some (2, b)
  | some l => if l.length = 2 then (if (w0.toList == ([106] : List UInt8)) = true then mJoin b (l.getD 0 0) (l.getD 1 0) else if (w0.toList == ([99] : List UInt8)) = true then mCut b (l.getD 0 0) (l.getD 1 0) else some (2, b)) else some (2, b)
/-- the words between spaces -/
def wdsB (s : ByteArray) : List ByteArray := Lib.splitB ⟨#[32]⟩ 0 (Lib.countB s ⟨#[32]⟩) s
def bodyB (l : ByteArray) : ByteArray := l.extract 0 (Lib.lastIndexByte l 32).toNat
def tailB (l : ByteArray) : ByteArray := l.extract ((Lib.lastIndexByte l 32).toNat + 1) l.size
def mLine (b : BkT) (l : ByteArray) : Option (Int × BkT) :=
  if okB b ∧ l.size < 1000000 then
    (if Lib.lastIndexByte l 32 < 0 then some (2, b)
     else if (numM (tailB l)).2 = true then
      (if (numM (tailB l)).1 = ((bsm (bodyB l).data.toList 0 % 9973 : Nat) : Int) then lnRes b ((wdsB (bodyB l)).getD 0 ByteArray.empty) (lnNums (wdsB (bodyB l)).tail []) else some (6, b))
     else some (2, b))
  else none
theorem HP.strCell {W : World} {B h n cap i : Nat} {its : List It} {l : List ByteArray} {x : ByteArray} (hp : HP W B its) (ho : It.fl (owS (.slice (some ⟨h, 0, none⟩) n cap) l) ∈ its) (hx : l[i]? = some x) : W.cell? ⟨h, i, none⟩ = some (.string x) := by
  have hr := HP.rd_S hp ho
  have hlt := (List.getElem?_eq_some_iff.1 hx).1
  obtain ⟨g, o, e, hb, hc⟩ := hr.2 (by omega)
  cases e
  have := hc i (.string x) (by simp [strV, hx])
  rw [Nat.zero_add] at this
  exact this
theorem splitB_sz {sep : ByteArray} : ∀ (k : Nat) (s : ByteArray) (x : ByteArray), x ∈ Lib.splitB sep 0 k s → x.size ≤ s.size
  | 0, s, x, h => by unfold Lib.splitB at h; rw [List.mem_singleton.1 h]; exact Nat.le_refl _
  | k + 1, s, x, h => by
    unfold Lib.splitB at h
    split at h
    · rw [List.mem_singleton.1 h]; exact Nat.le_refl _
    · rcases List.mem_cons.1 h with rfl | h
      · rw [ByteArray.size_extract]; omega
      · have := splitB_sz k _ x h
        rw [ByteArray.size_extract] at this; omega
set_option maxRecDepth 100000 in
set_option maxHeartbeats 4000000 in
theorem mLine_okN {B g : Nat} {its1 its2 : List It} {b : BkT} {l : ByteArray} {r : Int × BkT} (w : World) (hop : OpB B w) (h : HP w B (its1 ++ bkI g b :: its2)) (hB : B ≤ w.heap.size) (hm : mLine b l = some r) :
    Calls Tryz.prog 19 #[.pointer (some ⟨g, 0, none⟩), .string l] w fun e w' =>
      e = .returned (errV 46 r.1) ∧ HP w' B (its1 ++ bkI g r.2 :: its2) ∧ Below B w w' ∧ NC w w' := by
  unfold mLine at hm
  split at hm
  case isFalse => cases hm
  rename_i hok
  obtain ⟨hok, hls⟩ := hok
  have HOP := Lib.hid hop; clear hop
  have HOA := Lib.hid h; clear h
  have HD := Lib.hid (Below.refl B w)
  have HN := Lib.hid (NC.refl w)
  have HB := Lib.hid hB; clear hB
  have HOK := Lib.hid hok; clear hok
  have HM := Lib.hid hm; clear hm
  have HC1 := Lib.hid (lixB_ok l 32 (by omega) w)
  go_enter Tryz.func19, Tryz.ntmps19
  go_wp2_with fail
  refine HC1.out.mono ?_; rintro e w' ⟨rfl, rfl⟩; clear HC1
  generalize hat : Lib.lastIndexByte l 32 = at_ at *
  by_cases hneg : at_ < 0
  · replace HM := Lib.hid (ifT hneg HM.out)
    obtain rfl := Option.some.inj HM.out
    go_wp2_with fail
    go_ret
    exact ⟨rfl, HOA.out, HD.out, HN.out⟩
  · replace HM := Lib.hid (ifF hneg HM.out)
    obtain ⟨k, rfl, hk⟩ : ∃ k : Nat, at_ = (k : Int) ∧ k < l.size := by
      rcases Lib.lastIndexByte_spec l 32 with ⟨h, _⟩ | ⟨i, h1, h2, _⟩
      · rw [hat] at h; omega
      · exact ⟨i, by rw [← hat]; first | exact h1 | exact h2, by first | exact h1 | exact h2⟩
    have hbody : bodyB l = l.extract 0 k := by unfold bodyB; rw [hat]; rfl
    have htail : tailB l = l.extract (k + 1) l.size := by unfold tailB; rw [hat]; rfl
    have hkw : wrap64 ((k : Int) + 1) = ((k + 1 : Nat) : Int) := by unfold wrap64; omega
    rw [hbody, htail] at HM
    have HKW := Lib.hid hkw
    have hsl : 0 ≤ wrap64 ((k : Int) + 1) ∧ wrap64 ((k : Int) + 1) ≤ (l.size : Int) := by rw [hkw]; omega
    have hxt : l.extract (wrap64 ((k : Int) + 1)).toNat l.size = l.extract (k + 1) l.size := by rw [hkw, Int.toNat_natCast]
    have hnegd := decide_eq_false hneg
    clear hbody htail hat hkw
    go_wp2_with fail
    refine (num_ok (l.extract (k + 1) l.size) _ HOP.out HB.out (by rw [ByteArray.size_extract]; omega)).mono ?_; rintro e W1 ⟨rfl, hd⟩
    replace HOA := Lib.hid (HOA.out.below hd)
    replace HOP := Lib.hid (HOP.out.go (hd.mono HB.out))
    replace HN := Lib.hid (HN.out.trans (NC.of_below hd))
    replace HD := Lib.hid (HD.out.trans (hd.mono HB.out))
    replace HB := Lib.hid (Nat.le_trans HB.out hd.size); clear hd hsl hxt HKW
    generalize hq : numM (l.extract (k + 1) l.size) = q at *
    obtain ⟨n1, f1⟩ := q
    dsimp only at HM
    have HQ := Lib.hid hq; clear hq
    cases f1
    · replace HM := Lib.hid (ifF (by decide) HM.out)
      obtain rfl := Option.some.inj HM.out
      go_wp2_with fail
      go_ret
      exact ⟨rfl, HOA.out, HD.out, HN.out⟩
    replace HM := Lib.hid (ifT rfl HM.out)
    have HC2 := Lib.hid (fun W => mSum_ok (s := l.extract 0 k) W (by unfold mSum; rw [if_pos (by rw [ByteArray.size_extract]; omega)]))
    have hsl : (k : Int) ≤ (l.size : Int) := by omega
    go_wp2_with fail
    refine (HC2.out _).mono ?_; rintro e W2 ⟨rfl, hd⟩
    replace HOA := Lib.hid (HOA.out.below hd)
    replace HOP := Lib.hid (HOP.out.go (hd.mono HB.out))
    replace HN := Lib.hid (HN.out.trans (NC.of_below hd))
    replace HD := Lib.hid (HD.out.trans (hd.mono HB.out))
    replace HB := Lib.hid (Nat.le_trans HB.out hd.size); clear hd HC2
    generalize hsm : ((bsm (l.extract 0 k).data.toList 0 % 9973 : Nat) : Int) = sm at *
    by_cases hns : n1 = sm
    case neg =>
      replace HM := Lib.hid (ifF hns HM.out)
      obtain rfl := Option.some.inj HM.out
      have hnb : (n1 != sm) = true := by rw [bne_iff_ne]; exact hns
      go_wp2_with fail
      go_ret
      exact ⟨rfl, HOA.out, HD.out, HN.out⟩
    replace HM := Lib.hid (ifT hns HM.out)
    have hnb : (n1 != sm) = false := by rw [bne_eq_false_iff_eq]; exact hns
    go_wp2_with fail
    refine (splt_ok (l.extract 0 k) ⟨#[32]⟩ W2 HOP.out (by rw [ByteArray.size_extract]; omega) (by decide)).mono ?_; rintro e W3 ⟨rfl, hW3⟩
    have hlen : (wdsB (l.extract 0 k)).length = Lib.countB (l.extract 0 k) ⟨#[32]⟩ + 1 := Lib.splitB_all _ (by decide) 0 _ _ rfl
    have hcnt := Lib.countB_le ⟨#[32]⟩ (by decide) _ (l.extract 0 k) (Nat.le_refl _)
    rw [ByteArray.size_extract] at hcnt
    change W3 = W2.alloc (.cells ((wdsB (l.extract 0 k)).map Value.string).toArray 9) at hW3
    generalize hws : wdsB (l.extract 0 k) = ws at *
    have ho : (owS (.slice (some ⟨W2.heap.size, 0, none⟩) ws.length ws.length) ws).ok W3 W2.heap.size := by
      rw [hW3]
      have := own_lit (w := W2) (base := W2.heap.size) (n := ws.length) (e := 9) (ws.map Value.string).toArray 1 (by simp) (Nat.le_refl _) (by unfold maxLen; omega)
      simp only [List.toList_toArray] at this
      exact this
    have hd : Below W2.heap.size W2 W3 := by rw [hW3]; exact (Below.refl _ _).alloc (Nat.le_refl _) _
    replace HOA := Lib.hid (HOA.out.call hd HB.out ho); clear ho
    replace HOP := Lib.hid (HOP.out.go (hd.mono HB.out))
    replace HN := Lib.hid (HN.out.trans (NC.of_below hd))
    replace HD := Lib.hid (HD.out.trans (hd.mono HB.out))
    replace HB := Lib.hid (Nat.le_trans HB.out hd.size); clear hd hW3
    generalize hh : W2.heap.size = h at *
    rw [← hlen]
    obtain ⟨w0, tl, rfl⟩ : ∃ w0 tl, ws = w0 :: tl := by
      cases ws with
      | nil => simp at hlen
      | cons a t => exact ⟨a, t, rfl⟩
    rw [List.length_cons] at hlen ⊢
    have htl : tl.length < 1000000 := by omega
    have hxs : ∀ x ∈ tl, x.size ≤ l.size := fun x hx => by
      have q : x ∈ wdsB (l.extract 0 k) := by rw [hws]; exact List.mem_cons_of_mem _ hx
      have := splitB_sz _ _ _ q
      rw [ByteArray.size_extract] at this
      omega
    clear hlen hcnt hws
    have hc0 := HP.strCell (i := 0) HOA.out (List.Mem.head _) rfl
    change Hid (lnRes b w0 (lnNums tl []) = some r) at HM
    replace HOA := Lib.hid (show HP W3 B (.fl (owI (.slice none 0 0) ([])) :: .fl (owS (.slice (some ⟨h, 0, none⟩) (tl.length + 1) (tl.length + 1)) (w0 :: tl)) :: (its1 ++ bkI g b :: its2)) from HOA.out.pushNil _ _)
    have hone : (1 : Int) ≤ ((tl.length + 1 : Nat) : Int) := by omega
    by_cases hne : tl = []
    · subst hne
      obtain rfl : (2, b) = r := by have := HM.out; simp only [lnNums, lnRes, List.length_nil] at this; rw [if_neg (by decide)] at this; exact Option.some.inj this
      go_wp2_with fail
      go_loopg [9, 44] 1 (fun gg u9 u44 wr => u9 = .slice none 0 0 ∧ u44 = .int .i64 0 ∧ wr = W3)
      case atStart => exact ⟨rfl, rfl, rfl⟩
      case round =>
        obtain ⟨rfl, rfl, rfl⟩ := hrel
        go_wp2_with fail
        go_ret
        exact ⟨rfl, HOA.out.sub (.cons _ (.cons _ (List.Sublist.refl _))), HD.out, HN.out⟩
    go_wp2_with fail
    go_loopg [9, 44] (tl.length + 1) (fun gg u9 u44 wr => ∃ (j : Nat) (nums : List Int) (V : Value), V = u9 ∧ u44 = .int .i64 (j : Int) ∧ Hid (j + gg = tl.length + 1 ∧ nums.length = j ∧ j ≤ tl.length) ∧ Hid (Below B w' wr) ∧ Hid (NC w' wr) ∧ Hid (HP wr B (.fl (owI V nums) :: .fl (owS (.slice (some ⟨h, 0, none⟩) (tl.length + 1) (tl.length + 1)) (w0 :: tl)) :: (its1 ++ bkI g b :: its2))) ∧
      Hid (OpB B wr) ∧ Hid (B ≤ wr.heap.size) ∧ Hid (lnRes b w0 (lnNums (tl.drop j) nums) = some r))
    case atStart => exact ⟨0, [], .slice none 0 0, rfl, rfl, ⟨by omega, rfl, Nat.zero_le _⟩, HD, HN, HOA, HOP, HB, HM⟩
    case round =>
      obtain ⟨j, nums, V, rfl, rfl, hj, HD, HN, HOA, HOP, HB, HM⟩ := hrel
      rename World => W4
      obtain ⟨hjg, hnl, hjle⟩ := hj.out; clear hj
      by_cases hjl : (j : Int) < (tl.length : Int)
      · have hjn : j < tl.length := by omega
        have hd := List.drop_eq_getElem_cons hjn
        have hcj : W4.cell? ⟨h, 1 + j, none⟩ = some (.string tl[j]) := HP.strCell HOA.out (List.Mem.tail _ (List.Mem.head _)) (by rw [Nat.add_comm, List.getElem?_cons_succ, List.getElem?_eq_getElem hjn])
        have hxm := List.getElem_mem hjn
        generalize hx : tl[j] = x at *
        have HDR := Lib.hid hd; clear hd hx
        go_wp2_with fail
        refine (num_ok x _ HOP.out HB.out (by have := hxs _ hxm; omega)).mono ?_; rintro e W5 ⟨rfl, hd⟩
        replace HOA := Lib.hid (HOA.out.below hd)
        replace HOP := Lib.hid (HOP.out.go (hd.mono HB.out))
        replace HN := Lib.hid (HN.out.trans (NC.of_below hd))
        replace HD := Lib.hid (HD.out.trans (hd.mono HB.out))
        replace HB := Lib.hid (Nat.le_trans HB.out hd.size); clear hd hcj
        have HMM := HM.out
        rw [HDR.out] at HMM
        unfold lnNums at HMM
        generalize hq : numM x = q at *
        obtain ⟨n2, f2⟩ := q
        dsimp only at HMM
        cases f2
        · rw [if_neg (by decide)] at HMM
          obtain rfl : (2, b) = r := Option.some.inj HMM
          go_wp2_with fail
          go_ret
          exact ⟨rfl, HOA.out.sub (.cons _ (.cons _ (List.Sublist.refl _))), HD.out, HN.out⟩
        · rw [if_pos rfl] at HMM
          replace HM := Lib.hid HMM; clear HMM
          have HLN := Lib.hid (show nums.length < 1000000000 by omega)
          obtain ⟨V2, W6, hrun, hoa, hd, hn⟩ := run_appI (e' := 3) (y := n2) (L1 := []) W5 73 73 Tryz.underlying73 HOA.out HLN.out HB.out
          go_wp2_with (at_builtin; refine wp_appRun hrun rfl rfl rfl rfl ?_)
          replace HN := Lib.hid (HN.out.trans hn)
          replace HD := Lib.hid (HD.out.trans hd)
          replace HOP := Lib.hid (HOP.out.go hd)
          replace HB := Lib.hid (Nat.le_trans HB.out hd.size); clear hd
          cases gk with
          | zero => omega
          | succ g1 =>
            go_roundg g1
            case measure => omega
            case rel => exact ⟨j + 1, nums ++ [n2], V2, rfl, rfl, ⟨by omega, by rw [List.length_append, List.length_singleton]; omega, by omega⟩, HD, HN, hoa, HOP, HB, HM⟩
      · have hje : j = tl.length := by omega
        subst hje
        have HMM := HM.out
        rw [List.drop_length] at HMM
        unfold lnNums lnRes at HMM
        dsimp only at HMM
        obtain ⟨A, cap, hV, hrd⟩ := HP.open_I HOA.out (List.Mem.head _)
        subst hV
        have hc0 : W4.cell? ⟨h, 0, none⟩ = some (.string w0) := HP.strCell HOA.out (List.Mem.tail _ (List.Mem.head _)) rfl
        have hjd := decide_eq_false hjl
        by_cases h2 : nums.length = 2
        case neg =>
          rw [if_neg h2] at HMM
          obtain rfl : (2, b) = r := Option.some.inj HMM
          have hnb2 : (((nums.length : Nat) : Int) != 2) = true := by rw [bne_iff_ne]; exact fun q => h2 (Int.ofNat.inj q)
          go_wp2_with fail
          go_ret
          exact ⟨rfl, HOA.out.sub (.cons _ (.cons _ (List.Sublist.refl _))), HD.out, HN.out⟩
        rw [if_pos h2] at HMM
        have hnb2 : (((nums.length : Nat) : Int) != 2) = false := by rw [h2]; rfl
        generalize hj1 : (w0.toList == ([106] : List UInt8)) = j1 at *
        generalize hj2 : (w0.toList == ([99] : List UInt8)) = j2 at *
        obtain ⟨m0, m1, rfl⟩ : ∃ m0 m1, nums = [m0, m1] := by
          match nums, h2 with
          | [m0, m1], _ => exact ⟨m0, m1, rfl⟩
        obtain ⟨g9, o9, eA, hb9, hc9⟩ := hrd.2 (show 0 < 2 by decide)
        subst eA
        have f0 : W4.cell? ⟨g9, o9, none⟩ = some (.int .i64 m0) := hc9 0 _ rfl
        have f1 : W4.cell? ⟨g9, o9 + 1, none⟩ = some (.int .i64 m1) := hc9 1 _ rfl
        clear hrd hc9 hnl hjg hjl HM hsm hne hone htl hxs hns hnb HQ hsl
        cases j1
        · rw [if_neg (by decide)] at HMM
          cases j2
          · rw [if_neg (by decide)] at HMM
            obtain rfl : (2, b) = r := Option.some.inj HMM
            go_wp2_with fail
            go_ret
            exact ⟨rfl, HOA.out.sub (.cons _ (.cons _ (List.Sublist.refl _))), HD.out, HN.out⟩
          rw [if_pos rfl] at HMM
          change mCut b m0 m1 = some r at HMM
          go_upto_region 23 with (fail)
          have f0r := cell_regrown (w := W4.drew) f0
          have f1r := cell_regrown (w := W4.drew) f1
          refine wp_region_ph [.H [0, 1, 2, 3, 4, 5, 6], .S [7, 8]] (by kernel_rfl) (by kernel_rfl) ?_
          refine wpPs_H ?_
          repeat (refine wpQI_step rfl rfl (fun K hK => ?_); go_simp; first | (refine hK _ ?_; clear hK K))
          refine wpQI_nil ?_
          intro _ hw_
          obtain ⟨⟨dq, osq⟩, hw_⟩ := hw_
          subst hw_
          have hd := below_regrown_drew W4 dq osq
          generalize Go.Sort.grow (redrawn W4.drew _) _ = W5 at *
          clear f0r f1r f0 f1 hc0
          replace HOA := Lib.hid (HOA.out.below hd)
          replace HOP := Lib.hid (HOP.out.go (hd.mono HB.out))
          replace HN := Lib.hid (HN.out.trans (NC.of_below hd))
          replace HD := Lib.hid (HD.out.trans (hd.mono HB.out))
          replace HB := Lib.hid (Nat.le_trans HB.out hd.size); clear hd
          obtain ⟨e1, b1⟩ := r
          have HC := Lib.hid (mCut_okN (its1 := .fl (owI _ _) :: .fl (owS _ _) :: its1) W5 HOP.out.tab HOA.out HB.out HMM)
          refine wpPs_S rfl (fun Q' hQ' hL' => ?_)
          go_wp2_with fail
          refine HC.out.mono ?_; rintro e2 W6 ⟨rfl, hp, hd, hn⟩
          have HQ := Lib.hid hp; replace HD := Lib.hid (HD.out.trans hd); replace HN := Lib.hid (HN.out.trans hn); clear hd hn hp HC
          go_wp2_with fail
          refine hQ' _ _ ?_; clear hQ' hL' Q'
          refine wpPs_nil ?_
          go_wp2_with fail
          go_ret
          exact ⟨rfl, HQ.out.sub (.cons _ (.cons _ (List.Sublist.refl _))), HD.out, HN.out⟩
        · rw [if_pos rfl] at HMM
          change mJoin b m0 m1 = some r at HMM
          go_upto_region 21 with (fail)
          have f0r := cell_regrown (w := W4.drew) f0
          have f1r := cell_regrown (w := W4.drew) f1
          refine wp_region_ph [.H [0, 1, 2, 3, 4, 5, 6], .S [7, 8]] (by kernel_rfl) (by kernel_rfl) ?_
          refine wpPs_H ?_
          repeat (refine wpQI_step rfl rfl (fun K hK => ?_); go_simp; first | (refine hK _ ?_; clear hK K))
          refine wpQI_nil ?_
          intro _ hw_
          obtain ⟨⟨dq, osq⟩, hw_⟩ := hw_
          subst hw_
          have hd := below_regrown_drew W4 dq osq
          generalize Go.Sort.grow (redrawn W4.drew _) _ = W5 at *
          clear f0r f1r f0 f1 hc0
          replace HOA := Lib.hid (HOA.out.below hd)
          replace HOP := Lib.hid (HOP.out.go (hd.mono HB.out))
          replace HN := Lib.hid (HN.out.trans (NC.of_below hd))
          replace HD := Lib.hid (HD.out.trans (hd.mono HB.out))
          replace HB := Lib.hid (Nat.le_trans HB.out hd.size); clear hd
          obtain ⟨e1, b1⟩ := r
          have HC := Lib.hid (mJoin_okN (its1 := .fl (owI _ _) :: .fl (owS _ _) :: its1) W5 HOP.out.tab HOA.out HB.out HMM)
          refine wpPs_S rfl (fun Q' hQ' hL' => ?_)
          go_wp2_with fail
          refine HC.out.mono ?_; rintro e2 W6 ⟨rfl, hp, hd, hn⟩
          have HQ := Lib.hid hp; replace HD := Lib.hid (HD.out.trans hd); replace HN := Lib.hid (HN.out.trans hn); clear hd hn hp HC
          go_wp2_with fail
          refine hQ' _ _ ?_; clear hQ' hL' Q'
          refine wpPs_nil ?_
          go_wp2_with fail
          go_ret
          exact ⟨rfl, HQ.out.sub (.cons _ (.cons _ (List.Sublist.refl _))), HD.out, HN.out⟩
theorem mLine_ok {B g : Nat} {its1 its2 : List It} {b : BkT} {l : ByteArray} {r : Int × BkT} (w : World) (hop : OpB B w) (h : HP w B (its1 ++ bkI g b :: its2)) (hB : B ≤ w.heap.size) (hm : mLine b l = some r) :
    Calls Tryz.prog 19 #[.pointer (some ⟨g, 0, none⟩), .string l] w fun e w' =>
      e = .returned (errV 46 r.1) ∧ HP w' B (its1 ++ bkI g r.2 :: its2) ∧ Below B w w' :=
  (mLine_okN w hop h hB hm).mono fun _ _ h_ => ⟨h_.1, h_.2.1, h_.2.2.1⟩
end Go.Proofs.YtjpfmbffiagjgaaGreatDoor
