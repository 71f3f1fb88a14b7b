import Derived.Test.YtgnbholhgcbhfaaDoorT1
import Derived.Test.YtgnbholhgcbhfaaDoorCallApp
import Derived.Test.YtgnbholhgcbhfaaDoorBox
set_option linter.all false
set_option maxRecDepth 100000
namespace Go.Proofs.YtgnbholhgcbhfaaDoor
open Go.RowKit
attribute [local go_sem] Oper.semAt_some
def tree_name_L1 (F : Nat) (rec : (List Nat) → (Int) → (Int) → Option (ByteArray)) (v0 : List Nat) (v1 : Int) (v2 : Int) : List Nat → (List ByteArray) → Option (List ByteArray)
  | [], v4 => some (v4)
  | x :: xs, v4 => (if ((x : Int) != v2) = true then (rec (v0) ((x : Int)) (v1)).bind fun y2 => (app v4 y2).bind fun y1 => tree_name_L1 F rec v0 v1 v2 xs (y1) else tree_name_L1 F rec v0 v1 v2 xs (v4))
theorem tree_name_L1_n (F : Nat) (rec : (List Nat) → (Int) → (Int) → Option (ByteArray)) (v0 : List Nat) (v1 : Int) (v2 : Int) (v4 : List ByteArray) : tree_name_L1 F rec v0 v1 v2 [] v4 = some (v4) := by rw [tree_name_L1]
theorem tree_name_L1_c (F : Nat) (rec : (List Nat) → (Int) → (Int) → Option (ByteArray)) (v0 : List Nat) (v1 : Int) (v2 : Int) (v4 : List ByteArray) (x : Nat) (xs : List Nat) : tree_name_L1 F rec v0 v1 v2 (x :: xs) v4 = ((if ((x : Int) != v2) = true then (rec (v0) ((x : Int)) (v1)).bind fun y2 => (app v4 y2).bind fun y1 => tree_name_L1 F rec v0 v1 v2 xs (y1) else tree_name_L1 F rec v0 v1 v2 xs (v4))) := by rw [tree_name_L1]
def tree_name_L2 (F : Nat) (rec : (List Nat) → (Int) → (Int) → Option (ByteArray)) (v4 : List ByteArray) : Nat → (Int) → (ByteArray) → Option (ByteArray)
  | 0, _, _ => none
  | g+1, j, v6 => if j < ((v4).length : Int) then (ix v4 j).bind fun y => (sCat v6 y).bind fun y7 => tree_name_L2 F rec v4 g (wrap64 (j + 1)) (y7) else some (v6)
theorem tree_name_L2_0 (F : Nat) (rec : (List Nat) → (Int) → (Int) → Option (ByteArray)) (v4 : List ByteArray) (v6 : ByteArray) (j : Int) : tree_name_L2 F rec v4 0 j v6 = none := by rw [tree_name_L2]
theorem tree_name_L2_s (F g : Nat) (rec : (List Nat) → (Int) → (Int) → Option (ByteArray)) (v4 : List ByteArray) (v6 : ByteArray) (j : Int) : tree_name_L2 F rec v4 (g+1) j v6 = (if j < ((v4).length : Int) then (ix v4 j).bind fun y => (sCat v6 y).bind fun y7 => tree_name_L2 F rec v4 g (wrap64 (j + 1)) (y7) else some (v6)) := by rw [tree_name_L2]
def tree_name (F : Nat) : Nat → (List Nat) → (Int) → (Int) → Option (ByteArray)
  | 0, _, _, _ => none
  | d+1, v0, v1, v2 => (ix v0 v1).bind fun y5 => (sEach y5).bind fun y4 => (tree_name_L1 F (tree_name F d) (v0) (v1) (v2) y4 ([])).bind fun o3 => (slSortS o3).bind fun y6 => (tree_name_L2 F (tree_name F d) (y6) F (0) ((⟨#[40]⟩ : ByteArray))).bind fun o8 => (sCat o8 (⟨#[41]⟩ : ByteArray)).bind fun y9 => some (y9)
theorem tree_name_s (F d : Nat) (v0 : List Nat) (v1 : Int) (v2 : Int) : tree_name F (d+1) v0 v1 v2 = ((ix v0 v1).bind fun y5 => (sEach y5).bind fun y4 => (tree_name_L1 F (tree_name F d) (v0) (v1) (v2) y4 ([])).bind fun o3 => (slSortS o3).bind fun y6 => (tree_name_L2 F (tree_name F d) (y6) F (0) ((⟨#[40]⟩ : ByteArray))).bind fun o8 => (sCat o8 (⟨#[41]⟩ : ByteArray)).bind fun y9 => some (y9)) := by rw [tree_name]
theorem tree_name_0 (F : Nat) (v0 : List Nat) (v1 : Int) (v2 : Int) : tree_name F 0 v0 v1 v2 = none := by rw [tree_name]
set_option maxRecDepth 100000 in
set_option maxHeartbeats 4000000 in
theorem tree_name_ok {F : Nat} : ∀ (d : Nat) {v0 : List Nat} {A0 : Option Addr} {v1 : Int} {v2 : Int} {r : ByteArray} (w : World) (cap0 : Nat) (hr0 : ReadsM w w.heap.size A0 v0) (h : tree_name F d v0 v1 v2 = some r),
    Calls Tryd.prog 27 #[.slice A0 v0.length cap0, .int .i64 v1, .int .i64 v2] w fun e w' => e = .returned (.string r) ∧ Below w.heap.size w w' := by
  intro d
  induction d with
  | zero =>
    intro v0 A0 v1 v2 r w cap0 hr0 h
    rw [tree_name_0] at h; cases h
  | succ d ih =>
    intro v0 A0 v1 v2 r w cap0 hr0 h
    have HR0 := Lib.hid hr0; clear hr0
    have HD := Lib.hid (Below.refl w.heap.size w)
    have HOA := Lib.hid (HP.nil (W := w) (B := w.heap.size))
    rw [tree_name_s] at h
    have HM := Lib.hid h; clear h
    have HMK := Lib.hid (Marks.nil w.heap.size w)
    refine (callsIn_wide (n := 5)).1 ?_
    refine callsIn_of_wp_marks Tryd.func27 rfl trivial ?_ rfl
    simp only [Tryd.ntmps27, List.size_toArray, List.length_cons, List.length_nil, Nat.reduceAdd, Nat.reduceSub, Array.replicate_succ, Array.replicate_zero, List.push_toArray, List.append_toArray, List.nil_append, List.cons_append]
    refine wpIn_wide.2 ?_
    go_upto_region 1 with (fail)
    have hd : Below (World.heap w).size w (World.alloc w (.cells #[.slice A0 v0.length cap0] 48)) := (Below.refl _ _).alloc (Nat.le_refl _) _
    have ho := owX_ok w 48 (.slice A0 v0.length cap0)
    replace HOA := Lib.hid (HOA.out.call hd HD.out.size ho); clear ho
    replace HD := Lib.hid (HD.out.trans (hd.mono HD.out.size))
    replace HMK := Lib.hid (HMK.out.nc (NC.of_below hd))
    clear hd
    have hd : Below (World.heap (World.alloc w (.cells #[.slice A0 v0.length cap0] 48))).size (World.alloc w (.cells #[.slice A0 v0.length cap0] 48)) (World.alloc (World.alloc w (.cells #[.slice A0 v0.length cap0] 48)) (.cells #[.int .i64 (v1)] 3)) := (Below.refl _ _).alloc (Nat.le_refl _) _
    have ho := owX_ok (World.alloc w (.cells #[.slice A0 v0.length cap0] 48)) 3 (.int .i64 (v1))
    replace HOA := Lib.hid (HOA.out.call hd HD.out.size ho); clear ho
    simp only [World.size_alloc] at HOA
    replace HD := Lib.hid (HD.out.trans (hd.mono HD.out.size))
    replace HMK := Lib.hid (HMK.out.nc (NC.of_below hd))
    clear hd
    have hd : Below (World.heap (World.alloc (World.alloc w (.cells #[.slice A0 v0.length cap0] 48)) (.cells #[.int .i64 (v1)] 3))).size (World.alloc (World.alloc w (.cells #[.slice A0 v0.length cap0] 48)) (.cells #[.int .i64 (v1)] 3)) (World.alloc (World.alloc (World.alloc w (.cells #[.slice A0 v0.length cap0] 48)) (.cells #[.int .i64 (v1)] 3)) (.cells #[.int .i64 (v2)] 3)) := (Below.refl _ _).alloc (Nat.le_refl _) _
    have ho := owX_ok (World.alloc (World.alloc w (.cells #[.slice A0 v0.length cap0] 48)) (.cells #[.int .i64 (v1)] 3)) 3 (.int .i64 (v2))
    replace HOA := Lib.hid (HOA.out.call hd HD.out.size ho); clear ho
    simp only [World.size_alloc] at HOA
    replace HD := Lib.hid (HD.out.trans (hd.mono HD.out.size))
    replace HMK := Lib.hid (HMK.out.nc (NC.of_below hd))
    clear hd
    generalize hW : World.alloc (World.alloc (World.alloc w _) _) _ = W4 at *
    clear hW
    replace HOA := Lib.hid (show HP _ _ (.fl (owS (.slice none 0 0) ([])) :: _) from HOA.out.pushNil _ _)
    go_upto_region 2 with (fail)
    have hd : Below W4.heap.size W4 (W4.alloc (.cells #[(.slice none 0 0)] 55)) := (Below.refl _ _).alloc (Nat.le_refl _) _
    have ho := owX_ok W4 55 ((.slice none 0 0))
    generalize hW : World.alloc W4 _ = W6 at *
    clear hW
    replace HOA := Lib.hid (HOA.out.call hd HD.out.size ho); clear ho
    replace HD := Lib.hid (HD.out.trans (hd.mono HD.out.size))
    replace HMK := Lib.hid (HMK.out.nc (NC.of_below hd))
    clear hd
    have fb8 := HP.bx HOA.out (List.Mem.tail _ (List.Mem.tail _ (List.Mem.tail _ (List.Mem.head _))))
    have fb9 := HP.bx HOA.out (List.Mem.tail _ (List.Mem.tail _ (List.Mem.tail _ (List.Mem.tail _ (List.Mem.head _)))))
    obtain ⟨y10, hy11, hm⟩ := obind HM.out
    replace HM := Lib.hid hm; clear hm
    obtain ⟨b12, o13, ea14, _, f15, f16, f17⟩ := ReadsM.ix (rdM HD.out HR0.out) hy11
    cases ea14
    try simp only [Nat.zero_add, Nat.add_zero, Int.toNat_natCast, Int.toNat_zero, Int.toNat_one] at f17
    have HY19 := Lib.hid hy11; clear hy11
    obtain ⟨y20, hy21, hm⟩ := obind HM.out
    replace HM := Lib.hid hm; clear hm
    obtain ⟨hlt, hml⟩ := s_of hy21
    have HLT23 := Lib.hid hlt; have HML24 := Lib.hid hml; clear hlt hml hy21
    obtain ⟨o22, ho, hm⟩ := obind HM.out
    replace HM := Lib.hid hm; have HL1 := Lib.hid ho; clear hm ho
    go_wp2_with fail
    refine (each_any _ _).mono ?_; rintro e w' ⟨rfl, rfl⟩
    go_wp2_with fail
    try clear fb8 fb9 f15 f16 f17
    have hd : Below W6.heap.size W6 (W6.alloc (.cells #[.int .u64 (((y10) : Nat) : Int)] 46)) := (Below.refl _ _).alloc (Nat.le_refl _) _
    have ho := owX_ok W6 46 (.int .u64 (((y10) : Nat) : Int))
    generalize hW : World.alloc W6 _ = W25 at *
    clear hW
    replace HOA := Lib.hid (HOA.out.call hd HD.out.size ho); clear ho
    replace HD := Lib.hid (HD.out.trans (hd.mono HD.out.size))
    replace HMK := Lib.hid (HMK.out.nc (NC.of_below hd))
    clear hd
    have HDk29 := HD
    refine (wpIn_wide (n := 5)).1 (wp_each2 (m := y10) (Bs := W6.heap.size) (by omega) HLT23.out rfl (HP.bx HOA.out (List.Mem.head _)) rfl (fun rest W => ∃ (x27 : List ByteArray) (V28 : Value), Hid (Below w.heap.size w W) ∧ Hid (NC W25 W) ∧ Hid (HP W w.heap.size [.fl (owX 46 (some ⟨W6.heap.size, 0, none⟩) (.int .u64 (((y10) : Nat) : Int))), .fl (owX 55 (some ⟨W4.heap.size, 0, none⟩) (V28)), .fl (owS V28 (x27)), .fl (owX 3 (some ⟨(w.heap.size + 1 + 1), 0, none⟩) (.int .i64 (v2))), .fl (owX 3 (some ⟨(w.heap.size + 1), 0, none⟩) (.int .i64 (v1))), .fl (owX 48 (some ⟨(w.heap.size), 0, none⟩) (.slice (some ⟨b12, o13, none⟩) v0.length cap0))]) ∧ Hid (tree_name_L1 F (tree_name F d) (v0) (v1) (v2) rest x27 = some o22)) (fun _ _ => False) ?hI_q94 ?hIx_q94 ⟨[], (.slice none 0 0), HD, Lib.hid (NC.refl _), HOA, by rw [HML24.out]; exact HL1⟩ ?a1_q94 ?assign_q94 ?body_q94 ?done_q94 ?stop_q94)
    case hI_q94 =>
      rintro rest W W' ⟨x27, V28, hd, hn, hh, hl⟩ hk
      exact ⟨x27, V28, Lib.hid (hk.below hd.out HDk29.out.size (Nat.le_refl _)), Lib.hid (hn.out.keepC hk (Nat.le_refl _)), Lib.hid (hh.out.keepC hk), hl⟩
    case hIx_q94 => exact fun _ _ _ h _ => h
    case assign_q94 =>
      intro l x W K hK
      gi_wp2
      exact hK
    case body_q94 =>
      rintro l30 xn31 rest W32 hx ⟨x27, V28, HD, HN, HOA, HL1⟩ _ _ _ hJ34 hJx35 _ hQ33
      replace HL1 := Lib.hid ((tree_name_L1_c ..).symm.trans HL1.out)
      have HNB := Lib.hid (NC.refl W32)
      have fb36 := HP.bx HOA.out (List.Mem.tail _ (List.Mem.tail _ (List.Mem.tail _ (List.Mem.head _))))
      rcases Bool.eq_false_or_eq_true ((xn31 : Int) != v2) with hc37 | hc37
      · replace HL1 := Lib.hid (ifT hc37 HL1.out)
        have HK38 := Lib.hid hc37
        try gi_wp2_with fail
        try clear fb36 hc37
        have fb39 := HP.bx HOA.out (List.Mem.tail _ (List.Mem.tail _ (List.Mem.tail _ (List.Mem.tail _ (List.Mem.tail _ (List.Mem.head _))))))
        have fb40 := HP.bx HOA.out (List.Mem.tail _ (List.Mem.tail _ (List.Mem.tail _ (List.Mem.tail _ (List.Mem.head _)))))
        obtain ⟨y43, hy41, hm⟩ := obind HL1.out
        replace HL1 := Lib.hid hm; clear hm
        have HC42 := Lib.hid (fun (W_ : World) (hb_ : Below W32.heap.size W32 W_) => ih W_ cap0 (rdM hb_ (rdM HD.out HR0.out)) hy41); clear hy41
        obtain ⟨A44, cap45, he, _⟩ := HP.open_S HOA.out (List.Mem.tail _ (List.Mem.tail _ (List.Mem.head _)))
        subst he
        have fb46 := HP.bx HOA.out (List.Mem.tail _ (List.Mem.head _))
        obtain ⟨y47, hy48, hm⟩ := obind HL1.out
        replace HL1 := Lib.hid hm; clear hm
        obtain ⟨f49, hy48⟩ := app_some hy48; subst hy48
        have HF_ := Lib.hid f49; clear f49
        try clear fb39 fb40 fb46
        gi_wp2_with fail
        refine wpIn_region_callapp (open_round l30) 4 21 (f := 27) (args := #[(.slice (some ⟨b12, o13, none⟩) v0.length cap0), (.int .i64 ((xn31 : Int))), (.int .i64 (v1))]) (x := .string y43) (e' := 9) (vals := fun i_ => [((.slice A44 (x27).length cap45)), (.slice (some ⟨b12, o13, none⟩) v0.length cap0), (.int .i64 ((xn31 : Int))), (.int .i64 (v1))].getD i_ undef) (by kernel_rfl) rfl (by kernel_rfl) ?hsz_ ?hread_ ?hcall_ ?hbuild_ ?htail_
        case hsz_ => exact fun o_ ho_ => of_decide_eq_true (List.all_eq_true.1 (show (List.all _ fun o => decide (o.dst.getD 0 < 42)) = true by kernel_rfl) o_ ho_)
        case hread_ =>
          intro i_ o_ ho_ hi_ a_ W_ hlow_ hb_
          rcases (show i_ = 0 ∨ i_ = 1 ∨ i_ = 2 ∨ i_ = 3 by omega) with rfl | rfl | rfl | rfl
          · obtain rfl := Option.some.inj ho_
            have e_ : a_.eval (.tmp 7) = .pointer (some ⟨W4.heap.size, 0, none⟩) := (hlow_ 7 (by decide)).trans rfl
            have c_ := HP.bx (HOA.out.below hb_) (List.Mem.tail _ (List.Mem.head _))
            simp [go_sem] at e_
            simp [execOp, e_, c_, go_sem]
          · obtain rfl := Option.some.inj ho_
            have e_ : a_.eval (.tmp 3) = .pointer (some ⟨(w.heap.size), 0, none⟩) := (hlow_ 3 (by decide)).trans rfl
            have c_ := HP.bx (HOA.out.below hb_) (List.Mem.tail _ (List.Mem.tail _ (List.Mem.tail _ (List.Mem.tail _ (List.Mem.tail _ (List.Mem.head _))))))
            simp [go_sem] at e_
            simp [execOp, e_, c_, go_sem]
          · obtain rfl := Option.some.inj ho_
            have e_ : a_.eval (.tmp 8) = .int .i64 ((xn31 : Int)) := (hlow_ 8 (by decide)).trans rfl
            simp [go_sem] at e_
            simp [execOp, e_, go_sem]
          · obtain rfl := Option.some.inj ho_
            have e_ : a_.eval (.tmp 4) = .pointer (some ⟨(w.heap.size + 1), 0, none⟩) := (hlow_ 4 (by decide)).trans rfl
            have c_ := HP.bx (HOA.out.below hb_) (List.Mem.tail _ (List.Mem.tail _ (List.Mem.tail _ (List.Mem.tail _ (List.Mem.head _)))))
            simp [go_sem] at e_
            simp [execOp, e_, c_, go_sem]
        case hcall_ =>
          intro o_ ho_ a_ W_ hlow_ hval_ hb_
          obtain rfl := Option.some.inj ho_
          have e22_ : a_.eval (.tmp 22) = (.slice (some ⟨b12, o13, none⟩) v0.length cap0) := hval_ 1 _ (by decide) (by decide) rfl
          have e23_ : a_.eval (.tmp 23) = (.int .i64 ((xn31 : Int))) := hval_ 2 _ (by decide) (by decide) rfl
          have e24_ : a_.eval (.tmp 24) = (.int .i64 (v1)) := hval_ 3 _ (by decide) (by decide) rfl
          refine ⟨?_, (HC42.out W_ hb_).mono fun e_ w_ h_ => h_⟩
          simp only [execOp, resolve, invoke, Sem.run_bind, Sem.run_pure, Result.andThen_ok, List.map_toArray, List.map_cons, List.map_nil, e22_, e23_, e24_]
          exact enters_of Tryd.func27 (by kernel_rfl) rfl _ _
        case hbuild_ =>
          intro o_ oc_ ho_ hoc_ a_ W_ hx_
          obtain rfl := Option.some.inj ho_
          obtain rfl := Option.some.inj hoc_
          have hx2_ := hx_
          simp [go_sem] at hx2_
          simp [execOp, hx_, hx2_, go_sem]
        case htail_ =>
          intro a_ W53 hb_ hlow_ hsz_ h0_ h1_
          have e0_ : a_.eval (.tmp 21) = ((.slice A44 (x27).length cap45)) := h0_ (by decide) _ rfl
          have e1_ : a_.eval (.tmp 26) = .slice (some ⟨W53.heap.size, 0, none⟩) 1 1 := h1_ _ rfl
          have ep_ : a_.eval (.tmp 7) = .pointer (some ⟨W4.heap.size, 0, none⟩) := (hlow_ 7 (by decide)).trans rfl
          replace HOA := Lib.hid (HOA.out.below hb_)
          replace HNB := Lib.hid (HNB.out.trans (NC.of_below hb_))
          replace HD := Lib.hid (HD.out.trans (hb_.mono HD.out.size))
          obtain ⟨V50, W51, hrun, hoa, hb, hn⟩ := run_appS (e' := 9) (y := y43) (L1 := [_, _]) W53 55 55 Tryd.underlying55 HOA.out HF_.out HD.out.size
          obtain ⟨A57, cap58, he, _⟩ := HP.open_S hoa (List.Mem.tail _ (List.Mem.tail _ (List.Mem.head _)))
          obtain ⟨n59, hn3⟩ : ∃ n, List.length (x27 ++ [y43]) = n := ⟨_, rfl⟩
          rw [hn3] at he; subst he; clear hn3
          obtain ⟨q0, q1, hp, hb2⟩ := HP.setBx (its1 := [_]) hoa (.slice A57 n59 cap58)
          refine wpIn_appRun hrun rfl rfl e0_ e1_ ?_
          have ep2_ : (a_.put (some 27) (.slice A57 n59 cap58)).eval (.tmp 7) = .pointer (some ⟨W4.heap.size, 0, none⟩) := (Act.eval_put_ne a_ _ _ _ (by decide)).trans ep_
          have ev2_ : (a_.put (some 27) (.slice A57 n59 cap58)).eval (.tmp 27) = (.slice A57 n59 cap58) := Act.eval_put_same a_ _ _ (by rw [hsz_]; show (27 : Nat) < 42; decide)
          have HP_ := Lib.hid hp; have HB_ := Lib.hid (hb.trans hb2); have HN_ := Lib.hid hn; clear hp hb hb2 hn hoa hrun e0_ e1_ ep_ hlow_ h0_ h1_ hb_
          generalize hA_ : a_.put (some 27) (.slice A57 n59 cap58) = a2_ at *
          change wpListIn _ _ _ _ _ _ a2_ _
          simp [go_sem] at ep2_ ev2_
          gi_wp2_with fail
          have hp := HP_.out; have hb := HB_.out; clear HP_ HB_
          replace HNB := Lib.hid (HNB.out.trans (HN_.out.trans (NC.setCell W51 ⟨W4.heap.size, 0, none⟩ (.slice A57 n59 cap58))))
          generalize hW : World.setCell W51 _ _ = W52 at *
          clear hW HN_ q0 q1
          replace HOA := Lib.hid (show HP W52 w.heap.size [.fl (owX 46 (some ⟨W6.heap.size, 0, none⟩) (.int .u64 (((y10) : Nat) : Int))), .fl (owX 55 (some ⟨W4.heap.size, 0, none⟩) ((.slice A57 n59 cap58))), .fl (owS (.slice A57 n59 cap58) ((x27 ++ [y43]))), .fl (owX 3 (some ⟨(w.heap.size + 1 + 1), 0, none⟩) (.int .i64 (v2))), .fl (owX 3 (some ⟨(w.heap.size + 1), 0, none⟩) (.int .i64 (v1))), .fl (owX 48 (some ⟨(w.heap.size), 0, none⟩) (.slice (some ⟨b12, o13, none⟩) v0.length cap0))] from hp); clear hp
          replace HD := Lib.hid (HD.out.trans hb); clear hb
          gi_wp2_with fail
          exact ⟨HNB.out, HP.bx HOA.out (List.Mem.head _), hJ34 _ ⟨(x27 ++ [y43]), (.slice A57 n59 cap58), HD, Lib.hid (HN.out.trans HNB.out), HOA, HL1⟩⟩
      · replace HL1 := Lib.hid (ifF (bF hc37) HL1.out)
        have HK38 := Lib.hid hc37
        gi_wp2_with fail
        try clear fb36 hc37
        exact ⟨HNB.out, HP.bx HOA.out (List.Mem.head _), hJ34 _ ⟨x27, V28, HD, Lib.hid (HN.out.trans HNB.out), HOA, HL1⟩⟩
    case done_q94 =>
      rintro D60 W61 hD ⟨x27, V28, HD, HN, HOA, HL1⟩ hK
      have hov := Option.some.inj ((tree_name_L1_n ..).symm.trans HL1.out)
      replace HMK := Lib.hid (HMK.out.push HN.out hD HDk29.out.size hK); clear hK hD HN
      subst hov
      have hm := HM.out; try dsimp only at hm
      replace HM := Lib.hid hm; clear hm
      obtain ⟨A62, cap63, he, _⟩ := HP.open_S HOA.out (List.Mem.tail _ (List.Mem.tail _ (List.Mem.head _)))
      subst he
      have fb64 := HP.bx HOA.out (List.Mem.tail _ (List.Mem.head _))
      obtain ⟨y65, hy66, hm⟩ := obind HM.out
      replace HM := Lib.hid hm; clear hm
      have HC67 := Lib.hid (hp_sortS (its1 := [_, _]) HOA.out HD.out.size hy66); clear hy66
      go_wp2_with fail
      refine HC67.out.mono ?_; rintro e W68 ⟨rfl, hp, hb, hn⟩
      replace HMK := Lib.hid (HMK.out.nc (hn))
      clear hn
      try clear fb64
      replace HOA := Lib.hid (show HP W68 w.heap.size [.fl (owX 46 (some ⟨W6.heap.size, 0, none⟩) (.int .u64 (((y10) : Nat) : Int))), .fl (owX 55 (some ⟨W4.heap.size, 0, none⟩) ((.slice A62 (x27).length cap63))), .fl (owS (.slice A62 (x27).length cap63) (y65)), .fl (owX 3 (some ⟨(w.heap.size + 1 + 1), 0, none⟩) (.int .i64 (v2))), .fl (owX 3 (some ⟨(w.heap.size + 1), 0, none⟩) (.int .i64 (v1))), .fl (owX 48 (some ⟨(w.heap.size), 0, none⟩) (.slice (some ⟨b12, o13, none⟩) v0.length cap0))] from hp); clear hp
      replace HD := Lib.hid (HD.out.trans hb); clear hb
      have fb69 := HP.bx HOA.out (List.Mem.tail _ (List.Mem.head _))
      go_wp2_with fail
      try clear fb69
      obtain ⟨o70, ho, hm⟩ := obind HM.out
      replace HM := Lib.hid hm; have HL2 := Lib.hid ho; clear hm ho
      go_loopg [32, 9] F (fun gg uj ux72 wr => ∃ (j73 : Int) (x71 : ByteArray), uj = .int .i64 j73 ∧ ux72 = .string x71 ∧ Hid (Below W68.heap.size W68 wr) ∧ Hid (tree_name_L2 F (tree_name F d) (y65) gg j73 x71 = some o70))
      case atStart => exact ⟨0, (⟨#[40]⟩ : ByteArray), rfl, rfl, (Lib.hid (Below.refl _ _)), HL2⟩
      case round =>
        obtain ⟨j73, x71, rfl, rfl, HW2, HL2⟩ := hrel
        rename World => W74
        have hd := HW2.out
        replace HOA := Lib.hid (HOA.out.below hd)
        replace HD := Lib.hid (HD.out.trans (hd.mono HD.out.size))
        replace HMK := Lib.hid (HMK.out.nc (NC.of_below hd))
        clear hd
        cases gk with
        | zero => exact absurd ((tree_name_L2_0 ..).symm.trans HL2.out) (by intro h; cases h)
        | succ g2 =>
          replace HL2 := Lib.hid ((tree_name_L2_s ..).symm.trans HL2.out)
          by_cases hc75 : j73 < ((y65).length : Int)
          · replace HL2 := Lib.hid (ifT hc75 HL2.out)
            have HK76 := Lib.hid hc75
            try rw [← HP.len_S HOA.out (List.Mem.tail _ (List.Mem.tail _ (List.Mem.head _)))] at hc75
            have fb77 := HP.bx HOA.out (List.Mem.tail _ (List.Mem.head _))
            obtain ⟨y78, hy79, hm⟩ := obind HL2.out
            replace HL2 := Lib.hid hm; clear hm
            obtain ⟨b80, o81, ea82, _, f83, f84, f85⟩ := ReadsS.ix (HP.rd_S HOA.out (List.Mem.tail _ (List.Mem.tail _ (List.Mem.head _)))) hy79
            cases ea82
            try simp only [Nat.zero_add, Nat.add_zero, Int.toNat_natCast, Int.toNat_zero, Int.toNat_one] at f85
            try rw [← HP.len_S HOA.out (List.Mem.tail _ (List.Mem.tail _ (List.Mem.head _)))] at f84
            have HY87 := Lib.hid hy79; clear hy79
            obtain ⟨y88, hy89, hm⟩ := obind HL2.out
            replace HL2 := Lib.hid hm; clear hm
            obtain ⟨f90, hy89⟩ := sCat_some hy89; subst hy89
            have f90b := f90; simp at f90b; have f90c := Int.not_lt.2 f90b; clear f90b
            go_wp2_with fail
            try clear hc75 fb77 f83 f84 f85 f90c f90
            go_roundg g2
            case measure => omega
            case rel => exact ⟨(wrap64 (j73 + 1)), (x71 ++ y78), rfl, rfl, HW2, HL2⟩
          · replace HL2 := Lib.hid (ifF hc75 HL2.out)
            have hc75d := decide_eq_false hc75
            have HK76 := Lib.hid hc75
            try rw [← HP.len_S HOA.out (List.Mem.tail _ (List.Mem.tail _ (List.Mem.head _)))] at hc75
            obtain rfl := Option.some.inj HL2.out
            have hm := HM.out; try dsimp only at hm
            replace HM := Lib.hid hm; clear hm
            obtain ⟨y91, hy92, hm⟩ := obind HM.out
            replace HM := Lib.hid hm; clear hm
            obtain ⟨f93, hy92⟩ := sCat_some hy92; subst hy92
            have f93b := f93; simp at f93b; have f93c := Int.not_lt.2 f93b; clear f93b
            obtain rfl := Option.some.inj HM.out
            go_wp2_with fail
            try clear hc75 hc75d f93c f93
            refine leave_marks (B := w.heap.size) _ _ HMK.out (fun W' => results_tmp rfl _ _ _) (fun W' hk => ⟨rfl, hk.below HD.out (Nat.le_refl _) (Nat.le_refl _)⟩)
    case stop_q94 => exact fun _ _ _ _ h _ => h.elim
end Go.Proofs.YtgnbholhgcbhfaaDoor
