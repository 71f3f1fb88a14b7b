import Derived.Test.YtekfgkeimlidhaaGreatDoorDq
import Derived.Test.YtekfgkeimlidhaaGreatDoorR3
/- the document's session: plain -/
set_option linter.all false
set_option maxRecDepth 100000
namespace Go.Proofs.YtekfgkeimlidhaaGreatDoor
open Go.RowKit Go.Shelf Pl
theorem tl_is (x : ByteArray) (l : List UInt8) : (x.toList == l) = decide (x = ⟨l.toArray⟩) := by
  rw [Lib.toList_data, Bool.eq_iff_iff, beq_iff_eq, decide_eq_true_eq]
  constructor
  · intro h; exact bytes_ext h
  · rintro rfl; rfl
def vA4 (x : RbT) (w0 : ByteArray) (ns : List Int) : Option (ByteArray × RbT) :=
  if w0 = kJ ∧ ns.length = 2 then (mJ4 x (ns.getD 0 0) (ns.getD 1 0)).bind fun r => chkO (0 ≤ r.2 ∧ r.2 ≤ 6) (tld r.2, r.1)
  else if w0 = kC ∧ ns.length = 2 then (mC4 x (ns.getD 0 0) (ns.getD 1 0)).bind fun r => chkO (0 ≤ r.2 ∧ r.2 ≤ 6) (tld r.2, r.1)
  else if w0 = kF ∧ ns.length = 2 then (mF4 x (ns.getD 0 0) (ns.getD 1 0)).bind fun r => chkO ((0 ≤ r.2 ∧ r.2 ≤ 6) ∧ r.1 ≤ 1000) (farS r, x)
  else if w0 = kM ∧ ns.length = 0 then chkO ((allL x.1).length ≤ 1000) (dec ((allL x.1).length : Int), x)
  else if w0 = kX ∧ ns.length = 1 then (if 0 ≤ ns.getD 0 0 then (mO4 (x.2.1.extract 0 (min (ns.getD 0 0) (x.2.1.size : Int)).toNat)).bind fun r => chkO ((0 ≤ r.2.2 ∧ r.2.2 ≤ 6) ∧ 0 ≤ r.2.1 ∧ r.2.1 ≤ 1000000) (if r.2.2 = 0 then fndS r.2.1 else tld r.2.2, if r.2.2 = 0 then r.1 else x) else none)
  else some (badS, x)
def wA4 (x : RbT) (w0 : ByteArray) : Option (List Int) → Option (ByteArray × RbT)
  | none => some (badS, x)
  | some ns => vA4 x w0 ns
def mA4 (x : RbT) (s : ByteArray) : Option (ByteArray × RbT) := if s.size ≤ 100000 then wA4 x ((wdsB s).getD 0 ByteArray.empty) (wdN (wdsB s).tail []) else none
theorem verb_rel {x : RbT} {b b' : BkT} {a w0 : ByteArray} {ns : List Int} (h : RRel x b) (hm : mVerb b w0 ns = some (a, b')) : ∃ x', vA4 x w0 ns = some (a, x') ∧ RRel x' b' := by
  have nJC : kJ ≠ kC := by decide +kernel
  have nJF : kJ ≠ kF := by decide +kernel
  have nJM : kJ ≠ kM := by decide +kernel
  have nJX : kJ ≠ kX := by decide +kernel
  have nCF : kC ≠ kF := by decide +kernel
  have nCM : kC ≠ kM := by decide +kernel
  have nCX : kC ≠ kX := by decide +kernel
  have nFM : kF ≠ kM := by decide +kernel
  have nFX : kF ≠ kX := by decide +kernel
  have nMX : kM ≠ kX := by decide +kernel
  unfold mVerb vbO at hm
  unfold vA4
  by_cases h0 : w0 = kJ
  · subst h0
    rw [if_pos rfl] at hm
    replace hm : (if ns.length = 2 then vAct b 0 ns else some (badS, b)) = some (a, b') := hm
    by_cases hl : ns.length = 2
    · rw [if_pos hl] at hm
      rw [if_pos ⟨rfl, hl⟩]
      unfold vAct at hm
      rw [if_pos rfl] at hm
      obtain ⟨e, x', b2, j1, j2, j3, _⟩ := join_rel h (ns.getD 0 0) (ns.getD 1 0)
      rw [j1, Option.bind_some] at hm
      rw [j2, Option.bind_some]
      obtain ⟨c1, c2⟩ := chkO_some hm
      cases c2
      exact ⟨x', by unfold chkO; rw [if_pos c1], j3⟩
    · rw [if_neg hl] at hm
      cases hm
      rw [if_neg fun q => hl q.2, if_neg fun q => nJC q.1, if_neg fun q => nJF q.1, if_neg fun q => nJM q.1, if_neg fun q => nJX q.1]
      exact ⟨x, rfl, h⟩
  rw [if_neg h0] at hm
  rw [if_neg fun q => h0 q.1]
  by_cases h1 : w0 = kC
  · subst h1
    rw [if_pos rfl] at hm
    replace hm : (if ns.length = 2 then vAct b 1 ns else some (badS, b)) = some (a, b') := hm
    by_cases hl : ns.length = 2
    · rw [if_pos hl] at hm
      rw [if_pos ⟨rfl, hl⟩]
      unfold vAct at hm
      rw [if_neg (by decide), if_pos rfl] at hm
      obtain ⟨e, x', b2, j1, j2, j3, _⟩ := cut_rel h (ns.getD 0 0) (ns.getD 1 0)
      rw [j1, Option.bind_some] at hm
      rw [j2, Option.bind_some]
      obtain ⟨c1, c2⟩ := chkO_some hm
      cases c2
      exact ⟨x', by unfold chkO; rw [if_pos c1], j3⟩
    · rw [if_neg hl] at hm
      cases hm
      rw [if_neg fun q => hl q.2, if_neg fun q => nCF q.1, if_neg fun q => nCM q.1, if_neg fun q => nCX q.1]
      exact ⟨x, rfl, h⟩
  rw [if_neg h1] at hm
  rw [if_neg fun q => h1 q.1]
  by_cases h2 : w0 = kF
  · subst h2
    rw [if_pos rfl] at hm
    replace hm : (if ns.length = 2 then vAct b 2 ns else some (badS, b)) = some (a, b') := hm
    by_cases hl : ns.length = 2
    · rw [if_pos hl] at hm
      rw [if_pos ⟨rfl, hl⟩]
      unfold vAct at hm
      rw [if_neg (by decide), if_neg (by decide), if_pos rfl] at hm
      obtain ⟨r, j1, j2, _⟩ := far_rel h (ns.getD 0 0) (ns.getD 1 0)
      rw [j1, Option.bind_some] at hm
      rw [j2, Option.bind_some]
      obtain ⟨c1, c2⟩ := chkO_some hm
      cases c2
      exact ⟨x, by unfold chkO; rw [if_pos c1], h⟩
    · rw [if_neg hl] at hm
      cases hm
      rw [if_neg fun q => hl q.2, if_neg fun q => nFM q.1, if_neg fun q => nFX q.1]
      exact ⟨x, rfl, h⟩
  rw [if_neg h2] at hm
  rw [if_neg fun q => h2 q.1]
  by_cases h3 : w0 = kM
  · subst h3
    rw [if_pos rfl] at hm
    replace hm : (if ns.length = 0 then vAct b 3 ns else some (badS, b)) = some (a, b') := hm
    by_cases hl : ns.length = 0
    · rw [if_pos hl] at hm
      rw [if_pos ⟨rfl, hl⟩]
      unfold vAct at hm
      rw [if_neg (by decide), if_neg (by decide), if_neg (by decide), if_pos rfl, lines_ev h.inv, Option.bind_some, all_eq h] at hm
      obtain ⟨c1, c2⟩ := chkO_some hm
      cases c2
      exact ⟨x, by unfold chkO; rw [if_pos c1], h⟩
    · rw [if_neg hl] at hm
      cases hm
      rw [if_neg fun q => hl q.2, if_neg fun q => nMX q.1]
      exact ⟨x, rfl, h⟩
  rw [if_neg h3] at hm
  rw [if_neg fun q => h3 q.1]
  by_cases h4 : w0 = kX
  · subst h4
    rw [if_pos rfl] at hm
    replace hm : (if ns.length = 1 then vAct b 4 ns else some (badS, b)) = some (a, b') := hm
    by_cases hl : ns.length = 1
    · rw [if_pos hl] at hm
      rw [if_pos ⟨rfl, hl⟩]
      unfold vAct at hm
      rw [if_neg (by decide), if_neg (by decide), if_neg (by decide), if_neg (by decide)] at hm
      split at hm
      case isFalse => cases hm
      rename_i hc
      rw [if_pos hc.1, h.txt]
      obtain ⟨e, m, b2, x2, o1, o2, o3⟩ := open4_rel (b.2.1.extract 0 (min (ns.getD 0 0) (b.2.1.size : Int)).toNat)
      rw [o1, Option.bind_some] at hm
      rw [o2, Option.bind_some]
      obtain ⟨c1, c2⟩ := chkO_some hm
      refine ⟨if e = 0 then x2 else x, ?_, ?_⟩
      · unfold chkO
        rw [if_pos c1]
        cases c2
        rfl
      · have hb : (if e = 0 then b2 else b) = b' := congrArg Prod.snd c2
        rw [← hb]
        by_cases he : e = 0
        · rw [if_pos he, if_pos he]; exact o3 he
        · rw [if_neg he, if_neg he]; exact h
    · rw [if_neg hl] at hm
      cases hm
      rw [if_neg fun q => hl q.2]
      exact ⟨x, rfl, h⟩
  rw [if_neg h4] at hm
  cases hm
  rw [if_neg fun q => h4 q.1]
  exact ⟨x, rfl, h⟩
theorem ans_rel {x : RbT} {b b' : BkT} {a s : ByteArray} (h : RRel x b) (hm : mAns b s = some (a, b')) : ∃ x', mA4 x s = some (a, x') ∧ RRel x' b' := by
  unfold mAns at hm
  unfold mA4
  split at hm
  case isFalse => cases hm
  rename_i hs
  rw [if_pos hs]
  cases e : wdN (wdsB s).tail [] with
  | none => rw [e] at hm; cases hm; exact ⟨x, rfl, h⟩
  | some ns => rw [e] at hm; exact verb_rel h hm
/-- all answers -/
def runD : RbT → List (List UInt8) → Option (List UInt8 × RbT)
  | x, [] => some ([], x)
  | x, l :: ls => (mA4 x ⟨l.toArray⟩).bind fun r => (runD r.2 ls).map fun q => (r.1.data.toList ++ 10 :: q.1, q.2)
theorem run_rel : ∀ (ls : List (List UInt8)) (x : RbT) (b b' : BkT) (q : List UInt8), RRel x b → runL b ls = some (q, b') → ∃ x', runD x ls = some (q, x') ∧ RRel x' b'
  | [], x, b, b', q, h, hr => by cases hr; exact ⟨x, rfl, h⟩
  | l :: ls, x, b, b', q, h, hr => by
    replace hr : ((mAns b ⟨l.toArray⟩).bind fun r => (runL r.2 ls).map fun q => (r.1.data.toList ++ 10 :: q.1, q.2)) = some (q, b') := hr
    obtain ⟨a, a1, hr⟩ := obind hr
    cases e : runL a.2 ls with
    | none => rw [e] at hr; cases hr
    | some q2 =>
      rw [e] at hr
      replace hr : some (a.1.data.toList ++ 10 :: q2.1, q2.2) = some (q, b') := hr
      cases hr
      obtain ⟨x1, y1, y2⟩ := ans_rel h (a := a.1) (b' := a.2) a1
      obtain ⟨x2, z1, z2⟩ := run_rel ls x1 a.2 q2.2 q2.1 y2 e
      refine ⟨x2, ?_, z2⟩
      show ((mA4 x ⟨l.toArray⟩).bind fun r => (runD r.2 ls).map fun q => (r.1.data.toList ++ 10 :: q.1, q.2)) = _
      rw [y1, Option.bind_some]
      show (runD x1 ls).map _ = _
      rw [z1]; rfl
/-- a session, as the document has it -/
theorem sess_rel {t : ByteArray} (ht : t.size ≤ 3000) : ∃ q x', mRun t = some ⟨q.toArray⟩ ∧ runD rb0 (linesR t.data.toList) = some (q, x') ∧ q.length ≤ 63000 := by
  obtain ⟨q, b, h1, h2, h3, h4, h5, h6⟩ := mRun_tot t ht
  obtain ⟨x', y1, _⟩ := run_rel _ rb0 newB b q rrel_new h1
  exact ⟨q, x', h2, y1, h6⟩
end Go.Proofs.YtekfgkeimlidhaaGreatDoor
/- the document's answer to a line: walk -/
set_option linter.all false
set_option maxRecDepth 100000
namespace Go.Proofs.YtekfgkeimlidhaaGreatDoor
open Go.RowKit Go.Shelf Pl
theorem called_ok (e : Int) (h : 0 ≤ e ∧ e ≤ 6) (w : World) : Calls Tryz.prog 28 #[.int .i64 e] w fun en w' => en = .returned (.string (tld e)) ∧ w = w' := by
  by_cases c : e = 0
  · subst c
    go_enter Tryz.func28, Tryz.ntmps28
    go_wp2_with fail
    go_ret
    exact ⟨rfl, rfl⟩
  · have hb : (e == 0) = false := beq_eq_false_iff_ne.2 c
    have HC := Lib.hid (errno_ok e (by omega) w)
    go_enter Tryz.func28, Tryz.ntmps28
    go_wp2_with fail
    refine HC.out.mono ?_; rintro e2 _ ⟨rfl, rfl⟩
    go_wp2_with fail
    go_ret
    exact ⟨rfl, rfl⟩
theorem HP.intCell2 {W : World} {B g o n cap i : Nat} {its : List It} {l : List Int} {x : Int} (hp : HP W B its) (ho : It.fl (owI (.slice (some ⟨g, o, none⟩) n cap) l) ∈ its) (hx : l[i]? = some x) : W.cell? ⟨g, o + i, none⟩ = some (.int .i64 x) := by
  have hr := HP.rd_I hp ho
  have hlt := (List.getElem?_eq_some_iff.1 hx).1
  obtain ⟨g', o', e, hb, hc⟩ := hr.2 (by omega)
  cases e
  exact hc i (.int .i64 x) (by rw [List.getElem?_map, hx]; rfl)
theorem pcsA_len (c : UInt8) : ∀ (l cur p : List UInt8), p ∈ pcsA c cur l → p.length ≤ cur.length + l.length
  | [], cur, p, h => by
    unfold pcsA at h
    rw [List.mem_singleton.1 h]; simp
  | b :: l, cur, p, h => by
    unfold pcsA at h
    split at h
    · rcases List.mem_cons.1 h with h | h
      · rw [h]; omega
      · have := pcsA_len c l [] p h; simp at this ⊢; omega
    · have := pcsA_len c l (cur ++ [b]) p h; simp at this ⊢; omega
theorem wds_size {s y : ByteArray} (h : y ∈ wdsB s) : y.size ≤ s.size := by
  rw [wds_eq] at h
  obtain ⟨p, hp, rfl⟩ := List.mem_map.1 h
  have := pcsA_len 32 s.data.toList [] p hp
  rw [bytes_len] at this
  have e : (⟨p.toArray⟩ : ByteArray).size = p.length := by show p.toArray.size = _; simp
  rw [e]; simpa using this
/-- a book and a text -/
def PostA (w : World) (V0 : Value) (x : RbT) (r : ByteArray × RbT) : Ending → World → Prop := fun e w' =>
  ∃ V, e = .returned (.tuple #[.agg #[V, .string r.2.2.1, .int .i64 r.2.2.2], .string r.1]) ∧ RBo w' w.heap.size V0 x.1 V r.2.1 ∧ Below w.heap.size w w'
set_option maxHeartbeats 16000000 in
theorem answer_ok {x : RbT} {A : Option Addr} {cap : Nat} {s : ByteArray} {r : ByteArray × RbT} (w : World) (hr : ReadsL w w.heap.size A x.1) (hx1 : x.1.length < 290) (hx2 : x.2.1.size < 1000000) (hm : mA4 x s = some r) :
    Calls Tryz.prog 13 #[.agg #[.slice A x.1.length cap, .string x.2.1, .int .i64 x.2.2], .string s] w (PostA w (.slice A x.1.length cap) x r) := by
  unfold mA4 at hm
  split at hm
  case isFalse => cases hm
  rename_i hls
  unfold PostA
  have HR := Lib.hid hr; have HX1 := Lib.hid hx1; have HX2 := Lib.hid hx2
  clear hr hx1 hx2
  have HOA := Lib.hid (rb_two w (.slice A x.1.length cap) x.2.1 x.2.2)
  have HD := Lib.hid (show Below w.heap.size w ((w.alloc (.cells #[.slice A x.1.length cap, .string x.2.1, .int .i64 x.2.2] 44)).alloc (.cells #[.slice none 0 0, .string { data := #[] }, .int .i64 0] 44)) from ((Below.refl _ _).alloc (Nat.le_refl _) _).alloc (by simp) _)
  obtain ⟨nx, hnx⟩ : ∃ nx, nx = x.1.length := ⟨_, rfl⟩
  rw [← hnx] at HOA HD ⊢
  have HNX := Lib.hid hnx; clear hnx
  have HC3 := Lib.hid (fun W => cutS4_ok (s := s) (c := 32) W (by omega))
  rw [← wds_eq] at HC3
  have hcnt : (wdsB s).length ≤ s.size + 1 := by
    have h1 : (wdsB s).length = Lib.countB s ⟨#[32]⟩ + 1 := Lib.splitB_all _ (by decide) 0 _ _ rfl
    have h2 := Lib.countB_le ⟨#[32]⟩ (by decide) _ s (Nat.le_refl _)
    omega
  obtain ⟨pa, pr, hpr⟩ := pcsA_ne 32 s.data.toList []
  obtain ⟨w0, tl, hws⟩ : ∃ w0 tl, wdsB s = w0 :: tl := ⟨_, _, (wds_eq _).trans (congrArg (List.map _) hpr)⟩
  rw [hws] at hcnt HC3 hm
  rw [List.length_cons] at hcnt
  change wA4 x w0 (wdN tl []) = some r at hm
  have HM := Lib.hid hm
  have hws8 : ∀ y ∈ tl, y.size < 1000000 := fun y hy => by
    have := wds_size (s := s) (y := y) (by rw [hws]; exact List.mem_cons_of_mem _ hy)
    omega
  have HWS := Lib.hid hws8
  clear hm hpr pa pr hws hws8
  have nJC : kJ ≠ kC := by decide +kernel
  have nJF : kJ ≠ kF := by decide +kernel
  have nJM : kJ ≠ kM := by decide +kernel
  have nJX : kJ ≠ kX := by decide +kernel
  have nCF : kC ≠ kF := by decide +kernel
  have nCM : kC ≠ kM := by decide +kernel
  have nCX : kC ≠ kX := by decide +kernel
  have nFM : kF ≠ kM := by decide +kernel
  have nFX : kF ≠ kX := by decide +kernel
  have nMX : kM ≠ kX := by decide +kernel
  go_enter Tryz.func13, Tryz.ntmps13
  go_upto_region 1 with (fail)
  generalize World.alloc (World.alloc w _) _ = W2 at *
  go_wp2_with fail
  refine (HC3.out _).mono ?_; rintro e W4 ⟨V, rfl, ho, hd⟩
  replace HOA := Lib.hid (HOA.out.call hd HD.out.size ho)
  replace HD := Lib.hid (HD.out.trans (hd.mono HD.out.size)); clear hd ho HC3
  obtain ⟨h, o, cw, hV⟩ := HP.strAt HOA.out (List.Mem.head _)
  subst hV
  replace HOA := Lib.hid (show HP W4 w.heap.size [.fl (owI (.slice none 0 0) []), .fl (owS (.slice (some ⟨h, o, none⟩) (tl.length + 1) cw) (w0 :: tl)), zeroRB (w.heap.size + 1), .fl (owRB w.heap.size (.slice A nx cap) x.2.1 x.2.2)] from HOA.out.pushNil _ _)
  go_wp2_with fail
  go_loopg [7, 8] (tl.length + 1) (fun gg u7 u8 wr => ∃ (j : Nat) (nums : List Int) (V : Value), V = u7 ∧ u8 = .int .i64 ((j + 1 : Nat) : Int) ∧ Hid (j + gg = tl.length + 1 ∧ nums.length = j ∧ j ≤ tl.length) ∧ Hid (Below w.heap.size w wr) ∧
    Hid (HP wr w.heap.size [.fl (owI V nums), .fl (owS (.slice (some ⟨h, o, none⟩) (tl.length + 1) cw) (w0 :: tl)), zeroRB (w.heap.size + 1), .fl (owRB w.heap.size (.slice A nx cap) x.2.1 x.2.2)]) ∧ Hid (wA4 x w0 (wdN (tl.drop j) nums) = some r))
  case atStart => exact ⟨0, [], _, rfl, rfl, ⟨by omega, rfl, Nat.zero_le _⟩, HD, HOA, HM⟩
  case round =>
    clear HD HOA HM
    obtain ⟨j, nums, V, rfl, rfl, hj, HD, HOA, HM⟩ := hrel
    rename World => W5
    obtain ⟨hjg, hnl, hjle⟩ := hj.out; clear hj
    by_cases hjn : j < tl.length
    · have hd := List.drop_eq_getElem_cons hjn
      have hlt : ((j + 1 : Nat) : Int) < ((tl.length + 1 : Nat) : Int) := by omega
      have hcj : W5.cell? ⟨h, o + (j + 1), none⟩ = some (.string tl[j]) := HP.strCell2 HOA.out (List.Mem.tail _ (List.Mem.head _)) (by rw [List.getElem?_cons_succ, List.getElem?_eq_getElem hjn])
      have hys := HWS.out _ (List.getElem_mem hjn)
      generalize hx : tl[j] = y at *
      have HDR := Lib.hid hd; clear hd hx
      go_wp2_with fail
      refine (num4_ok y _).mono ?_; rintro e W6 ⟨rfl, n2, rfl, hn2⟩
      have hmm := HM.out
      rw [HDR.out] at hmm
      unfold wdN okW at hmm
      generalize hq : numM y = q at *
      obtain ⟨v2, f2⟩ := q
      dsimp only at hmm hn2
      cases f2
      · rw [if_neg (by simp)] at hmm
        obtain rfl : (badS, x) = r := Option.some.inj hmm
        clear hmm HM hn2
        obtain ⟨⟨q0, q1, q2⟩, hset, hbs⟩ := HP.setRB (its1 := [_, _]) HOA.out (.slice A nx cap) x.2.1 x.2.2
        obtain ⟨k0, k1, k2, _⟩ := HP.rbGet HOA.out (List.Mem.tail _ (List.Mem.tail _ (List.Mem.tail _ (List.Mem.head _))))
        obtain ⟨r0, r1, r2, _⟩ := HP.rbGet HOA.out (List.Mem.tail _ (List.Mem.tail _ (List.Mem.head _)))
        have HSET := Lib.hid hset; have HBS := Lib.hid hbs; clear hset hbs
        go_wp2_with fail
        refine bodyPost_ret (results_cellrow_tmp (p := 4) (u := 5) (ty := 44) rfl _ _ (w.heap.size + 1) _ _ _ _ rfl (HP.rbGet HSET.out (List.Mem.tail _ (List.Mem.tail _ (List.Mem.head _)))).2.2.2 Tryz.underlying44 rfl (by kernel_rfl)) rfl ⟨_, rfl, .inl ⟨rfl, rfl⟩, HD.out.trans HBS.out⟩
      · obtain rfl := hn2 rfl
        by_cases h7 : y.size ≤ 7
        · rw [if_pos (by rw [decide_eq_true h7]; rfl)] at hmm
          have d7 := decide_eq_false (show ¬ (7 : Int) < (y.size : Int) by omega)
          replace HM := Lib.hid hmm; clear hmm
          obtain ⟨V2, W6, hrun, hoa, hd, hn⟩ := run_appI (e' := 3) (y := n2) (L1 := []) W5 62 62 Tryz.underlying62 HOA.out (show nums.length < 1000000000 by omega) HD.out.size
          have HRUN := Lib.hid hrun; have HOA2 := Lib.hid hoa; have HD2 := Lib.hid hd
          clear hrun hoa hd hn
          go_wp2_with (at_builtin; refine wp_appRun HRUN.out rfl rfl rfl rfl ?_)
          cases gk with
          | zero => omega
          | succ g1 =>
            go_roundg g1
            case measure => omega
            case rel => exact ⟨j + 1, nums ++ [n2], V2, rfl, by go_num, ⟨by omega, by rw [List.length_append, List.length_singleton]; omega, by omega⟩, Lib.hid (HD.out.trans HD2.out), HOA2, HM⟩
        · rw [if_neg (by rw [decide_eq_false h7]; simp)] at hmm
          have d7 := decide_eq_true (show (7 : Int) < (y.size : Int) by omega)
          obtain rfl : (badS, x) = r := Option.some.inj hmm
          clear hmm HM h7
          obtain ⟨⟨q0, q1, q2⟩, hset, hbs⟩ := HP.setRB (its1 := [_, _]) HOA.out (.slice A nx cap) x.2.1 x.2.2
          obtain ⟨k0, k1, k2, _⟩ := HP.rbGet HOA.out (List.Mem.tail _ (List.Mem.tail _ (List.Mem.tail _ (List.Mem.head _))))
          obtain ⟨r0, r1, r2, _⟩ := HP.rbGet HOA.out (List.Mem.tail _ (List.Mem.tail _ (List.Mem.head _)))
          have HSET := Lib.hid hset; have HBS := Lib.hid hbs; clear hset hbs
          go_wp2_with fail
          refine bodyPost_ret (results_cellrow_tmp (p := 4) (u := 5) (ty := 44) rfl _ _ (w.heap.size + 1) _ _ _ _ rfl (HP.rbGet HSET.out (List.Mem.tail _ (List.Mem.tail _ (List.Mem.head _)))).2.2.2 Tryz.underlying44 rfl (by kernel_rfl)) rfl ⟨_, rfl, .inl ⟨rfl, rfl⟩, HD.out.trans HBS.out⟩
    · have hje : j = tl.length := by omega
      subst hje
      have hmm := HM.out
      rw [List.drop_length] at hmm
      change vA4 x w0 nums = some r at hmm
      obtain ⟨A5, cap5, hV, hrd⟩ := HP.open_I HOA.out (List.Mem.head _)
      subst hV
      have hc0 : W5.cell? ⟨h, o, none⟩ = some (.string w0) := HP.strCell2 (i := 0) HOA.out (List.Mem.tail _ (List.Mem.head _)) rfl
      have hone : (0 : Int) < ((tl.length + 1 : Nat) : Int) := by omega
      have tJ : (w0.toList == ([106, 111, 105, 110] : List UInt8)) = decide (w0 = kJ) := tl_is w0 _
      have tC : (w0.toList == ([99, 117, 116] : List UInt8)) = decide (w0 = kC) := tl_is w0 _
      have tF : (w0.toList == ([102, 97, 114] : List UInt8)) = decide (w0 = kF) := tl_is w0 _
      have tM : (w0.toList == ([109, 97, 110, 121] : List UInt8)) = decide (w0 = kM) := tl_is w0 _
      have tX : (w0.toList == ([99, 114, 97, 115, 104] : List UInt8)) = decide (w0 = kX) := tl_is w0 _
      clear hjn hjg hnl hjle
      unfold vA4 at hmm
      by_cases h0 : w0 = kJ
      · have e0 := tJ.trans (decide_eq_true h0)
        have e1 := tC.trans (decide_eq_false fun q => nJC (h0.symm.trans q))
        have e2 := tF.trans (decide_eq_false fun q => nJF (h0.symm.trans q))
        have e3 := tM.trans (decide_eq_false fun q => nJM (h0.symm.trans q))
        have e4 := tX.trans (decide_eq_false fun q => nJX (h0.symm.trans q))
        clear tJ tC tF tM tX
        by_cases hl : nums.length = 2
        · rw [if_pos ⟨h0, hl⟩] at hmm
          clear h0
          obtain ⟨⟨⟨yl, yt, yn⟩, ye⟩, hy, hmm⟩ := obind hmm
          obtain ⟨he, hrr⟩ := chkO_some hmm
          subst hrr
          obtain ⟨m0, m1, rfl⟩ : ∃ m0 m1, nums = [m0, m1] := by
            match nums, hl with
            | [m0, m1], _ => exact ⟨m0, m1, rfl⟩
          have l2 : ((([m0, m1] : List Int).length : Int) == 2) = true := rfl
          obtain ⟨g9, o9, eA, hb9, hc9⟩ := hrd.2 (show 0 < 2 by decide)
          subst eA
          have f0 : W5.cell? ⟨g9, o9, none⟩ = some (.int .i64 m0) := hc9 0 _ rfl
          have f1 : W5.cell? ⟨g9, o9 + 1, none⟩ = some (.int .i64 m1) := hc9 1 _ rfl
          have HY := Lib.hid (show mJ4 x m0 m1 = some ((yl, yt, yn), ye) from hy)
          clear hy hmm hl hrd hc9 hb9 HM
          go_upto_region 11 with (fail)
          clear e0 e1 e2 e3 e4 l2
          obtain ⟨k0, k1, k2, _⟩ := HP.rbGet HOA.out (List.Mem.tail _ (List.Mem.tail _ (List.Mem.tail _ (List.Mem.head _))))
          obtain ⟨C_, hC_⟩ : ∃ C_ : World → Prop, C_ = fun W_ => W_.cell? ⟨w.heap.size, 0, none⟩ = some (.slice A nx cap) ∧ W_.cell? ⟨w.heap.size, 1, none⟩ = some (.string x.2.1) ∧ W_.cell? ⟨w.heap.size, 2, none⟩ = some (.int .i64 x.2.2) ∧ W_.cell? ⟨g9, o9, none⟩ = some (.int .i64 m0) ∧ W_.cell? ⟨g9, o9 + 1, none⟩ = some (.int .i64 m1) := ⟨_, rfl⟩
          have hC5 : C_ W5.drew := by rw [hC_]; exact ⟨k0, k1, k2, f0, f1⟩
          have hCk : ∀ (W : World) (its : List It), HP W w.heap.size its → It.fl (owRB w.heap.size (.slice A nx cap) x.2.1 x.2.2) ∈ its → It.fl (owI (.slice (some ⟨g9, o9, none⟩) [m0, m1].length cap5) [m0, m1]) ∈ its → C_ W := fun W its hp i1 i2 => by
            rw [hC_]
            obtain ⟨e0, e1, e2, _⟩ := HP.rbGet hp i1
            exact ⟨e0, e1, e2, HP.intCell2 (i := 0) hp i2 rfl, HP.intCell2 (i := 1) hp i2 rfl⟩
          have hCd : ∀ W_, C_ W_ → W_.cell? ⟨w.heap.size, 0, none⟩ = some (.slice A nx cap) ∧ W_.cell? ⟨w.heap.size, 1, none⟩ = some (.string x.2.1) ∧ W_.cell? ⟨w.heap.size, 2, none⟩ = some (.int .i64 x.2.2) ∧ W_.cell? ⟨g9, o9, none⟩ = some (.int .i64 m0) ∧ W_.cell? ⟨g9, o9 + 1, none⟩ = some (.int .i64 m1) := fun W_ hh => by rw [hC_] at hh; exact hh
          have HCD := Lib.hid hCd; have HCK := Lib.hid hCk; have HC5 := Lib.hid hC5
          clear hCd hCk hC5 hC_ k0 k1 k2 f0 f1 hc0
          refine wp_region_pht C_ (.P 0 (.P 1 (.P 2 (.P 3 (.P 4 (.P 5 (.P 6 (.B 7 11 (.P 8 (.P 9 (.P 10 (.S 11 (.S 12 (.P 13 .N)))))) (.S 7 (.P 8 (.P 9 (.P 10 (.S 12 (.P 13 .N)))))))))))))) (by kernel_rfl) (by kernel_rfl) HC5.out ?_
          iterate 7 (refine wpTs_P rfl rfl (fun K hK => ?_); apply Exists.intro; refine ⟨fun W_ hc_ => ?_, ?_⟩; (have c_ := HCD.out W_ hc_; have c0_ := c_.1; have c1_ := c_.2.1; have c2_ := c_.2.2.1; have c3_ := c_.2.2.2.1; have c4_ := c_.2.2.2.2; clear c_ hc_; go_simp; try rfl); (go_simp; refine hK _ ?_; clear hK K))
          replace HOA := Lib.hid (HOA.out.dr (Dr.one _))
          replace HD := Lib.hid (HD.out.trans ((Dr.one _).below _))
          generalize hW6 : World.drew W5 = W6 at *
          clear hW6
          refine wpTs_B rfl rfl (fun Q' hQ' hL' => ?_) (fun Q' hQ' hL' => ?_)
          · have HC := Lib.hid (mJ4_ok W6 cap (rdL HD.out HR.out) HY.out)
            rw [← HNX.out] at HC
            unfold PostRB at HC
            go_wp2_with fail
            refine HC.out.mono ?_; rintro e1 W7 ⟨V', rfl, hrb, hd⟩
            obtain ⟨A7, n7, cap7, pre, rfl, hoa, hcl⟩ := rbo_split HOA.out hd HD.out.size hrb
            replace HOA := Lib.hid hoa; have HCL := Lib.hid hcl; clear hoa hcl hrb HC
            have HC7 := Lib.hid (HCK.out W7 _ HOA.out (by simp) (by simp))
            replace HD := Lib.hid (HD.out.trans (hd.mono HD.out.size)); clear hd
            try go_wp2_with fail
            refine hQ' _ _ HC7.out ?_; clear hQ' hL' Q' HC7
            iterate 3 (refine wpTs_P rfl rfl (fun K hK => ?_); apply Exists.intro; refine ⟨fun W_ hc_ => ?_, ?_⟩; (go_simp; try rfl); (go_simp; refine hK _ ?_; clear hK K))
            have hb8 : Below W7.heap.size W7 (W7.alloc (.cells #[.slice none 0 0, .string { data := #[] }, .int .i64 0] 44)) := (Below.refl _ _).alloc (Nat.le_refl _) _
            replace HOA := Lib.hid (HP.call HOA.out hb8 HD.out.size (owRB_ok W7 (.slice none 0 0) ⟨#[]⟩ 0))
            have HC8 := Lib.hid (HCK.out _ _ HOA.out (by simp) (by simp))
            replace HD := Lib.hid (HD.out.trans (hb8.mono HD.out.size)); clear hb8
            refine wpTs_S rfl (fun Q' hQ' hL' => ?_)
            go_wp2_with fail
            refine hQ' _ _ HC8.out ?_; clear hQ' hL' Q' HC8
            generalize W7.heap.size = g8 at *
            generalize World.alloc W7 _ = W8 at *
            obtain ⟨r0, r1, r2, _⟩ := HP.rbGet HOA.out (List.Mem.head _)
            obtain ⟨⟨q0, q1, q2⟩, hset, hbs⟩ := HP.setRB (its1 := []) HOA.out (.slice A7 n7 cap7) yt yn
            have HC9 := Lib.hid (HCK.out _ _ hset (by simp) (by simp))
            have HSET := Lib.hid hset; have HBS := Lib.hid hbs; clear hset hbs
            refine wpTs_S rfl (fun Q' hQ' hL' => ?_)
            go_wp2_with fail
            refine hQ' _ _ HC9.out ?_; clear hQ' hL' Q' HC9 q0 q1 q2 r0 r1 r2
            iterate 1 (refine wpTs_P rfl rfl (fun K hK => ?_); apply Exists.intro; refine ⟨fun W_ hc_ => ?_, ?_⟩; (go_simp; try rfl); (go_simp; refine hK _ ?_; clear hK K))
            refine wpTs_N ?_
            replace HOA := HSET; replace HD := Lib.hid (HD.out.trans HBS.out); clear HSET HBS
            generalize World.setCell (World.setCell (World.setCell W8 _ _) _ _) _ _ = W9 at *
            clear HCK HCD HC5
            go_upto_region 12 with (fail)
            obtain ⟨k0, k1, k2, _⟩ := HP.rbGet (g := g8) (V := .slice A7 n7 cap7) (t := yt) (n := yn) HOA.out (by simp)
            have k0r := cell_regrown k0; have k1r := cell_regrown k1; have k2r := cell_regrown k2
            have HCT := Lib.hid (fun W d_ os_ => Calls.regrown_of (v := .string (tld ye)) ((called_ok ye he (Go.Sort.grow (redrawn W d_) os_)).mono fun _ _ h_ => ⟨h_.1, h_.2 ▸ Below.refl _ _⟩))
            refine wp_region_quiet_tail 3 (by kernel_rfl) (by kernel_rfl) ?_
            dsimp only [List.take, List.drop]
            repeat (refine wpQH_step (fun K hK => ?_); go_simp; first | (refine hK _ ?_; clear hK K) | (apply Exists.intro; refine ⟨fun _ => ?_, hK _ ?_⟩; (go_at_call 28; exact (HCT.out _ _ _)); clear hK K))
            refine wpQH_nil ?_
            intro _ hw_
            obtain ⟨⟨dq, osq⟩, hw_⟩ := hw_
            subst hw_
            have hd := below_regrown W9 dq osq
            generalize Go.Sort.grow (redrawn W9 _) _ = W10 at *
            clear k0r k1r k2r k0 k1 k2 HCT
            replace HOA := Lib.hid (HOA.out.below hd)
            replace HD := Lib.hid (HD.out.trans (hd.mono HD.out.size)); clear hd
            replace HOA := Lib.hid (show HP W10 w.heap.size ((.fl (owRB g8 (.slice A7 n7 cap7) yt yn) :: (pre ++ [.fl (owI (.slice (some ⟨g9, o9, none⟩) [m0, m1].length cap5) [m0, m1]), .fl (owS (.slice (some ⟨h, o, none⟩) (tl.length + 1) cw) (w0 :: tl))])) ++ zeroRB (w.heap.size + 1) :: [.fl (owRB w.heap.size (.slice A nx cap) x.2.1 x.2.2)]) from by simpa using HOA.out)
            obtain ⟨r0, r1, r2, _⟩ := HP.rbGet (g := w.heap.size + 1) (V := .slice none 0 0) (t := ⟨#[]⟩) (n := 0) HOA.out (by simp)
            obtain ⟨⟨q0, q1, q2⟩, hset, hbs⟩ := HP.setRB (its1 := (.fl (owRB g8 (.slice A7 n7 cap7) yt yn) :: (pre ++ [.fl (owI (.slice (some ⟨g9, o9, none⟩) [m0, m1].length cap5) [m0, m1]), .fl (owS (.slice (some ⟨h, o, none⟩) (tl.length + 1) cw) (w0 :: tl))]))) HOA.out (.slice A7 n7 cap7) yt yn
            have HSET := Lib.hid hset; have HBS := Lib.hid hbs; clear hset hbs
            go_wp2_with fail
            refine bodyPost_ret (results_cellrow_tmp (p := 4) (u := 5) (ty := 44) rfl _ _ (w.heap.size + 1) _ _ _ _ rfl (HP.rbGet HSET.out (by simp)).2.2.2 Tryz.underlying44 rfl (by kernel_rfl)) rfl ⟨_, rfl, HCL.out _ ([.fl (owI (.slice (some ⟨g9, o9, none⟩) [m0, m1].length cap5) [m0, m1]), .fl (owS (.slice (some ⟨h, o, none⟩) (tl.length + 1) cw) (w0 :: tl))] ++ [.fl (owRB (w.heap.size + 1) (.slice A7 n7 cap7) yt yn), .fl (owRB w.heap.size (.slice A nx cap) x.2.1 x.2.2)]) (by rw [← List.append_assoc]; exact HSET.out.sub (.cons _ (List.Sublist.refl _))), HD.out.trans HBS.out⟩
          · have hb8 : Below W6.heap.size W6 (W6.alloc (.cells #[.slice none 0 0, .string { data := #[] }, .int .i64 0] 44)) := (Below.refl _ _).alloc (Nat.le_refl _) _
            replace HOA := Lib.hid (HP.call HOA.out hb8 HD.out.size (owRB_ok W6 (.slice none 0 0) ⟨#[]⟩ 0))
            have HC8 := Lib.hid (HCK.out _ _ HOA.out (by simp) (by simp))
            replace HD := Lib.hid (HD.out.trans (hb8.mono HD.out.size)); clear hb8
            go_wp2_with fail
            refine hQ' _ _ HC8.out ?_; clear hQ' hL' Q' HC8
            generalize W6.heap.size = g8 at *
            generalize World.alloc W6 _ = W7 at *
            have HC := Lib.hid (mJ4_ok W7 cap (rdL HD.out HR.out) HY.out)
            rw [← HNX.out] at HC
            unfold PostRB at HC
            refine wpTs_S rfl (fun Q' hQ' hL' => ?_)
            go_wp2_with fail
            refine HC.out.mono ?_; rintro e1 W8 ⟨V', rfl, hrb, hd⟩
            obtain ⟨A7, n7, cap7, pre, rfl, hoa, hcl⟩ := rbo_split HOA.out hd HD.out.size hrb
            replace HOA := Lib.hid hoa; have HCL := Lib.hid hcl; clear hoa hcl hrb HC
            have HC7 := Lib.hid (HCK.out W8 _ HOA.out (by simp) (by simp))
            replace HD := Lib.hid (HD.out.trans (hd.mono HD.out.size)); clear hd
            try go_wp2_with fail
            refine hQ' _ _ HC7.out ?_; clear hQ' hL' Q' HC7
            iterate 3 (refine wpTs_P rfl rfl (fun K hK => ?_); apply Exists.intro; refine ⟨fun W_ hc_ => ?_, ?_⟩; (go_simp; try rfl); (go_simp; refine hK _ ?_; clear hK K))
            obtain ⟨r0, r1, r2, _⟩ := HP.rbGet (g := g8) (V := .slice none 0 0) (t := ⟨#[]⟩) (n := 0) HOA.out (by simp)
            obtain ⟨⟨q0, q1, q2⟩, hset, hbs⟩ := HP.setRB (its1 := pre) HOA.out (.slice A7 n7 cap7) yt yn
            have HC9 := Lib.hid (HCK.out _ _ hset (by simp) (by simp))
            have HSET := Lib.hid hset; have HBS := Lib.hid hbs; clear hset hbs
            refine wpTs_S rfl (fun Q' hQ' hL' => ?_)
            go_wp2_with fail
            refine hQ' _ _ HC9.out ?_; clear hQ' hL' Q' HC9 q0 q1 q2 r0 r1 r2
            iterate 1 (refine wpTs_P rfl rfl (fun K hK => ?_); apply Exists.intro; refine ⟨fun W_ hc_ => ?_, ?_⟩; (go_simp; try rfl); (go_simp; refine hK _ ?_; clear hK K))
            refine wpTs_N ?_
            replace HOA := HSET; replace HD := Lib.hid (HD.out.trans HBS.out); clear HSET HBS
            generalize World.setCell (World.setCell (World.setCell W8 _ _) _ _) _ _ = W9 at *
            clear HCK HCD HC5
            go_upto_region 12 with (fail)
            obtain ⟨k0, k1, k2, _⟩ := HP.rbGet (g := g8) (V := .slice A7 n7 cap7) (t := yt) (n := yn) HOA.out (by simp)
            have k0r := cell_regrown k0; have k1r := cell_regrown k1; have k2r := cell_regrown k2
            have HCT := Lib.hid (fun W d_ os_ => Calls.regrown_of (v := .string (tld ye)) ((called_ok ye he (Go.Sort.grow (redrawn W d_) os_)).mono fun _ _ h_ => ⟨h_.1, h_.2 ▸ Below.refl _ _⟩))
            refine wp_region_quiet_tail 3 (by kernel_rfl) (by kernel_rfl) ?_
            dsimp only [List.take, List.drop]
            repeat (refine wpQH_step (fun K hK => ?_); go_simp; first | (refine hK _ ?_; clear hK K) | (apply Exists.intro; refine ⟨fun _ => ?_, hK _ ?_⟩; (go_at_call 28; exact (HCT.out _ _ _)); clear hK K))
            refine wpQH_nil ?_
            intro _ hw_
            obtain ⟨⟨dq, osq⟩, hw_⟩ := hw_
            subst hw_
            have hd := below_regrown W9 dq osq
            generalize Go.Sort.grow (redrawn W9 _) _ = W10 at *
            clear k0r k1r k2r k0 k1 k2 HCT
            replace HOA := Lib.hid (HOA.out.below hd)
            replace HD := Lib.hid (HD.out.trans (hd.mono HD.out.size)); clear hd
            replace HOA := Lib.hid (show HP W10 w.heap.size ((pre ++ [.fl (owRB g8 (.slice A7 n7 cap7) yt yn), .fl (owI (.slice (some ⟨g9, o9, none⟩) [m0, m1].length cap5) [m0, m1]), .fl (owS (.slice (some ⟨h, o, none⟩) (tl.length + 1) cw) (w0 :: tl))]) ++ zeroRB (w.heap.size + 1) :: [.fl (owRB w.heap.size (.slice A nx cap) x.2.1 x.2.2)]) from by simpa using HOA.out)
            obtain ⟨r0, r1, r2, _⟩ := HP.rbGet (g := w.heap.size + 1) (V := .slice none 0 0) (t := ⟨#[]⟩) (n := 0) HOA.out (by simp)
            obtain ⟨⟨q0, q1, q2⟩, hset, hbs⟩ := HP.setRB (its1 := (pre ++ [.fl (owRB g8 (.slice A7 n7 cap7) yt yn), .fl (owI (.slice (some ⟨g9, o9, none⟩) [m0, m1].length cap5) [m0, m1]), .fl (owS (.slice (some ⟨h, o, none⟩) (tl.length + 1) cw) (w0 :: tl))])) HOA.out (.slice A7 n7 cap7) yt yn
            have HSET := Lib.hid hset; have HBS := Lib.hid hbs; clear hset hbs
            go_wp2_with fail
            refine bodyPost_ret (results_cellrow_tmp (p := 4) (u := 5) (ty := 44) rfl _ _ (w.heap.size + 1) _ _ _ _ rfl (HP.rbGet HSET.out (by simp)).2.2.2 Tryz.underlying44 rfl (by kernel_rfl)) rfl ⟨_, rfl, HCL.out _ ([.fl (owRB g8 (.slice A7 n7 cap7) yt yn), .fl (owI (.slice (some ⟨g9, o9, none⟩) [m0, m1].length cap5) [m0, m1]), .fl (owS (.slice (some ⟨h, o, none⟩) (tl.length + 1) cw) (w0 :: tl))] ++ [.fl (owRB (w.heap.size + 1) (.slice A7 n7 cap7) yt yn), .fl (owRB w.heap.size (.slice A nx cap) x.2.1 x.2.2)]) (by rw [← List.append_assoc]; exact HSET.out), HD.out.trans HBS.out⟩
        · rw [if_neg fun q => hl q.2, if_neg fun q => nJC (h0.symm.trans q.1), if_neg fun q => nJF (h0.symm.trans q.1), if_neg fun q => nJM (h0.symm.trans q.1), if_neg fun q => nJX (h0.symm.trans q.1)] at hmm
          obtain rfl : (badS, x) = r := Option.some.inj hmm
          have ll : (((nums.length : Nat) : Int) == 2) = false := by rw [beq_eq_false_iff_ne]; exact fun q => hl (Int.ofNat.inj q)
          clear hmm HM hrd hl h0
          obtain ⟨⟨q0, q1, q2⟩, hset, hbs⟩ := HP.setRB (its1 := [_, _]) HOA.out (.slice A nx cap) x.2.1 x.2.2
          obtain ⟨k0, k1, k2, _⟩ := HP.rbGet HOA.out (List.Mem.tail _ (List.Mem.tail _ (List.Mem.tail _ (List.Mem.head _))))
          obtain ⟨r0, r1, r2, _⟩ := HP.rbGet HOA.out (List.Mem.tail _ (List.Mem.tail _ (List.Mem.head _)))
          have HSET := Lib.hid hset; have HBS := Lib.hid hbs; clear hset hbs
          go_wp2_with fail
          refine bodyPost_ret (results_cellrow_tmp (p := 4) (u := 5) (ty := 44) rfl _ _ (w.heap.size + 1) _ _ _ _ rfl (HP.rbGet HSET.out (List.Mem.tail _ (List.Mem.tail _ (List.Mem.head _)))).2.2.2 Tryz.underlying44 rfl (by kernel_rfl)) rfl ⟨_, rfl, .inl ⟨rfl, rfl⟩, HD.out.trans HBS.out⟩
      rw [if_neg fun q => h0 q.1] at hmm
      by_cases h1 : w0 = kC
      · have e0 := tJ.trans (decide_eq_false fun q => nJC.symm (h1.symm.trans q))
        have e1 := tC.trans (decide_eq_true h1)
        have e2 := tF.trans (decide_eq_false fun q => nCF (h1.symm.trans q))
        have e3 := tM.trans (decide_eq_false fun q => nCM (h1.symm.trans q))
        have e4 := tX.trans (decide_eq_false fun q => nCX (h1.symm.trans q))
        clear tJ tC tF tM tX
        by_cases hl : nums.length = 2
        · rw [if_pos ⟨h1, hl⟩] at hmm
          clear h1
          obtain ⟨⟨⟨yl, yt, yn⟩, ye⟩, hy, hmm⟩ := obind hmm
          obtain ⟨he, hrr⟩ := chkO_some hmm
          subst hrr
          obtain ⟨m0, m1, rfl⟩ : ∃ m0 m1, nums = [m0, m1] := by
            match nums, hl with
            | [m0, m1], _ => exact ⟨m0, m1, rfl⟩
          have l2 : ((([m0, m1] : List Int).length : Int) == 2) = true := rfl
          obtain ⟨g9, o9, eA, hb9, hc9⟩ := hrd.2 (show 0 < 2 by decide)
          subst eA
          have f0 : W5.cell? ⟨g9, o9, none⟩ = some (.int .i64 m0) := hc9 0 _ rfl
          have f1 : W5.cell? ⟨g9, o9 + 1, none⟩ = some (.int .i64 m1) := hc9 1 _ rfl
          have HY := Lib.hid (show mC4 x m0 m1 = some ((yl, yt, yn), ye) from hy)
          clear hy hmm hl hrd hc9 hb9 HM
          go_upto_region 14 with (fail)
          clear e0 e1 e2 e3 e4 l2
          obtain ⟨k0, k1, k2, _⟩ := HP.rbGet HOA.out (List.Mem.tail _ (List.Mem.tail _ (List.Mem.tail _ (List.Mem.head _))))
          obtain ⟨C_, hC_⟩ : ∃ C_ : World → Prop, C_ = fun W_ => W_.cell? ⟨w.heap.size, 0, none⟩ = some (.slice A nx cap) ∧ W_.cell? ⟨w.heap.size, 1, none⟩ = some (.string x.2.1) ∧ W_.cell? ⟨w.heap.size, 2, none⟩ = some (.int .i64 x.2.2) ∧ W_.cell? ⟨g9, o9, none⟩ = some (.int .i64 m0) ∧ W_.cell? ⟨g9, o9 + 1, none⟩ = some (.int .i64 m1) := ⟨_, rfl⟩
          have hC5 : C_ W5.drew := by rw [hC_]; exact ⟨k0, k1, k2, f0, f1⟩
          have hCk : ∀ (W : World) (its : List It), HP W w.heap.size its → It.fl (owRB w.heap.size (.slice A nx cap) x.2.1 x.2.2) ∈ its → It.fl (owI (.slice (some ⟨g9, o9, none⟩) [m0, m1].length cap5) [m0, m1]) ∈ its → C_ W := fun W its hp i1 i2 => by
            rw [hC_]
            obtain ⟨e0, e1, e2, _⟩ := HP.rbGet hp i1
            exact ⟨e0, e1, e2, HP.intCell2 (i := 0) hp i2 rfl, HP.intCell2 (i := 1) hp i2 rfl⟩
          have hCd : ∀ W_, C_ W_ → W_.cell? ⟨w.heap.size, 0, none⟩ = some (.slice A nx cap) ∧ W_.cell? ⟨w.heap.size, 1, none⟩ = some (.string x.2.1) ∧ W_.cell? ⟨w.heap.size, 2, none⟩ = some (.int .i64 x.2.2) ∧ W_.cell? ⟨g9, o9, none⟩ = some (.int .i64 m0) ∧ W_.cell? ⟨g9, o9 + 1, none⟩ = some (.int .i64 m1) := fun W_ hh => by rw [hC_] at hh; exact hh
          have HCD := Lib.hid hCd; have HCK := Lib.hid hCk; have HC5 := Lib.hid hC5
          clear hCd hCk hC5 hC_ k0 k1 k2 f0 f1 hc0
          refine wp_region_pht C_ (.P 0 (.P 1 (.P 2 (.P 3 (.P 4 (.P 5 (.P 6 (.B 7 11 (.P 8 (.P 9 (.P 10 (.S 11 (.S 12 (.P 13 .N)))))) (.S 7 (.P 8 (.P 9 (.P 10 (.S 12 (.P 13 .N)))))))))))))) (by kernel_rfl) (by kernel_rfl) HC5.out ?_
          iterate 7 (refine wpTs_P rfl rfl (fun K hK => ?_); apply Exists.intro; refine ⟨fun W_ hc_ => ?_, ?_⟩; (have c_ := HCD.out W_ hc_; have c0_ := c_.1; have c1_ := c_.2.1; have c2_ := c_.2.2.1; have c3_ := c_.2.2.2.1; have c4_ := c_.2.2.2.2; clear c_ hc_; go_simp; try rfl); (go_simp; refine hK _ ?_; clear hK K))
          replace HOA := Lib.hid (HOA.out.dr (Dr.one _))
          replace HD := Lib.hid (HD.out.trans ((Dr.one _).below _))
          generalize hW6 : World.drew W5 = W6 at *
          clear hW6
          refine wpTs_B rfl rfl (fun Q' hQ' hL' => ?_) (fun Q' hQ' hL' => ?_)
          · have HC := Lib.hid (mC4_ok W6 cap (rdL HD.out HR.out) HY.out)
            rw [← HNX.out] at HC
            unfold PostRB at HC
            go_wp2_with fail
            refine HC.out.mono ?_; rintro e1 W7 ⟨V', rfl, hrb, hd⟩
            obtain ⟨A7, n7, cap7, pre, rfl, hoa, hcl⟩ := rbo_split HOA.out hd HD.out.size hrb
            replace HOA := Lib.hid hoa; have HCL := Lib.hid hcl; clear hoa hcl hrb HC
            have HC7 := Lib.hid (HCK.out W7 _ HOA.out (by simp) (by simp))
            replace HD := Lib.hid (HD.out.trans (hd.mono HD.out.size)); clear hd
            try go_wp2_with fail
            refine hQ' _ _ HC7.out ?_; clear hQ' hL' Q' HC7
            iterate 3 (refine wpTs_P rfl rfl (fun K hK => ?_); apply Exists.intro; refine ⟨fun W_ hc_ => ?_, ?_⟩; (go_simp; try rfl); (go_simp; refine hK _ ?_; clear hK K))
            have hb8 : Below W7.heap.size W7 (W7.alloc (.cells #[.slice none 0 0, .string { data := #[] }, .int .i64 0] 44)) := (Below.refl _ _).alloc (Nat.le_refl _) _
            replace HOA := Lib.hid (HP.call HOA.out hb8 HD.out.size (owRB_ok W7 (.slice none 0 0) ⟨#[]⟩ 0))
            have HC8 := Lib.hid (HCK.out _ _ HOA.out (by simp) (by simp))
            replace HD := Lib.hid (HD.out.trans (hb8.mono HD.out.size)); clear hb8
            refine wpTs_S rfl (fun Q' hQ' hL' => ?_)
            go_wp2_with fail
            refine hQ' _ _ HC8.out ?_; clear hQ' hL' Q' HC8
            generalize W7.heap.size = g8 at *
            generalize World.alloc W7 _ = W8 at *
            obtain ⟨r0, r1, r2, _⟩ := HP.rbGet HOA.out (List.Mem.head _)
            obtain ⟨⟨q0, q1, q2⟩, hset, hbs⟩ := HP.setRB (its1 := []) HOA.out (.slice A7 n7 cap7) yt yn
            have HC9 := Lib.hid (HCK.out _ _ hset (by simp) (by simp))
            have HSET := Lib.hid hset; have HBS := Lib.hid hbs; clear hset hbs
            refine wpTs_S rfl (fun Q' hQ' hL' => ?_)
            go_wp2_with fail
            refine hQ' _ _ HC9.out ?_; clear hQ' hL' Q' HC9 q0 q1 q2 r0 r1 r2
            iterate 1 (refine wpTs_P rfl rfl (fun K hK => ?_); apply Exists.intro; refine ⟨fun W_ hc_ => ?_, ?_⟩; (go_simp; try rfl); (go_simp; refine hK _ ?_; clear hK K))
            refine wpTs_N ?_
            replace HOA := HSET; replace HD := Lib.hid (HD.out.trans HBS.out); clear HSET HBS
            generalize World.setCell (World.setCell (World.setCell W8 _ _) _ _) _ _ = W9 at *
            clear HCK HCD HC5
            go_upto_region 15 with (fail)
            obtain ⟨k0, k1, k2, _⟩ := HP.rbGet (g := g8) (V := .slice A7 n7 cap7) (t := yt) (n := yn) HOA.out (by simp)
            have k0r := cell_regrown k0; have k1r := cell_regrown k1; have k2r := cell_regrown k2
            have HCT := Lib.hid (fun W d_ os_ => Calls.regrown_of (v := .string (tld ye)) ((called_ok ye he (Go.Sort.grow (redrawn W d_) os_)).mono fun _ _ h_ => ⟨h_.1, h_.2 ▸ Below.refl _ _⟩))
            refine wp_region_quiet_tail 3 (by kernel_rfl) (by kernel_rfl) ?_
            dsimp only [List.take, List.drop]
            repeat (refine wpQH_step (fun K hK => ?_); go_simp; first | (refine hK _ ?_; clear hK K) | (apply Exists.intro; refine ⟨fun _ => ?_, hK _ ?_⟩; (go_at_call 28; exact (HCT.out _ _ _)); clear hK K))
            refine wpQH_nil ?_
            intro _ hw_
            obtain ⟨⟨dq, osq⟩, hw_⟩ := hw_
            subst hw_
            have hd := below_regrown W9 dq osq
            generalize Go.Sort.grow (redrawn W9 _) _ = W10 at *
            clear k0r k1r k2r k0 k1 k2 HCT
            replace HOA := Lib.hid (HOA.out.below hd)
            replace HD := Lib.hid (HD.out.trans (hd.mono HD.out.size)); clear hd
            replace HOA := Lib.hid (show HP W10 w.heap.size ((.fl (owRB g8 (.slice A7 n7 cap7) yt yn) :: (pre ++ [.fl (owI (.slice (some ⟨g9, o9, none⟩) [m0, m1].length cap5) [m0, m1]), .fl (owS (.slice (some ⟨h, o, none⟩) (tl.length + 1) cw) (w0 :: tl))])) ++ zeroRB (w.heap.size + 1) :: [.fl (owRB w.heap.size (.slice A nx cap) x.2.1 x.2.2)]) from by simpa using HOA.out)
            obtain ⟨r0, r1, r2, _⟩ := HP.rbGet (g := w.heap.size + 1) (V := .slice none 0 0) (t := ⟨#[]⟩) (n := 0) HOA.out (by simp)
            obtain ⟨⟨q0, q1, q2⟩, hset, hbs⟩ := HP.setRB (its1 := (.fl (owRB g8 (.slice A7 n7 cap7) yt yn) :: (pre ++ [.fl (owI (.slice (some ⟨g9, o9, none⟩) [m0, m1].length cap5) [m0, m1]), .fl (owS (.slice (some ⟨h, o, none⟩) (tl.length + 1) cw) (w0 :: tl))]))) HOA.out (.slice A7 n7 cap7) yt yn
            have HSET := Lib.hid hset; have HBS := Lib.hid hbs; clear hset hbs
            go_wp2_with fail
            refine bodyPost_ret (results_cellrow_tmp (p := 4) (u := 5) (ty := 44) rfl _ _ (w.heap.size + 1) _ _ _ _ rfl (HP.rbGet HSET.out (by simp)).2.2.2 Tryz.underlying44 rfl (by kernel_rfl)) rfl ⟨_, rfl, HCL.out _ ([.fl (owI (.slice (some ⟨g9, o9, none⟩) [m0, m1].length cap5) [m0, m1]), .fl (owS (.slice (some ⟨h, o, none⟩) (tl.length + 1) cw) (w0 :: tl))] ++ [.fl (owRB (w.heap.size + 1) (.slice A7 n7 cap7) yt yn), .fl (owRB w.heap.size (.slice A nx cap) x.2.1 x.2.2)]) (by rw [← List.append_assoc]; exact HSET.out.sub (.cons _ (List.Sublist.refl _))), HD.out.trans HBS.out⟩
          · have hb8 : Below W6.heap.size W6 (W6.alloc (.cells #[.slice none 0 0, .string { data := #[] }, .int .i64 0] 44)) := (Below.refl _ _).alloc (Nat.le_refl _) _
            replace HOA := Lib.hid (HP.call HOA.out hb8 HD.out.size (owRB_ok W6 (.slice none 0 0) ⟨#[]⟩ 0))
            have HC8 := Lib.hid (HCK.out _ _ HOA.out (by simp) (by simp))
            replace HD := Lib.hid (HD.out.trans (hb8.mono HD.out.size)); clear hb8
            go_wp2_with fail
            refine hQ' _ _ HC8.out ?_; clear hQ' hL' Q' HC8
            generalize W6.heap.size = g8 at *
            generalize World.alloc W6 _ = W7 at *
            have HC := Lib.hid (mC4_ok W7 cap (rdL HD.out HR.out) HY.out)
            rw [← HNX.out] at HC
            unfold PostRB at HC
            refine wpTs_S rfl (fun Q' hQ' hL' => ?_)
            go_wp2_with fail
            refine HC.out.mono ?_; rintro e1 W8 ⟨V', rfl, hrb, hd⟩
            obtain ⟨A7, n7, cap7, pre, rfl, hoa, hcl⟩ := rbo_split HOA.out hd HD.out.size hrb
            replace HOA := Lib.hid hoa; have HCL := Lib.hid hcl; clear hoa hcl hrb HC
            have HC7 := Lib.hid (HCK.out W8 _ HOA.out (by simp) (by simp))
            replace HD := Lib.hid (HD.out.trans (hd.mono HD.out.size)); clear hd
            try go_wp2_with fail
            refine hQ' _ _ HC7.out ?_; clear hQ' hL' Q' HC7
            iterate 3 (refine wpTs_P rfl rfl (fun K hK => ?_); apply Exists.intro; refine ⟨fun W_ hc_ => ?_, ?_⟩; (go_simp; try rfl); (go_simp; refine hK _ ?_; clear hK K))
            obtain ⟨r0, r1, r2, _⟩ := HP.rbGet (g := g8) (V := .slice none 0 0) (t := ⟨#[]⟩) (n := 0) HOA.out (by simp)
            obtain ⟨⟨q0, q1, q2⟩, hset, hbs⟩ := HP.setRB (its1 := pre) HOA.out (.slice A7 n7 cap7) yt yn
            have HC9 := Lib.hid (HCK.out _ _ hset (by simp) (by simp))
            have HSET := Lib.hid hset; have HBS := Lib.hid hbs; clear hset hbs
            refine wpTs_S rfl (fun Q' hQ' hL' => ?_)
            go_wp2_with fail
            refine hQ' _ _ HC9.out ?_; clear hQ' hL' Q' HC9 q0 q1 q2 r0 r1 r2
            iterate 1 (refine wpTs_P rfl rfl (fun K hK => ?_); apply Exists.intro; refine ⟨fun W_ hc_ => ?_, ?_⟩; (go_simp; try rfl); (go_simp; refine hK _ ?_; clear hK K))
            refine wpTs_N ?_
            replace HOA := HSET; replace HD := Lib.hid (HD.out.trans HBS.out); clear HSET HBS
            generalize World.setCell (World.setCell (World.setCell W8 _ _) _ _) _ _ = W9 at *
            clear HCK HCD HC5
            go_upto_region 15 with (fail)
            obtain ⟨k0, k1, k2, _⟩ := HP.rbGet (g := g8) (V := .slice A7 n7 cap7) (t := yt) (n := yn) HOA.out (by simp)
            have k0r := cell_regrown k0; have k1r := cell_regrown k1; have k2r := cell_regrown k2
            have HCT := Lib.hid (fun W d_ os_ => Calls.regrown_of (v := .string (tld ye)) ((called_ok ye he (Go.Sort.grow (redrawn W d_) os_)).mono fun _ _ h_ => ⟨h_.1, h_.2 ▸ Below.refl _ _⟩))
            refine wp_region_quiet_tail 3 (by kernel_rfl) (by kernel_rfl) ?_
            dsimp only [List.take, List.drop]
            repeat (refine wpQH_step (fun K hK => ?_); go_simp; first | (refine hK _ ?_; clear hK K) | (apply Exists.intro; refine ⟨fun _ => ?_, hK _ ?_⟩; (go_at_call 28; exact (HCT.out _ _ _)); clear hK K))
            refine wpQH_nil ?_
            intro _ hw_
            obtain ⟨⟨dq, osq⟩, hw_⟩ := hw_
            subst hw_
            have hd := below_regrown W9 dq osq
            generalize Go.Sort.grow (redrawn W9 _) _ = W10 at *
            clear k0r k1r k2r k0 k1 k2 HCT
            replace HOA := Lib.hid (HOA.out.below hd)
            replace HD := Lib.hid (HD.out.trans (hd.mono HD.out.size)); clear hd
            replace HOA := Lib.hid (show HP W10 w.heap.size ((pre ++ [.fl (owRB g8 (.slice A7 n7 cap7) yt yn), .fl (owI (.slice (some ⟨g9, o9, none⟩) [m0, m1].length cap5) [m0, m1]), .fl (owS (.slice (some ⟨h, o, none⟩) (tl.length + 1) cw) (w0 :: tl))]) ++ zeroRB (w.heap.size + 1) :: [.fl (owRB w.heap.size (.slice A nx cap) x.2.1 x.2.2)]) from by simpa using HOA.out)
            obtain ⟨r0, r1, r2, _⟩ := HP.rbGet (g := w.heap.size + 1) (V := .slice none 0 0) (t := ⟨#[]⟩) (n := 0) HOA.out (by simp)
            obtain ⟨⟨q0, q1, q2⟩, hset, hbs⟩ := HP.setRB (its1 := (pre ++ [.fl (owRB g8 (.slice A7 n7 cap7) yt yn), .fl (owI (.slice (some ⟨g9, o9, none⟩) [m0, m1].length cap5) [m0, m1]), .fl (owS (.slice (some ⟨h, o, none⟩) (tl.length + 1) cw) (w0 :: tl))])) HOA.out (.slice A7 n7 cap7) yt yn
            have HSET := Lib.hid hset; have HBS := Lib.hid hbs; clear hset hbs
            go_wp2_with fail
            refine bodyPost_ret (results_cellrow_tmp (p := 4) (u := 5) (ty := 44) rfl _ _ (w.heap.size + 1) _ _ _ _ rfl (HP.rbGet HSET.out (by simp)).2.2.2 Tryz.underlying44 rfl (by kernel_rfl)) rfl ⟨_, rfl, HCL.out _ ([.fl (owRB g8 (.slice A7 n7 cap7) yt yn), .fl (owI (.slice (some ⟨g9, o9, none⟩) [m0, m1].length cap5) [m0, m1]), .fl (owS (.slice (some ⟨h, o, none⟩) (tl.length + 1) cw) (w0 :: tl))] ++ [.fl (owRB (w.heap.size + 1) (.slice A7 n7 cap7) yt yn), .fl (owRB w.heap.size (.slice A nx cap) x.2.1 x.2.2)]) (by rw [← List.append_assoc]; exact HSET.out), HD.out.trans HBS.out⟩
        · rw [if_neg fun q => hl q.2, if_neg fun q => nCF (h1.symm.trans q.1), if_neg fun q => nCM (h1.symm.trans q.1), if_neg fun q => nCX (h1.symm.trans q.1)] at hmm
          obtain rfl : (badS, x) = r := Option.some.inj hmm
          have ll : (((nums.length : Nat) : Int) == 2) = false := by rw [beq_eq_false_iff_ne]; exact fun q => hl (Int.ofNat.inj q)
          clear hmm HM hrd hl h1
          obtain ⟨⟨q0, q1, q2⟩, hset, hbs⟩ := HP.setRB (its1 := [_, _]) HOA.out (.slice A nx cap) x.2.1 x.2.2
          obtain ⟨k0, k1, k2, _⟩ := HP.rbGet HOA.out (List.Mem.tail _ (List.Mem.tail _ (List.Mem.tail _ (List.Mem.head _))))
          obtain ⟨r0, r1, r2, _⟩ := HP.rbGet HOA.out (List.Mem.tail _ (List.Mem.tail _ (List.Mem.head _)))
          have HSET := Lib.hid hset; have HBS := Lib.hid hbs; clear hset hbs
          go_wp2_with fail
          refine bodyPost_ret (results_cellrow_tmp (p := 4) (u := 5) (ty := 44) rfl _ _ (w.heap.size + 1) _ _ _ _ rfl (HP.rbGet HSET.out (List.Mem.tail _ (List.Mem.tail _ (List.Mem.head _)))).2.2.2 Tryz.underlying44 rfl (by kernel_rfl)) rfl ⟨_, rfl, .inl ⟨rfl, rfl⟩, HD.out.trans HBS.out⟩
      rw [if_neg fun q => h1 q.1] at hmm
      by_cases h2 : w0 = kF
      · have e0 := tJ.trans (decide_eq_false fun q => nJF.symm (h2.symm.trans q))
        have e1 := tC.trans (decide_eq_false fun q => nCF.symm (h2.symm.trans q))
        have e2 := tF.trans (decide_eq_true h2)
        have e3 := tM.trans (decide_eq_false fun q => nFM (h2.symm.trans q))
        have e4 := tX.trans (decide_eq_false fun q => nFX (h2.symm.trans q))
        clear tJ tC tF tM tX
        by_cases hl : nums.length = 2
        · rw [if_pos ⟨h2, hl⟩] at hmm
          clear h2
          obtain ⟨⟨y, ye⟩, hy, hmm⟩ := obind hmm
          obtain ⟨⟨he, hy1⟩, hrr⟩ := chkO_some hmm
          obtain ⟨sa, hsa⟩ : ∃ sa, sa = farS (y, ye) := ⟨_, rfl⟩
          rw [← hsa] at hrr
          subst hrr
          obtain ⟨m0, m1, rfl⟩ : ∃ m0 m1, nums = [m0, m1] := by
            match nums, hl with
            | [m0, m1], _ => exact ⟨m0, m1, rfl⟩
          have l2 : ((([m0, m1] : List Int).length : Int) == 2) = true := rfl
          obtain ⟨g9, o9, eA, hb9, hc9⟩ := hrd.2 (show 0 < 2 by decide)
          subst eA
          have f0 : W5.cell? ⟨g9, o9, none⟩ = some (.int .i64 m0) := hc9 0 _ rfl
          have f1 : W5.cell? ⟨g9, o9 + 1, none⟩ = some (.int .i64 m1) := hc9 1 _ rfl
          have HY := Lib.hid (show mF4 x m0 m1 = some (y, ye) from hy)
          clear hy hmm hl hrd hc9 hb9 HM
          go_upto_region 17 with (fail)
          clear e0 e1 e2 e3 e4 l2
          obtain ⟨k0, k1, k2, _⟩ := HP.rbGet HOA.out (List.Mem.tail _ (List.Mem.tail _ (List.Mem.tail _ (List.Mem.head _))))
          have k0r := cell_regrown (w := W5.drew) k0
          have k1r := cell_regrown (w := W5.drew) k1
          have k2r := cell_regrown (w := W5.drew) k2
          have f0r := cell_regrown (w := W5.drew) f0
          have f1r := cell_regrown (w := W5.drew) f1
          refine wp_region_ph [.H [0, 1, 2, 3, 4, 5, 6], .S [7], .P 8, .P 9, .P 10, .P 11, .P 12] (by kernel_rfl) (by kernel_rfl) ?_
          refine wpPs_H ?_
          repeat (refine wpQI_step rfl rfl (fun K hK => ?_); go_simp; first | (refine hK _ ?_; clear hK K))
          refine wpQI_nil ?_
          intro _ hw_
          obtain ⟨⟨dq, osq⟩, hw_⟩ := hw_
          subst hw_
          have hd := below_regrown_drew W5 dq osq
          generalize Go.Sort.grow (redrawn W5.drew _) _ = W6 at *
          clear k0r k1r k2r k0 k1 k2 f0r f1r f0 f1 hc0
          replace HOA := Lib.hid (HOA.out.below hd)
          replace HD := Lib.hid (HD.out.trans (hd.mono HD.out.size)); clear hd
          have HC := Lib.hid (mF4_ok W6 cap (rdL HD.out HR.out) HY.out)
          rw [← HNX.out] at HC
          refine wpPs_S rfl (fun Q' hQ' hL' => ?_)
          go_wp2_with fail
          refine HC.out.mono ?_; rintro e1 W7 ⟨rfl, hd⟩
          replace HOA := Lib.hid (HOA.out.below hd)
          replace HD := Lib.hid (HD.out.trans (hd.mono HD.out.size)); clear hd HC
          try go_wp2_with fail
          refine hQ' _ _ ?_; clear hQ' hL' Q'
          repeat (refine wpPs_P rfl rfl (fun K hK => ?_); go_simp; refine hK _ ?_; clear hK K)
          refine wpPs_nil ?_
          by_cases hye : ye = 0
          · have hyb : (ye != 0) = false := by rw [hye]; rfl
            by_cases hn : y < 0
            · have hnd := decide_eq_true hn
              obtain rfl : sa = ⟨#[110, 111, 110, 101]⟩ := by rw [hsa]; unfold farS; rw [if_pos hye, if_pos hn]
              clear hsa
              obtain ⟨⟨q0, q1, q2⟩, hset, hbs⟩ := HP.setRB (its1 := [_, _]) HOA.out (.slice A nx cap) x.2.1 x.2.2
              obtain ⟨k0, k1, k2, _⟩ := HP.rbGet HOA.out (List.Mem.tail _ (List.Mem.tail _ (List.Mem.tail _ (List.Mem.head _))))
              obtain ⟨r0, r1, r2, _⟩ := HP.rbGet HOA.out (List.Mem.tail _ (List.Mem.tail _ (List.Mem.head _)))
              have HSET := Lib.hid hset; have HBS := Lib.hid hbs; clear hset hbs
              go_wp2_with fail
              refine bodyPost_ret (results_cellrow_tmp (p := 4) (u := 5) (ty := 44) rfl _ _ (w.heap.size + 1) _ _ _ _ rfl (HP.rbGet HSET.out (List.Mem.tail _ (List.Mem.tail _ (List.Mem.head _)))).2.2.2 Tryz.underlying44 rfl (by kernel_rfl)) rfl ⟨_, rfl, .inl ⟨rfl, rfl⟩, HD.out.trans HBS.out⟩
            · have hnd := decide_eq_false hn
              obtain ⟨yn, rfl⟩ := Int.eq_ofNat_of_zero_le (show 0 ≤ y by omega)
              obtain rfl : sa = dec (yn : Int) := by rw [hsa]; unfold farS; rw [if_pos hye, if_neg hn]
              have hyn : yn ≤ 1000 := by omega
              clear hsa
              go_upto_region 22 with (fail)
              obtain ⟨k0, k1, k2, _⟩ := HP.rbGet HOA.out (List.Mem.tail _ (List.Mem.tail _ (List.Mem.tail _ (List.Mem.head _))))
              have k0r := cell_regrown k0; have k1r := cell_regrown k1; have k2r := cell_regrown k2
              have HCT := Lib.hid (fun W d_ os_ => Calls.regrown_of (v := .string (dec ((yn : Nat) : Int))) ((digits_ok (Go.Sort.grow (redrawn W d_) os_) 8 yn (by omega) (by omega)).mono fun _ _ h_ => ⟨h_.1, h_.2 ▸ Below.refl _ _⟩))
              refine wp_region_quiet_tail 3 (by kernel_rfl) (by kernel_rfl) ?_
              dsimp only [List.take, List.drop]
              repeat (refine wpQH_step (fun K hK => ?_); go_simp; first | (refine hK _ ?_; clear hK K) | (apply Exists.intro; refine ⟨fun _ => ?_, hK _ ?_⟩; (go_at_call 31; exact (HCT.out _ _ _)); clear hK K))
              refine wpQH_nil ?_
              intro _ hw_
              obtain ⟨⟨dq, osq⟩, hw_⟩ := hw_
              subst hw_
              have hd := below_regrown W7 dq osq
              generalize Go.Sort.grow (redrawn W7 _) _ = W8 at *
              clear k0r k1r k2r k0 k1 k2 HCT
              replace HOA := Lib.hid (HOA.out.below hd)
              replace HD := Lib.hid (HD.out.trans (hd.mono HD.out.size)); clear hd
              obtain ⟨⟨q0, q1, q2⟩, hset, hbs⟩ := HP.setRB (its1 := [_, _]) HOA.out (.slice A nx cap) x.2.1 x.2.2
              obtain ⟨r0, r1, r2, _⟩ := HP.rbGet HOA.out (List.Mem.tail _ (List.Mem.tail _ (List.Mem.head _)))
              have HSET := Lib.hid hset; have HBS := Lib.hid hbs; clear hset hbs
              go_wp2_with fail
              refine bodyPost_ret (results_cellrow_tmp (p := 4) (u := 5) (ty := 44) rfl _ _ (w.heap.size + 1) _ _ _ _ rfl (HP.rbGet HSET.out (List.Mem.tail _ (List.Mem.tail _ (List.Mem.head _)))).2.2.2 Tryz.underlying44 rfl (by kernel_rfl)) rfl ⟨_, rfl, .inl ⟨rfl, rfl⟩, HD.out.trans HBS.out⟩
          · have hyb : (ye != 0) = true := by rw [bne_iff_ne]; exact hye
            obtain rfl : sa = tld ye := by rw [hsa]; unfold farS; rw [if_neg hye]
            clear hsa
            go_upto_region 19 with (fail)
            obtain ⟨k0, k1, k2, _⟩ := HP.rbGet HOA.out (List.Mem.tail _ (List.Mem.tail _ (List.Mem.tail _ (List.Mem.head _))))
            have k0r := cell_regrown k0; have k1r := cell_regrown k1; have k2r := cell_regrown k2
            have HCT := Lib.hid (fun W d_ os_ => Calls.regrown_of (v := .string (tld ye)) ((called_ok ye he (Go.Sort.grow (redrawn W d_) os_)).mono fun _ _ h_ => ⟨h_.1, h_.2 ▸ Below.refl _ _⟩))
            refine wp_region_quiet_tail 3 (by kernel_rfl) (by kernel_rfl) ?_
            dsimp only [List.take, List.drop]
            repeat (refine wpQH_step (fun K hK => ?_); go_simp; first | (refine hK _ ?_; clear hK K) | (apply Exists.intro; refine ⟨fun _ => ?_, hK _ ?_⟩; (go_at_call 28; exact (HCT.out _ _ _)); clear hK K))
            refine wpQH_nil ?_
            intro _ hw_
            obtain ⟨⟨dq, osq⟩, hw_⟩ := hw_
            subst hw_
            have hd := below_regrown W7 dq osq
            generalize Go.Sort.grow (redrawn W7 _) _ = W8 at *
            clear k0r k1r k2r k0 k1 k2 HCT
            replace HOA := Lib.hid (HOA.out.below hd)
            replace HD := Lib.hid (HD.out.trans (hd.mono HD.out.size)); clear hd
            obtain ⟨⟨q0, q1, q2⟩, hset, hbs⟩ := HP.setRB (its1 := [_, _]) HOA.out (.slice A nx cap) x.2.1 x.2.2
            obtain ⟨r0, r1, r2, _⟩ := HP.rbGet HOA.out (List.Mem.tail _ (List.Mem.tail _ (List.Mem.head _)))
            have HSET := Lib.hid hset; have HBS := Lib.hid hbs; clear hset hbs
            go_wp2_with fail
            refine bodyPost_ret (results_cellrow_tmp (p := 4) (u := 5) (ty := 44) rfl _ _ (w.heap.size + 1) _ _ _ _ rfl (HP.rbGet HSET.out (List.Mem.tail _ (List.Mem.tail _ (List.Mem.head _)))).2.2.2 Tryz.underlying44 rfl (by kernel_rfl)) rfl ⟨_, rfl, .inl ⟨rfl, rfl⟩, HD.out.trans HBS.out⟩
        · rw [if_neg fun q => hl q.2, if_neg fun q => nFM (h2.symm.trans q.1), if_neg fun q => nFX (h2.symm.trans q.1)] at hmm
          obtain rfl : (badS, x) = r := Option.some.inj hmm
          have ll : (((nums.length : Nat) : Int) == 2) = false := by rw [beq_eq_false_iff_ne]; exact fun q => hl (Int.ofNat.inj q)
          clear hmm HM hrd hl h2
          obtain ⟨⟨q0, q1, q2⟩, hset, hbs⟩ := HP.setRB (its1 := [_, _]) HOA.out (.slice A nx cap) x.2.1 x.2.2
          obtain ⟨k0, k1, k2, _⟩ := HP.rbGet HOA.out (List.Mem.tail _ (List.Mem.tail _ (List.Mem.tail _ (List.Mem.head _))))
          obtain ⟨r0, r1, r2, _⟩ := HP.rbGet HOA.out (List.Mem.tail _ (List.Mem.tail _ (List.Mem.head _)))
          have HSET := Lib.hid hset; have HBS := Lib.hid hbs; clear hset hbs
          go_wp2_with fail
          refine bodyPost_ret (results_cellrow_tmp (p := 4) (u := 5) (ty := 44) rfl _ _ (w.heap.size + 1) _ _ _ _ rfl (HP.rbGet HSET.out (List.Mem.tail _ (List.Mem.tail _ (List.Mem.head _)))).2.2.2 Tryz.underlying44 rfl (by kernel_rfl)) rfl ⟨_, rfl, .inl ⟨rfl, rfl⟩, HD.out.trans HBS.out⟩
      rw [if_neg fun q => h2 q.1] at hmm
      by_cases h3 : w0 = kM
      · have e0 := tJ.trans (decide_eq_false fun q => nJM.symm (h3.symm.trans q))
        have e1 := tC.trans (decide_eq_false fun q => nCM.symm (h3.symm.trans q))
        have e2 := tF.trans (decide_eq_false fun q => nFM.symm (h3.symm.trans q))
        have e3 := tM.trans (decide_eq_true h3)
        have e4 := tX.trans (decide_eq_false fun q => nMX (h3.symm.trans q))
        clear tJ tC tF tM tX
        by_cases hl : nums.length = 0
        · rw [if_pos ⟨h3, hl⟩] at hmm
          clear h3
          obtain ⟨hle, hrr⟩ := chkO_some hmm
          subst hrr
          obtain rfl : nums = [] := List.eq_nil_of_length_eq_zero hl
          have l0 : ((([] : List Int).length : Int) == 0) = true := rfl
          clear hmm hl hrd HM
          go_upto_region 24 with (fail)
          clear e0 e1 e2 e3 e4 l0 hc0
          obtain ⟨k0, k1, k2, _⟩ := HP.rbGet HOA.out (List.Mem.tail _ (List.Mem.tail _ (List.Mem.tail _ (List.Mem.head _))))
          obtain ⟨C_, hC_⟩ : ∃ C_ : World → Prop, C_ = fun W_ => W_.cell? ⟨w.heap.size, 0, none⟩ = some (.slice A nx cap) ∧ W_.cell? ⟨w.heap.size, 1, none⟩ = some (.string x.2.1) ∧ W_.cell? ⟨w.heap.size, 2, none⟩ = some (.int .i64 x.2.2) := ⟨_, rfl⟩
          have hC5 : C_ W5.drew := by rw [hC_]; exact ⟨k0, k1, k2⟩
          have hCk : ∀ (W : World) (its : List It), HP W w.heap.size its → It.fl (owRB w.heap.size (.slice A nx cap) x.2.1 x.2.2) ∈ its → C_ W := fun W its hp i1 => by
            rw [hC_]
            obtain ⟨e0, e1, e2, _⟩ := HP.rbGet hp i1
            exact ⟨e0, e1, e2⟩
          have hCd : ∀ W_, C_ W_ → W_.cell? ⟨w.heap.size, 0, none⟩ = some (.slice A nx cap) ∧ W_.cell? ⟨w.heap.size, 1, none⟩ = some (.string x.2.1) ∧ W_.cell? ⟨w.heap.size, 2, none⟩ = some (.int .i64 x.2.2) := fun W_ hh => by rw [hC_] at hh; exact hh
          have HCD := Lib.hid hCd; have HCK := Lib.hid hCk; have HC5 := Lib.hid hC5
          clear hCd hCk hC5 hC_ k0 k1 k2
          refine wp_region_pht C_ (.P 0 (.P 1 (.S 2 (.P 3 (.S 4 (.S 5 (.P 6 .N))))))) (by kernel_rfl) (by kernel_rfl) HC5.out ?_
          iterate 2 (refine wpTs_P rfl rfl (fun K hK => ?_); apply Exists.intro; refine ⟨fun W_ hc_ => ?_, ?_⟩; (have c_ := HCD.out W_ hc_; have c0_ := c_.1; have c1_ := c_.2.1; have c2_ := c_.2.2; clear c_ hc_; go_simp; try rfl); (go_simp; refine hK _ ?_; clear hK K))
          replace HOA := Lib.hid (HOA.out.dr (Dr.one _))
          replace HD := Lib.hid (HD.out.trans ((Dr.one _).below _))
          generalize hW6 : World.drew W5 = W6 at *
          clear hW6
          have HC := Lib.hid (all4_ok (t := x.2.1) (n := x.2.2) (cap := cap) W6 (rdL HD.out HR.out) HX1.out)
          rw [← HNX.out] at HC
          refine wpTs_S rfl (fun Q' hQ' hL' => ?_)
          go_wp2_with fail
          refine HC.out.mono ?_; rintro e1 W7 ⟨V7, rfl, ho, hd⟩
          replace HOA := Lib.hid (HOA.out.call hd HD.out.size ho)
          replace HD := Lib.hid (HD.out.trans (hd.mono HD.out.size)); clear hd ho HC
          have HC7 := Lib.hid (HCK.out W7 _ HOA.out (by simp))
          try go_wp2_with fail
          refine hQ' _ _ HC7.out ?_; clear hQ' hL' Q' HC7
          obtain ⟨A7, cap7, hV, _⟩ := HP.open_L HOA.out (List.Mem.head _)
          subst hV
          generalize hal : (allL x.1).length = nl at *
          iterate 1 (refine wpTs_P rfl rfl (fun K hK => ?_); apply Exists.intro; refine ⟨fun W_ hc_ => ?_, ?_⟩; (go_simp; try rfl); (go_simp; refine hK _ ?_; clear hK K))
          have HDG := Lib.hid (digits_ok W7 8 nl (by omega) (by omega))
          have HC7 := Lib.hid (HCK.out W7 _ HOA.out (by simp))
          refine wpTs_S rfl (fun Q' hQ' hL' => ?_)
          go_wp2_with fail
          refine HDG.out.mono ?_; rintro e2 _ ⟨rfl, rfl⟩
          try go_wp2_with fail
          refine hQ' _ _ HC7.out ?_; clear hQ' hL' Q' HC7 HDG
          replace HOA := Lib.hid (HOA.out.sub (.cons _ (List.Sublist.refl _)))
          obtain ⟨⟨q0, q1, q2⟩, hset, hbs⟩ := HP.setRB (its1 := [_, _]) HOA.out (.slice A nx cap) x.2.1 x.2.2
          obtain ⟨r0, r1, r2, _⟩ := HP.rbGet HOA.out (List.Mem.tail _ (List.Mem.tail _ (List.Mem.head _)))
          have HC9 := Lib.hid (HCK.out _ _ hset (by simp))
          have HSET := Lib.hid hset; have HBS := Lib.hid hbs; clear hset hbs
          refine wpTs_S rfl (fun Q' hQ' hL' => ?_)
          go_wp2_with fail
          refine hQ' _ _ HC9.out ?_; clear hQ' hL' Q' HC9 q0 q1 q2 r0 r1 r2
          iterate 1 (refine wpTs_P rfl rfl (fun K hK => ?_); apply Exists.intro; refine ⟨fun W_ hc_ => ?_, ?_⟩; (go_simp; try rfl); (go_simp; refine hK _ ?_; clear hK K))
          refine wpTs_N ?_
          try go_wp2_with fail
          refine bodyPost_ret (results_cellrow_tmp (p := 4) (u := 5) (ty := 44) rfl _ _ (w.heap.size + 1) _ _ _ _ rfl (HP.rbGet HSET.out (List.Mem.tail _ (List.Mem.tail _ (List.Mem.head _)))).2.2.2 Tryz.underlying44 rfl (by kernel_rfl)) rfl ⟨_, rfl, .inl ⟨rfl, rfl⟩, HD.out.trans HBS.out⟩
        · rw [if_neg fun q => hl q.2, if_neg fun q => nMX (h3.symm.trans q.1)] at hmm
          obtain rfl : (badS, x) = r := Option.some.inj hmm
          have ll : (((nums.length : Nat) : Int) == 0) = false := by rw [beq_eq_false_iff_ne]; exact fun q => hl (Int.ofNat.inj q)
          clear hmm HM hrd hl h3
          obtain ⟨⟨q0, q1, q2⟩, hset, hbs⟩ := HP.setRB (its1 := [_, _]) HOA.out (.slice A nx cap) x.2.1 x.2.2
          obtain ⟨k0, k1, k2, _⟩ := HP.rbGet HOA.out (List.Mem.tail _ (List.Mem.tail _ (List.Mem.tail _ (List.Mem.head _))))
          obtain ⟨r0, r1, r2, _⟩ := HP.rbGet HOA.out (List.Mem.tail _ (List.Mem.tail _ (List.Mem.head _)))
          have HSET := Lib.hid hset; have HBS := Lib.hid hbs; clear hset hbs
          go_wp2_with fail
          refine bodyPost_ret (results_cellrow_tmp (p := 4) (u := 5) (ty := 44) rfl _ _ (w.heap.size + 1) _ _ _ _ rfl (HP.rbGet HSET.out (List.Mem.tail _ (List.Mem.tail _ (List.Mem.head _)))).2.2.2 Tryz.underlying44 rfl (by kernel_rfl)) rfl ⟨_, rfl, .inl ⟨rfl, rfl⟩, HD.out.trans HBS.out⟩
      rw [if_neg fun q => h3 q.1] at hmm
      by_cases h4 : w0 = kX
      · have e0 := tJ.trans (decide_eq_false fun q => nJX.symm (h4.symm.trans q))
        have e1 := tC.trans (decide_eq_false fun q => nCX.symm (h4.symm.trans q))
        have e2 := tF.trans (decide_eq_false fun q => nFX.symm (h4.symm.trans q))
        have e3 := tM.trans (decide_eq_false fun q => nMX.symm (h4.symm.trans q))
        have e4 := tX.trans (decide_eq_true h4)
        clear tJ tC tF tM tX
        by_cases hl : nums.length = 1
        · rw [if_pos ⟨h4, hl⟩] at hmm
          clear h4
          by_cases hn0 : 0 ≤ nums.getD 0 0
          case neg => rw [if_neg hn0] at hmm; cases hmm
          rw [if_pos hn0] at hmm
          obtain ⟨⟨⟨yl, yt, yn⟩, ym, ye⟩, hy, hmm⟩ := obind hmm
          obtain ⟨⟨he, hym0, hym1⟩, hrr⟩ := chkO_some hmm
          dsimp only at he hym0 hym1 hrr
          obtain ⟨ym, rfl⟩ := Int.eq_ofNat_of_zero_le hym0
          obtain ⟨sa, hsa⟩ : ∃ sa, sa = (if ye = 0 then fndS (ym : Int) else tld ye) := ⟨_, rfl⟩
          obtain ⟨rx, hrx⟩ : ∃ rx : RbT, rx = (if ye = 0 then (yl, yt, yn) else x) := ⟨_, rfl⟩
          rw [← hsa, ← hrx] at hrr
          subst hrr
          obtain ⟨m0, rfl⟩ : ∃ m0, nums = [m0] := by
            match nums, hl with
            | [m0], _ => exact ⟨m0, rfl⟩
          have l1 : ((([m0] : List Int).length : Int) == 1) = true := rfl
          obtain ⟨g9, o9, eA, hb9, hc9⟩ := hrd.2 (show 0 < 1 by decide)
          subst eA
          have f0 : W5.cell? ⟨g9, o9, none⟩ = some (.int .i64 m0) := hc9 0 _ rfl
          have hn0 : 0 ≤ m0 := hn0
          have hy : mO4 (x.2.1.extract 0 (min m0 (x.2.1.size : Int)).toNat) = some ((yl, yt, yn), (ym : Int), ye) := hy
          obtain ⟨k0, k1, k2, _⟩ := HP.rbGet HOA.out (List.Mem.tail _ (List.Mem.tail _ (List.Mem.tail _ (List.Mem.head _))))
          have hxz := HX2.out
          clear hmm hl hrd hc9 hb9 HM
          by_cases hbig : (x.2.1.size : Int) < m0
          · have hbd := decide_eq_true hbig
            rw [show (min m0 (x.2.1.size : Int)).toNat = x.2.1.size by omega, show x.2.1.extract 0 x.2.1.size = x.2.1 by simp] at hy
            have HY := Lib.hid hy; clear hy
            have hsl : (x.2.1.size : Int) ≤ (x.2.1.size : Int) := Int.le_refl _
            go_wp2_with fail
            clear k0 k1 k2 hbd hsl hbig f0 hn0 e0 e1 e2 e3 e4 l1 hc0 hxz
            refine (mO4_ok W5 HY.out).mono ?_; rintro e1 W7 ⟨V7, rfl, ho, hd⟩
            replace HOA := Lib.hid (HOA.out.call hd HD.out.size ho)
            replace HD := Lib.hid (HD.out.trans (hd.mono HD.out.size)); clear hd ho
            obtain ⟨A7, cap7, hV, _⟩ := HP.open_L HOA.out (List.Mem.head _)
            have hV : V7 = .slice A7 yl.length cap7 := hV
            subst hV
            have hb8 : Below W7.heap.size W7 (W7.alloc (.cells #[.slice A7 yl.length cap7, .string yt, .int .i64 yn] 44)) := (Below.refl _ _).alloc (Nat.le_refl _) _
            replace HOA := Lib.hid (HP.call HOA.out hb8 HD.out.size (owRB_ok W7 (.slice A7 yl.length cap7) yt yn))
            replace HD := Lib.hid (HD.out.trans (hb8.mono HD.out.size)); clear hb8
            dsimp only
            go_upto_region 30 with (fail)
            generalize World.alloc W7 _ = W9 at *
            generalize W7.heap.size = g8 at *
            by_cases hye : ye = 0
            · have hyb : (ye != 0) = false := by rw [hye]; rfl
              obtain rfl : sa = (⟨#[102, 111, 117, 110, 100, 32]⟩ : ByteArray) ++ dec ((ym : Nat) : Int) := by rw [hsa, if_pos hye]; rfl
              obtain rfl : rx = (yl, yt, yn) := by rw [hrx, if_pos hye]
              clear hsa hrx
              have hdz : (dec ((ym : Nat) : Int)).size ≤ 8 := dec_le (by omega) (by omega) (by rw [Int.toNat_natCast]; omega)
              go_upto_region 32 with (fail)
              obtain ⟨k0, k1, k2, _⟩ := HP.rbGet HOA.out (List.Mem.head _)
              have hz1 : ¬ (9223372036854775807 < 6 + (dec ((ym : Nat) : Int)).size) := by omega
              obtain ⟨C_, hC_⟩ : ∃ C_ : World → Prop, C_ = fun W_ => W_.cell? ⟨g8, 0, none⟩ = some (.slice A7 yl.length cap7) ∧ W_.cell? ⟨g8, 1, none⟩ = some (.string yt) ∧ W_.cell? ⟨g8, 2, none⟩ = some (.int .i64 yn) := ⟨_, rfl⟩
              have hC5 : C_ W9.drew := by rw [hC_]; exact ⟨k0, k1, k2⟩
              have hCk : ∀ (W : World) (its : List It), HP W w.heap.size its → It.fl (owRB g8 (.slice A7 yl.length cap7) yt yn) ∈ its → C_ W := fun W its hp i1 => by
                rw [hC_]
                obtain ⟨e0, e1, e2, _⟩ := HP.rbGet hp i1
                exact ⟨e0, e1, e2⟩
              have hCd : ∀ W_, C_ W_ → W_.cell? ⟨g8, 0, none⟩ = some (.slice A7 yl.length cap7) ∧ W_.cell? ⟨g8, 1, none⟩ = some (.string yt) ∧ W_.cell? ⟨g8, 2, none⟩ = some (.int .i64 yn) := fun W_ hh => by rw [hC_] at hh; exact hh
              have HCD := Lib.hid hCd; have HCK := Lib.hid hCk; have HC5 := Lib.hid hC5
              clear hCd hCk hC5 hC_ k0 k1 k2
              refine wp_region_pht C_ (.P 0 (.P 1 (.S 2 (.P 3 (.S 4 (.P 5 .N)))))) (by kernel_rfl) (by kernel_rfl) HC5.out ?_
              iterate 2 (refine wpTs_P rfl rfl (fun K hK => ?_); apply Exists.intro; refine ⟨fun W_ hc_ => ?_, ?_⟩; (have c_ := HCD.out W_ hc_; have c0_ := c_.1; have c1_ := c_.2.1; have c2_ := c_.2.2; clear c_ hc_; go_simp; try rfl); (go_simp; refine hK _ ?_; clear hK K))
              replace HOA := Lib.hid (HOA.out.dr (Dr.one _))
              replace HD := Lib.hid (HD.out.trans ((Dr.one _).below _))
              generalize hW10 : World.drew W9 = W10 at *
              clear hW10 HC5
              have HDG := Lib.hid (digits_ok W10 8 ym (by omega) (by omega))
              have HC7 := Lib.hid (HCK.out W10 _ HOA.out (List.Mem.head _))
              refine wpTs_S rfl (fun Q' hQ' hL' => ?_)
              go_wp2_with fail
              refine HDG.out.mono ?_; rintro e2 _ ⟨rfl, rfl⟩
              try go_wp2_with fail
              refine hQ' _ _ HC7.out ?_; clear hQ' hL' Q' HC7 HDG
              iterate 1 (refine wpTs_P rfl rfl (fun K hK => ?_); apply Exists.intro; refine ⟨fun W_ hc_ => ?_, ?_⟩; (go_simp; try rfl); (go_simp; refine hK _ ?_; clear hK K))
              obtain ⟨r0, r1, r2, _⟩ := HP.rbGet (g := w.heap.size + 1) (V := .slice none 0 0) (t := ⟨#[]⟩) (n := 0) HOA.out (by simp)
              obtain ⟨⟨q0, q1, q2⟩, hset, hbs⟩ := HP.setRB (its1 := [_, _, _, _]) HOA.out (.slice A7 yl.length cap7) yt yn
              have HC9 := Lib.hid (HCK.out _ _ hset (List.Mem.head _))
              have HSET := Lib.hid hset; have HBS := Lib.hid hbs; clear hset hbs
              refine wpTs_S rfl (fun Q' hQ' hL' => ?_)
              go_wp2_with fail
              refine hQ' _ _ HC9.out ?_; clear hQ' hL' Q' HC9 q0 q1 q2 r0 r1 r2
              iterate 1 (refine wpTs_P rfl rfl (fun K hK => ?_); apply Exists.intro; refine ⟨fun W_ hc_ => ?_, ?_⟩; (go_simp; try rfl); (go_simp; refine hK _ ?_; clear hK K))
              refine wpTs_N ?_
              try go_wp2_with fail
              refine bodyPost_ret (results_cellrow_tmp (p := 4) (u := 5) (ty := 44) rfl _ _ (w.heap.size + 1) _ _ _ _ rfl (HP.rbGet HSET.out (List.Mem.tail _ (List.Mem.tail _ (List.Mem.tail _ (List.Mem.tail _ (List.Mem.head _)))))).2.2.2 Tryz.underlying44 rfl (by kernel_rfl)) rfl ⟨_, rfl, .inr (HSET.out.get (List.Mem.tail _ (List.Mem.head _))), HD.out.trans HBS.out⟩
            · have hyb : (ye != 0) = true := by rw [bne_iff_ne]; exact hye
              obtain rfl : sa = tld ye := by rw [hsa, if_neg hye]
              obtain rfl : rx = x := by rw [hrx, if_neg hye]
              clear hsa hrx
              go_upto_region 31 with (fail)
              obtain ⟨k0, k1, k2, _⟩ := HP.rbGet (g := w.heap.size) (V := .slice A nx cap) (t := rx.2.1) (n := rx.2.2) HOA.out (by simp)
              have k0r := cell_regrown k0; have k1r := cell_regrown k1; have k2r := cell_regrown k2
              have HCT := Lib.hid (fun W d_ os_ => Calls.regrown_of (v := .string (tld ye)) ((called_ok ye he (Go.Sort.grow (redrawn W d_) os_)).mono fun _ _ h_ => ⟨h_.1, h_.2 ▸ Below.refl _ _⟩))
              refine wp_region_quiet_tail 3 (by kernel_rfl) (by kernel_rfl) ?_
              dsimp only [List.take, List.drop]
              repeat (refine wpQH_step (fun K hK => ?_); go_simp; first | (refine hK _ ?_; clear hK K) | (apply Exists.intro; refine ⟨fun _ => ?_, hK _ ?_⟩; (go_at_call 28; exact (HCT.out _ _ _)); clear hK K))
              refine wpQH_nil ?_
              intro _ hw_
              obtain ⟨⟨dq, osq⟩, hw_⟩ := hw_
              subst hw_
              have hd := below_regrown W9 dq osq
              generalize Go.Sort.grow (redrawn W9 _) _ = W10 at *
              clear k0r k1r k2r k0 k1 k2 HCT
              replace HOA := Lib.hid (HOA.out.below hd)
              replace HD := Lib.hid (HD.out.trans (hd.mono HD.out.size)); clear hd
              obtain ⟨r0, r1, r2, _⟩ := HP.rbGet (g := w.heap.size + 1) (V := .slice none 0 0) (t := ⟨#[]⟩) (n := 0) HOA.out (by simp)
              obtain ⟨⟨q0, q1, q2⟩, hset, hbs⟩ := HP.setRB (its1 := [_, _, _, _]) HOA.out (.slice A nx cap) rx.2.1 rx.2.2
              have HSET := Lib.hid hset; have HBS := Lib.hid hbs; clear hset hbs
              go_wp2_with fail
              refine bodyPost_ret (results_cellrow_tmp (p := 4) (u := 5) (ty := 44) rfl _ _ (w.heap.size + 1) _ _ _ _ rfl (HP.rbGet HSET.out (List.Mem.tail _ (List.Mem.tail _ (List.Mem.tail _ (List.Mem.tail _ (List.Mem.head _)))))).2.2.2 Tryz.underlying44 rfl (by kernel_rfl)) rfl ⟨_, rfl, .inl ⟨rfl, rfl⟩, HD.out.trans HBS.out⟩
          · have hbd := decide_eq_false hbig
            obtain ⟨k, rfl⟩ := Int.eq_ofNat_of_zero_le hn0
            rw [show (min (k : Int) (x.2.1.size : Int)).toNat = k by omega] at hy
            have HY := Lib.hid hy; clear hy
            have hsl : (k : Int) ≤ (x.2.1.size : Int) := by omega
            go_wp2_with fail
            clear k0 k1 k2 hbd hsl hbig f0 hn0 e0 e1 e2 e3 e4 l1 hc0 hxz
            refine (mO4_ok W5 HY.out).mono ?_; rintro e1 W7 ⟨V7, rfl, ho, hd⟩
            replace HOA := Lib.hid (HOA.out.call hd HD.out.size ho)
            replace HD := Lib.hid (HD.out.trans (hd.mono HD.out.size)); clear hd ho
            obtain ⟨A7, cap7, hV, _⟩ := HP.open_L HOA.out (List.Mem.head _)
            have hV : V7 = .slice A7 yl.length cap7 := hV
            subst hV
            have hb8 : Below W7.heap.size W7 (W7.alloc (.cells #[.slice A7 yl.length cap7, .string yt, .int .i64 yn] 44)) := (Below.refl _ _).alloc (Nat.le_refl _) _
            replace HOA := Lib.hid (HP.call HOA.out hb8 HD.out.size (owRB_ok W7 (.slice A7 yl.length cap7) yt yn))
            replace HD := Lib.hid (HD.out.trans (hb8.mono HD.out.size)); clear hb8
            dsimp only
            go_upto_region 30 with (fail)
            generalize World.alloc W7 _ = W9 at *
            generalize W7.heap.size = g8 at *
            by_cases hye : ye = 0
            · have hyb : (ye != 0) = false := by rw [hye]; rfl
              obtain rfl : sa = (⟨#[102, 111, 117, 110, 100, 32]⟩ : ByteArray) ++ dec ((ym : Nat) : Int) := by rw [hsa, if_pos hye]; rfl
              obtain rfl : rx = (yl, yt, yn) := by rw [hrx, if_pos hye]
              clear hsa hrx
              have hdz : (dec ((ym : Nat) : Int)).size ≤ 8 := dec_le (by omega) (by omega) (by rw [Int.toNat_natCast]; omega)
              go_upto_region 32 with (fail)
              obtain ⟨k0, k1, k2, _⟩ := HP.rbGet HOA.out (List.Mem.head _)
              have hz1 : ¬ (9223372036854775807 < 6 + (dec ((ym : Nat) : Int)).size) := by omega
              obtain ⟨C_, hC_⟩ : ∃ C_ : World → Prop, C_ = fun W_ => W_.cell? ⟨g8, 0, none⟩ = some (.slice A7 yl.length cap7) ∧ W_.cell? ⟨g8, 1, none⟩ = some (.string yt) ∧ W_.cell? ⟨g8, 2, none⟩ = some (.int .i64 yn) := ⟨_, rfl⟩
              have hC5 : C_ W9.drew := by rw [hC_]; exact ⟨k0, k1, k2⟩
              have hCk : ∀ (W : World) (its : List It), HP W w.heap.size its → It.fl (owRB g8 (.slice A7 yl.length cap7) yt yn) ∈ its → C_ W := fun W its hp i1 => by
                rw [hC_]
                obtain ⟨e0, e1, e2, _⟩ := HP.rbGet hp i1
                exact ⟨e0, e1, e2⟩
              have hCd : ∀ W_, C_ W_ → W_.cell? ⟨g8, 0, none⟩ = some (.slice A7 yl.length cap7) ∧ W_.cell? ⟨g8, 1, none⟩ = some (.string yt) ∧ W_.cell? ⟨g8, 2, none⟩ = some (.int .i64 yn) := fun W_ hh => by rw [hC_] at hh; exact hh
              have HCD := Lib.hid hCd; have HCK := Lib.hid hCk; have HC5 := Lib.hid hC5
              clear hCd hCk hC5 hC_ k0 k1 k2
              refine wp_region_pht C_ (.P 0 (.P 1 (.S 2 (.P 3 (.S 4 (.P 5 .N)))))) (by kernel_rfl) (by kernel_rfl) HC5.out ?_
              iterate 2 (refine wpTs_P rfl rfl (fun K hK => ?_); apply Exists.intro; refine ⟨fun W_ hc_ => ?_, ?_⟩; (have c_ := HCD.out W_ hc_; have c0_ := c_.1; have c1_ := c_.2.1; have c2_ := c_.2.2; clear c_ hc_; go_simp; try rfl); (go_simp; refine hK _ ?_; clear hK K))
              replace HOA := Lib.hid (HOA.out.dr (Dr.one _))
              replace HD := Lib.hid (HD.out.trans ((Dr.one _).below _))
              generalize hW10 : World.drew W9 = W10 at *
              clear hW10 HC5
              have HDG := Lib.hid (digits_ok W10 8 ym (by omega) (by omega))
              have HC7 := Lib.hid (HCK.out W10 _ HOA.out (List.Mem.head _))
              refine wpTs_S rfl (fun Q' hQ' hL' => ?_)
              go_wp2_with fail
              refine HDG.out.mono ?_; rintro e2 _ ⟨rfl, rfl⟩
              try go_wp2_with fail
              refine hQ' _ _ HC7.out ?_; clear hQ' hL' Q' HC7 HDG
              iterate 1 (refine wpTs_P rfl rfl (fun K hK => ?_); apply Exists.intro; refine ⟨fun W_ hc_ => ?_, ?_⟩; (go_simp; try rfl); (go_simp; refine hK _ ?_; clear hK K))
              obtain ⟨r0, r1, r2, _⟩ := HP.rbGet (g := w.heap.size + 1) (V := .slice none 0 0) (t := ⟨#[]⟩) (n := 0) HOA.out (by simp)
              obtain ⟨⟨q0, q1, q2⟩, hset, hbs⟩ := HP.setRB (its1 := [_, _, _, _]) HOA.out (.slice A7 yl.length cap7) yt yn
              have HC9 := Lib.hid (HCK.out _ _ hset (List.Mem.head _))
              have HSET := Lib.hid hset; have HBS := Lib.hid hbs; clear hset hbs
              refine wpTs_S rfl (fun Q' hQ' hL' => ?_)
              go_wp2_with fail
              refine hQ' _ _ HC9.out ?_; clear hQ' hL' Q' HC9 q0 q1 q2 r0 r1 r2
              iterate 1 (refine wpTs_P rfl rfl (fun K hK => ?_); apply Exists.intro; refine ⟨fun W_ hc_ => ?_, ?_⟩; (go_simp; try rfl); (go_simp; refine hK _ ?_; clear hK K))
              refine wpTs_N ?_
              try go_wp2_with fail
              refine bodyPost_ret (results_cellrow_tmp (p := 4) (u := 5) (ty := 44) rfl _ _ (w.heap.size + 1) _ _ _ _ rfl (HP.rbGet HSET.out (List.Mem.tail _ (List.Mem.tail _ (List.Mem.tail _ (List.Mem.tail _ (List.Mem.head _)))))).2.2.2 Tryz.underlying44 rfl (by kernel_rfl)) rfl ⟨_, rfl, .inr (HSET.out.get (List.Mem.tail _ (List.Mem.head _))), HD.out.trans HBS.out⟩
            · have hyb : (ye != 0) = true := by rw [bne_iff_ne]; exact hye
              obtain rfl : sa = tld ye := by rw [hsa, if_neg hye]
              obtain rfl : rx = x := by rw [hrx, if_neg hye]
              clear hsa hrx
              go_upto_region 31 with (fail)
              obtain ⟨k0, k1, k2, _⟩ := HP.rbGet (g := w.heap.size) (V := .slice A nx cap) (t := rx.2.1) (n := rx.2.2) HOA.out (by simp)
              have k0r := cell_regrown k0; have k1r := cell_regrown k1; have k2r := cell_regrown k2
              have HCT := Lib.hid (fun W d_ os_ => Calls.regrown_of (v := .string (tld ye)) ((called_ok ye he (Go.Sort.grow (redrawn W d_) os_)).mono fun _ _ h_ => ⟨h_.1, h_.2 ▸ Below.refl _ _⟩))
              refine wp_region_quiet_tail 3 (by kernel_rfl) (by kernel_rfl) ?_
              dsimp only [List.take, List.drop]
              repeat (refine wpQH_step (fun K hK => ?_); go_simp; first | (refine hK _ ?_; clear hK K) | (apply Exists.intro; refine ⟨fun _ => ?_, hK _ ?_⟩; (go_at_call 28; exact (HCT.out _ _ _)); clear hK K))
              refine wpQH_nil ?_
              intro _ hw_
              obtain ⟨⟨dq, osq⟩, hw_⟩ := hw_
              subst hw_
              have hd := below_regrown W9 dq osq
              generalize Go.Sort.grow (redrawn W9 _) _ = W10 at *
              clear k0r k1r k2r k0 k1 k2 HCT
              replace HOA := Lib.hid (HOA.out.below hd)
              replace HD := Lib.hid (HD.out.trans (hd.mono HD.out.size)); clear hd
              obtain ⟨r0, r1, r2, _⟩ := HP.rbGet (g := w.heap.size + 1) (V := .slice none 0 0) (t := ⟨#[]⟩) (n := 0) HOA.out (by simp)
              obtain ⟨⟨q0, q1, q2⟩, hset, hbs⟩ := HP.setRB (its1 := [_, _, _, _]) HOA.out (.slice A nx cap) rx.2.1 rx.2.2
              have HSET := Lib.hid hset; have HBS := Lib.hid hbs; clear hset hbs
              go_wp2_with fail
              refine bodyPost_ret (results_cellrow_tmp (p := 4) (u := 5) (ty := 44) rfl _ _ (w.heap.size + 1) _ _ _ _ rfl (HP.rbGet HSET.out (List.Mem.tail _ (List.Mem.tail _ (List.Mem.tail _ (List.Mem.tail _ (List.Mem.head _)))))).2.2.2 Tryz.underlying44 rfl (by kernel_rfl)) rfl ⟨_, rfl, .inl ⟨rfl, rfl⟩, HD.out.trans HBS.out⟩
        · rw [if_neg fun q => hl q.2] at hmm
          obtain rfl : (badS, x) = r := Option.some.inj hmm
          have ll : (((nums.length : Nat) : Int) == 1) = false := by rw [beq_eq_false_iff_ne]; exact fun q => hl (Int.ofNat.inj q)
          clear hmm HM hrd hl h4
          obtain ⟨⟨q0, q1, q2⟩, hset, hbs⟩ := HP.setRB (its1 := [_, _]) HOA.out (.slice A nx cap) x.2.1 x.2.2
          obtain ⟨k0, k1, k2, _⟩ := HP.rbGet HOA.out (List.Mem.tail _ (List.Mem.tail _ (List.Mem.tail _ (List.Mem.head _))))
          obtain ⟨r0, r1, r2, _⟩ := HP.rbGet HOA.out (List.Mem.tail _ (List.Mem.tail _ (List.Mem.head _)))
          have HSET := Lib.hid hset; have HBS := Lib.hid hbs; clear hset hbs
          go_wp2_with fail
          refine bodyPost_ret (results_cellrow_tmp (p := 4) (u := 5) (ty := 44) rfl _ _ (w.heap.size + 1) _ _ _ _ rfl (HP.rbGet HSET.out (List.Mem.tail _ (List.Mem.tail _ (List.Mem.head _)))).2.2.2 Tryz.underlying44 rfl (by kernel_rfl)) rfl ⟨_, rfl, .inl ⟨rfl, rfl⟩, HD.out.trans HBS.out⟩
      rw [if_neg fun q => h4 q.1] at hmm
      have e0 := tJ.trans (decide_eq_false h0)
      have e1 := tC.trans (decide_eq_false h1)
      have e2 := tF.trans (decide_eq_false h2)
      have e3 := tM.trans (decide_eq_false h3)
      have e4 := tX.trans (decide_eq_false h4)
      clear tJ tC tF tM tX
      obtain rfl : (badS, x) = r := Option.some.inj hmm
      clear hmm HM hrd h0 h1 h2 h3 h4
      obtain ⟨⟨q0, q1, q2⟩, hset, hbs⟩ := HP.setRB (its1 := [_, _]) HOA.out (.slice A nx cap) x.2.1 x.2.2
      obtain ⟨k0, k1, k2, _⟩ := HP.rbGet HOA.out (List.Mem.tail _ (List.Mem.tail _ (List.Mem.tail _ (List.Mem.head _))))
      obtain ⟨r0, r1, r2, _⟩ := HP.rbGet HOA.out (List.Mem.tail _ (List.Mem.tail _ (List.Mem.head _)))
      have HSET := Lib.hid hset; have HBS := Lib.hid hbs; clear hset hbs
      go_wp2_with fail
      refine bodyPost_ret (results_cellrow_tmp (p := 4) (u := 5) (ty := 44) rfl _ _ (w.heap.size + 1) _ _ _ _ rfl (HP.rbGet HSET.out (List.Mem.tail _ (List.Mem.tail _ (List.Mem.head _)))).2.2.2 Tryz.underlying44 rfl (by kernel_rfl)) rfl ⟨_, rfl, .inl ⟨rfl, rfl⟩, HD.out.trans HBS.out⟩
end Go.Proofs.YtekfgkeimlidhaaGreatDoor
/- DeskAnswers: the answers are the document's -/
set_option linter.all false
set_option maxRecDepth 100000
namespace Go.Proofs.YtekfgkeimlidhaaGreatDoor
open Go.RowKit Go.Shelf Pl
theorem runL_cons {b b' : BkT} {p : List UInt8} {ls : List (List UInt8)} {q : List UInt8} (h : runL b (p :: ls) = some (q, b')) : ∃ a b1 q1, mAns b ⟨p.toArray⟩ = some (a, b1) ∧ runL b1 ls = some (q1, b') ∧ q = a.data.toList ++ 10 :: q1 := by
  replace h : ((mAns b ⟨p.toArray⟩).bind fun r => (runL r.2 ls).map fun q => (r.1.data.toList ++ 10 :: q.1, q.2)) = some (q, b') := h
  obtain ⟨a, a1, h⟩ := obind h
  cases e : runL a.2 ls with
  | none => rw [e] at h; cases h
  | some q2 =>
    rw [e] at h
    replace h : some (a.1.data.toList ++ 10 :: q2.1, q2.2) = some (q, b') := h
    cases h
    exact ⟨a.1, a.2, q2.1, a1, e, rfl⟩
theorem sess_out {u a : ByteArray} {q1 q : List UInt8} (h : u.data.toList ++ (a.data.toList ++ 10 :: q1) = q) : ((u ++ a) ++ (⟨#[10]⟩ : ByteArray)).data.toList ++ q1 = q := by
  rw [← h, ByteArray.data_append, ByteArray.data_append, Array.toList_append, Array.toList_append]
  simp
theorem sess4_long {t : ByteArray} (w : World) (ht : 3000 < t.size) : Calls Tryz.prog 5 #[.string t] w fun e w' => e = .returned (.string longS) ∧ Below w.heap.size w w' := by
  have h1d := decide_eq_true (show (3000 : Int) < (t.size : Int) by omega)
  go_enter Tryz.func5, Tryz.ntmps5
  go_wp2_with fail
  go_ret
  exact ⟨rfl, Below.refl _ _⟩
set_option maxHeartbeats 1000000 in
theorem sess4_ok {t : ByteArray} {q : List UInt8} {b' : BkT} (w : World) (ht : t.size ≤ 3000) (hr : runL newB (linesR t.data.toList) = some (q, b')) (hq : q.length ≤ 63000) :
    Calls Tryz.prog 5 #[.string t] w fun e w' => e = .returned (.string ⟨q.toArray⟩) ∧ Below w.heap.size w w' := by
  have h1d := decide_eq_false (show ¬ (3000 : Int) < (t.size : Int) by omega)
  have HT := Lib.hid ht; have HQL := Lib.hid hq; clear hq ht
  obtain ⟨bs, hL⟩ : ∃ bs, bs = t.data.toList := ⟨_, rfl⟩
  have HLN := Lib.hid (show bs.length = t.size by rw [hL, bytes_len])
  rw [← hL] at hr
  have HBS0 := Lib.hid hL.symm
  have HRUN := Lib.hid hr; clear hr hL
  have hb0 : Below w.heap.size w (w.alloc (.cells #[.slice none 0 0, .string { data := #[] }, .int .i64 0] 44)) := (Below.refl _ _).alloc (Nat.le_refl _) _
  have hp0 := HP.call (HP.nil (W := w) (B := w.heap.size)) hb0 (Nat.le_refl _) (owRB_ok w (.slice none 0 0) ⟨#[]⟩ 0)
  have HD := Lib.hid hb0; have HOA := Lib.hid (hp0.pushNil 89 2); clear hb0 hp0
  go_enter Tryz.func5, Tryz.ntmps5
  go_wp2_with fail
  generalize World.alloc w _ = W2 at *
  go_loopg [4, 5] (t.size + 2) (fun gg u4 u5 wr => ∃ (u : ByteArray) (f : Nat) (x : RbT) (b : BkT) (V : Value), u4 = .string u ∧ u5 = .int .i64 (f : Int) ∧ Hid (f ≤ t.size + 1 ∧ gg = t.size + 2 - f) ∧ Hid (Below w.heap.size w wr) ∧
    Hid (HP wr w.heap.size [.fl (owL V x.1), .fl (owRB w.heap.size V x.2.1 x.2.2)]) ∧ Hid (RRel x b) ∧ Hid (∃ q1, runL b (linesR (bs.drop f)) = some (q1, b') ∧ u.data.toList ++ q1 = q))
  case atStart => exact ⟨_, 0, rb0, newB, _, rfl, rfl, Lib.hid ⟨by omega, by omega⟩, HD, HOA, Lib.hid rrel_new, Lib.hid ⟨q, HRUN.out, rfl⟩⟩
  case round =>
    clear HD HOA HRUN
    obtain ⟨u, f, x, b, V, rfl, rfl, hf, HD, HOA, HRR, hrn⟩ := hrel
    rename World => W5
    obtain ⟨hft, hfg⟩ := hf.out
    obtain ⟨q1, hrun, hq⟩ := hrn.out
    have HRUN := Lib.hid hrun; have HQ := Lib.hid hq; clear hrun hq hrn hf
    obtain ⟨A5, cap5, hV, _⟩ := HP.open_L HOA.out (List.Mem.head _)
    have hV : V = .slice A5 x.1.length cap5 := hV
    subst hV
    by_cases hlt : f < t.size
    · have hlti : (f : Int) < (t.size : Int) := by omega
      have HF := Lib.hid hlt
      go_wp2_with fail
      clear hlti hlt
      go_loopg [6] (t.size + 1 - f) (fun gg u6 wr => ∃ k : Nat, u6 = .int .i64 (k : Int) ∧ Hid (f ≤ k ∧ k ≤ t.size ∧ gg = t.size + 1 - k ∧ ¬ (10 : UInt8) ∈ (bs.drop f).take (k - f)) ∧ wr = W5)
      case atStart => exact ⟨f, rfl, Lib.hid ⟨by omega, by have := HF.out; omega, by omega, by rw [Nat.sub_self, List.take_zero]; simp⟩, rfl⟩
      case round =>
        obtain ⟨k, rfl, hk, rfl⟩ := hrel
        rename World => W5
        obtain ⟨hfk, hkt, hkg, hno⟩ := hk.out
        have hln0 := HLN.out
        have hf0 := HF.out
        have ht0 := HT.out
        by_cases hkl : k < t.size
        · have hki : (k : Int) < (t.size : Int) := by omega
          obtain ⟨fx, _⟩ := by_at hkl
          have hkb : k < bs.length := by omega
          have hbk : bs[k]'hkb = t[k] := by
            have := HBS0.out
            subst this
            simp [ByteArray.getElem_eq_getElem_data]
          have hdr : bs.drop k = t[k] :: bs.drop (k + 1) := by rw [List.drop_eq_getElem_cons hkb, hbk]
          have hsp : bs.drop f = (bs.drop f).take (k - f) ++ bs.drop k := by
            conv => lhs; rw [← List.take_append_drop (k - f) (bs.drop f)]
            rw [List.drop_drop, show f + (k - f) = k by omega]
          generalize hck : t[k] = ck at *
          have fxt : ∃ h : k < t.size, t[k] = ck := ⟨hkl, hck⟩
          by_cases qc : ck = 10
          · have hqb : ((ck.toNat : Int) == 10) = true := by rw [qc]; rfl
            have hqn : ((ck.toNat : Int) != 10) = false := by rw [qc]; rfl
            have hln : linesR (bs.drop f) = (bs.drop f).take (k - f) :: linesR (bs.drop (k + 1)) := by
              rw [hdr, qc] at hsp
              have e := linesR_row (p := (bs.drop f).take (k - f)) (t := bs.drop (k + 1)) hno
              rw [← hsp] at e
              exact e
            clear hsp hdr hbk hkb hno
            have hrun := HRUN.out
            rw [hln] at hrun
            obtain ⟨a, b1, qs, ha, hrn, rfl⟩ := runL_cons hrun
            have hex : (⟨((bs.drop f).take (k - f)).toArray⟩ : ByteArray) = t.extract f k := by
              apply bytes_ext
              rw [Lib.extract_data, HBS0.out]
  
            rw [hex] at ha
            obtain ⟨x1, hx1, hr1⟩ := ans_rel HRR.out ha
            have HY := Lib.hid hx1; have HR1 := Lib.hid hr1; have HRN := Lib.hid hrn
            have HSZ := Lib.hid (show u.size + a.size < 1000000 from by
              have h1 := HQ.out; have h2 := HQL.out
              have h3 := congrArg List.length h1
              rw [List.length_append, List.length_append, List.length_cons, bytes_len, bytes_len] at h3
              omega)
            have HK := Lib.hid (show k ≤ t.size ∧ f ≤ k from ⟨by omega, by omega⟩)
            have hsf : (f : Int) ≤ (k : Int) := by omega
            have hsz : (k : Int) ≤ (t.size : Int) := by omega
            try clear hke
            clear ha hx1 hr1 hrn hex hrun hln HRUN
            go_upto_region 10 with (fail)
            obtain ⟨k0, k1, k2, _⟩ := HP.rbGet HOA.out (List.Mem.tail _ (List.Mem.head _))
            obtain ⟨C_, hC_⟩ : ∃ C_ : World → Prop, C_ = fun W_ => W_.cell? ⟨w.heap.size, 0, none⟩ = some (.slice A5 x.1.length cap5) ∧ W_.cell? ⟨w.heap.size, 1, none⟩ = some (.string x.2.1) ∧ W_.cell? ⟨w.heap.size, 2, none⟩ = some (.int .i64 x.2.2) := ⟨_, rfl⟩
            have hC5 : C_ W5.drew := by rw [hC_]; exact ⟨k0, k1, k2⟩
            have hCk : ∀ (W : World) (its : List It), HP W w.heap.size its → It.fl (owRB w.heap.size (.slice A5 x.1.length cap5) x.2.1 x.2.2) ∈ its → C_ W := fun W its hp i1 => by
              rw [hC_]
              obtain ⟨e0, e1, e2, _⟩ := HP.rbGet hp i1
              exact ⟨e0, e1, e2⟩
            have hCd : ∀ W_, C_ W_ → W_.cell? ⟨w.heap.size, 0, none⟩ = some (.slice A5 x.1.length cap5) ∧ W_.cell? ⟨w.heap.size, 1, none⟩ = some (.string x.2.1) ∧ W_.cell? ⟨w.heap.size, 2, none⟩ = some (.int .i64 x.2.2) := fun W_ hh => by rw [hC_] at hh; exact hh
            have HCD := Lib.hid hCd; have HCK := Lib.hid hCk; have HC5 := Lib.hid hC5
            clear hCd hCk hC5 hC_ k0 k1 k2
            refine wp_region_pht C_ (.P 0 (.P 1 (.P 2 (.P 3 (.P 4 (.B 5 9 (.P 6 (.P 7 (.P 8 (.S 9 (.S 10 (.P 11 .N)))))) (.S 5 (.P 6 (.P 7 (.P 8 (.S 10 (.P 11 .N)))))))))))) (by kernel_rfl) (by kernel_rfl) HC5.out ?_
            iterate 5 (refine wpTs_P rfl rfl (fun K hK => ?_); apply Exists.intro; refine ⟨fun W_ hc_ => ?_, ?_⟩; (have c_ := HCD.out W_ hc_; have c0_ := c_.1; have c1_ := c_.2.1; have c2_ := c_.2.2; clear c_ hc_; go_simp; try rfl); (go_simp; refine hK _ ?_; clear hK K))
            replace HOA := Lib.hid (HOA.out.dr (Dr.one _))
            replace HD := Lib.hid (HD.out.trans ((Dr.one _).below _))
            generalize hW6 : World.drew W5 = W6 at *
            clear hW6 HC5
            have HXS := Lib.hid HRR.out.size
            refine wpTs_B rfl rfl (fun Q' hQ' hL' => ?_) (fun Q' hQ' hL' => ?_)
            · have HC := Lib.hid (answer_ok W6 (HP.rd_L HOA.out (List.Mem.head _)) (cap := cap5) HXS.out.1 HXS.out.2.1 HY.out)
              unfold PostA at HC
              go_wp2_with fail
              refine HC.out.mono ?_; rintro e1 W7 ⟨V', rfl, hrb, hd⟩
              replace HOA := Lib.hid (HP.rbo (its1 := []) HOA.out hd HD.out.size hrb)
              have HC7 := Lib.hid (HCK.out W7 _ HOA.out (by simp))
              replace HD := Lib.hid (HD.out.trans (hd.mono HD.out.size)); clear hd hrb HC
              try go_wp2_with fail
              refine hQ' _ _ HC7.out ?_; clear hQ' hL' Q' HC7
              iterate 3 (refine wpTs_P rfl rfl (fun K hK => ?_); apply Exists.intro; refine ⟨fun W_ hc_ => ?_, ?_⟩; (go_simp; try rfl); (go_simp; refine hK _ ?_; clear hK K))
              have hb8 : Below W7.heap.size W7 (W7.alloc (.cells #[.slice none 0 0, .string { data := #[] }, .int .i64 0] 44)) := (Below.refl _ _).alloc (Nat.le_refl _) _
              replace HOA := Lib.hid (HP.call HOA.out hb8 HD.out.size (owRB_ok W7 (.slice none 0 0) ⟨#[]⟩ 0))
              have HC8 := Lib.hid (HCK.out _ _ HOA.out (by simp))
              replace HD := Lib.hid (HD.out.trans (hb8.mono HD.out.size)); clear hb8
              refine wpTs_S rfl (fun Q' hQ' hL' => ?_)
              go_wp2_with fail
              refine hQ' _ _ HC8.out ?_; clear hQ' hL' Q' HC8
              generalize W7.heap.size = g8 at *
              generalize World.alloc W7 _ = W8 at *
              obtain ⟨A7, cap7, hV, _⟩ := HP.open_L HOA.out (List.Mem.tail _ (List.Mem.head _))
              have hV : V' = .slice A7 x1.1.length cap7 := hV
              subst hV
              obtain ⟨r0, r1, r2, _⟩ := HP.rbGet HOA.out (List.Mem.head _)
              obtain ⟨⟨q0, q1, q2⟩, hset, hbs⟩ := HP.setRB (its1 := []) HOA.out (.slice A7 x1.1.length cap7) x1.2.1 x1.2.2
              have HC9 := Lib.hid (HCK.out _ _ hset (by simp))
              have HSET := Lib.hid hset; have HBS := Lib.hid hbs; clear hset hbs
              refine wpTs_S rfl (fun Q' hQ' hL' => ?_)
              go_wp2_with fail
              refine hQ' _ _ HC9.out ?_; clear hQ' hL' Q' HC9 q0 q1 q2 r0 r1 r2
              iterate 1 (refine wpTs_P rfl rfl (fun K hK => ?_); apply Exists.intro; refine ⟨fun W_ hc_ => ?_, ?_⟩; (go_simp; try rfl); (go_simp; refine hK _ ?_; clear hK K))
              refine wpTs_N ?_
              replace HOA := HSET; replace HD := Lib.hid (HD.out.trans HBS.out); clear HSET HBS
              generalize World.setCell (World.setCell (World.setCell W8 _ _) _ _) _ _ = W9 at *
              obtain ⟨k0, k1, k2, _⟩ := HP.rbGet HOA.out (List.Mem.head _)
              obtain ⟨r0, r1, r2, _⟩ := HP.rbGet HOA.out (List.Mem.tail _ (List.Mem.tail _ (List.Mem.head _)))
              obtain ⟨⟨q0, q1, q2⟩, hset, hbs⟩ := HP.setRB (its1 := [_, _]) HOA.out (.slice A7 x1.1.length cap7) x1.2.1 x1.2.2
              have HSET := Lib.hid hset; have HBS := Lib.hid hbs; clear hset hbs
              have hz1 : ¬ (9223372036854775807 < u.size + a.size) := by have := HSZ.out; omega
              have hz2 : ¬ (9223372036854775807 < (u ++ a).size + 1) := by have := HSZ.out; rw [ByteArray.size_append]; omega
              have hz3 : ¬ (9223372036854775807 < u.size + a.size + 1) := by have := HSZ.out; omega
              clear HCK HCD
              go_wp2_with fail
              go_roundg (t.size + 2 - (k + 1))
              case measure => have := HK.out; omega
              case rel => exact ⟨_, k + 1, x1, b1, _, rfl, by go_num, Lib.hid ⟨by have := HK.out; omega, by have := HK.out; omega⟩, Lib.hid (HD.out.trans HBS.out), Lib.hid (HSET.out.sub (.cons _ (List.Sublist.refl _))), HR1, Lib.hid ⟨qs, HRN.out, sess_out HQ.out⟩⟩
            · have hb8 : Below W6.heap.size W6 (W6.alloc (.cells #[.slice none 0 0, .string { data := #[] }, .int .i64 0] 44)) := (Below.refl _ _).alloc (Nat.le_refl _) _
              replace HOA := Lib.hid (HP.call HOA.out hb8 HD.out.size (owRB_ok W6 (.slice none 0 0) ⟨#[]⟩ 0))
              have HC8 := Lib.hid (HCK.out _ _ HOA.out (by simp))
              replace HD := Lib.hid (HD.out.trans (hb8.mono HD.out.size)); clear hb8
              go_wp2_with fail
              refine hQ' _ _ HC8.out ?_; clear hQ' hL' Q' HC8
              generalize W6.heap.size = g8 at *
              generalize World.alloc W6 _ = W7 at *
              have HC := Lib.hid (answer_ok W7 (HP.rd_L HOA.out (List.Mem.tail _ (List.Mem.head _))) (cap := cap5) HXS.out.1 HXS.out.2.1 HY.out)
              unfold PostA at HC
              refine wpTs_S rfl (fun Q' hQ' hL' => ?_)
              go_wp2_with fail
              refine HC.out.mono ?_; rintro e1 W8 ⟨V', rfl, hrb, hd⟩
              replace HOA := Lib.hid (HP.rbo (its1 := [_]) HOA.out hd HD.out.size hrb)
              have HC7 := Lib.hid (HCK.out W8 _ HOA.out (by simp))
              replace HD := Lib.hid (HD.out.trans (hd.mono HD.out.size)); clear hd hrb HC
              try go_wp2_with fail
              refine hQ' _ _ HC7.out ?_; clear hQ' hL' Q' HC7
              iterate 3 (refine wpTs_P rfl rfl (fun K hK => ?_); apply Exists.intro; refine ⟨fun W_ hc_ => ?_, ?_⟩; (go_simp; try rfl); (go_simp; refine hK _ ?_; clear hK K))
              obtain ⟨A7, cap7, hV, _⟩ := HP.open_L HOA.out (List.Mem.tail _ (List.Mem.head _))
              have hV : V' = .slice A7 x1.1.length cap7 := hV
              subst hV
              obtain ⟨r0, r1, r2, _⟩ := HP.rbGet HOA.out (List.Mem.head _)
              obtain ⟨⟨q0, q1, q2⟩, hset, hbs⟩ := HP.setRB (its1 := []) HOA.out (.slice A7 x1.1.length cap7) x1.2.1 x1.2.2
              have HC9 := Lib.hid (HCK.out _ _ hset (by simp))
              have HSET := Lib.hid hset; have HBS := Lib.hid hbs; clear hset hbs
              refine wpTs_S rfl (fun Q' hQ' hL' => ?_)
              go_wp2_with fail
              refine hQ' _ _ HC9.out ?_; clear hQ' hL' Q' HC9 q0 q1 q2 r0 r1 r2
              iterate 1 (refine wpTs_P rfl rfl (fun K hK => ?_); apply Exists.intro; refine ⟨fun W_ hc_ => ?_, ?_⟩; (go_simp; try rfl); (go_simp; refine hK _ ?_; clear hK K))
              refine wpTs_N ?_
              replace HOA := HSET; replace HD := Lib.hid (HD.out.trans HBS.out); clear HSET HBS
              generalize World.setCell (World.setCell (World.setCell W8 _ _) _ _) _ _ = W9 at *
              obtain ⟨k0, k1, k2, _⟩ := HP.rbGet HOA.out (List.Mem.head _)
              obtain ⟨r0, r1, r2, _⟩ := HP.rbGet HOA.out (List.Mem.tail _ (List.Mem.tail _ (List.Mem.head _)))
              obtain ⟨⟨q0, q1, q2⟩, hset, hbs⟩ := HP.setRB (its1 := [_, _]) HOA.out (.slice A7 x1.1.length cap7) x1.2.1 x1.2.2
              have HSET := Lib.hid hset; have HBS := Lib.hid hbs; clear hset hbs
              have hz1 : ¬ (9223372036854775807 < u.size + a.size) := by have := HSZ.out; omega
              have hz2 : ¬ (9223372036854775807 < (u ++ a).size + 1) := by have := HSZ.out; rw [ByteArray.size_append]; omega
              have hz3 : ¬ (9223372036854775807 < u.size + a.size + 1) := by have := HSZ.out; omega
              clear HCK HCD
              go_wp2_with fail
              go_roundg (t.size + 2 - (k + 1))
              case measure => have := HK.out; omega
              case rel => exact ⟨_, k + 1, x1, b1, _, rfl, by go_num, Lib.hid ⟨by have := HK.out; omega, by have := HK.out; omega⟩, Lib.hid (HD.out.trans HBS.out), Lib.hid (HSET.out.sub (.cons _ (List.Sublist.refl _))), HR1, Lib.hid ⟨qs, HRN.out, sess_out HQ.out⟩⟩
          · have hqb : ((ck.toNat : Int) == 10) = false := by
              rw [beq_eq_false_iff_ne]; intro e
              exact qc (UInt8.toNat_inj.1 (by show ck.toNat = 10; omega))
            have hqn : ((ck.toNat : Int) != 10) = true := by
              rw [bne_iff_ne]; intro e
              exact qc (UInt8.toNat_inj.1 (by show ck.toNat = 10; omega))
            have hcur : (bs.drop f).take (k + 1 - f) = (bs.drop f).take (k - f) ++ [ck] := by
              rw [show k + 1 - f = (k - f) + 1 by omega, List.take_succ_eq_append_getElem (by rw [List.length_drop]; omega)]
              congr 2
              rw [List.getElem_drop]
              have e2 : f + (k - f) = k := by omega
              simp only [e2]; exact hbk
            have HNO := Lib.hid (show ¬ (10 : UInt8) ∈ (bs.drop f).take (k + 1 - f) from by
              rw [hcur]; intro hm
              rcases List.mem_append.1 hm with hm | hm
              · exact hno hm
              · exact qc (List.mem_singleton.1 hm).symm)
            clear hsp hdr hbk hkb hno hcur qc
            go_wp2_with fail
            go_roundg (t.size + 1 - (k + 1))
            case measure => omega
            case rel => exact ⟨k + 1, by go_num, Lib.hid ⟨by omega, by omega, by omega, HNO.out⟩, rfl⟩
        · have hke : k = t.size := by omega
          have hki : decide ((k : Int) < (t.size : Int)) = false := decide_eq_false (by omega)
          have hsp : (bs.drop f).take (k - f) = bs.drop f := List.take_of_length_le (by rw [List.length_drop]; omega)
          have hln : linesR (bs.drop f) = (bs.drop f).take (k - f) :: linesR (bs.drop (k + 1)) := by
            have h0 : bs.drop (k + 1) = [] := by rw [List.drop_eq_nil_iff]; omega
            rw [h0, hsp]
            rw [hsp] at hno
            rw [linesR_torn hno (by intro e; have := congrArg List.length e; rw [List.length_drop] at this; simp at this; omega)]
            rfl
          clear hsp hno
          have hrun := HRUN.out
          rw [hln] at hrun
          obtain ⟨a, b1, qs, ha, hrn, rfl⟩ := runL_cons hrun
          have hex : (⟨((bs.drop f).take (k - f)).toArray⟩ : ByteArray) = t.extract f k := by
            apply bytes_ext
            rw [Lib.extract_data, HBS0.out]
  
          rw [hex] at ha
          obtain ⟨x1, hx1, hr1⟩ := ans_rel HRR.out ha
          have HY := Lib.hid hx1; have HR1 := Lib.hid hr1; have HRN := Lib.hid hrn
          have HSZ := Lib.hid (show u.size + a.size < 1000000 from by
            have h1 := HQ.out; have h2 := HQL.out
            have h3 := congrArg List.length h1
            rw [List.length_append, List.length_append, List.length_cons, bytes_len, bytes_len] at h3
            omega)
          have HK := Lib.hid (show k ≤ t.size ∧ f ≤ k from ⟨by omega, by omega⟩)
          have hsf : (f : Int) ≤ (k : Int) := by omega
          have hsz : (k : Int) ≤ (t.size : Int) := by omega
          try clear hke
          clear ha hx1 hr1 hrn hex hrun hln HRUN
          go_upto_region 10 with (fail)
          obtain ⟨k0, k1, k2, _⟩ := HP.rbGet HOA.out (List.Mem.tail _ (List.Mem.head _))
          obtain ⟨C_, hC_⟩ : ∃ C_ : World → Prop, C_ = fun W_ => W_.cell? ⟨w.heap.size, 0, none⟩ = some (.slice A5 x.1.length cap5) ∧ W_.cell? ⟨w.heap.size, 1, none⟩ = some (.string x.2.1) ∧ W_.cell? ⟨w.heap.size, 2, none⟩ = some (.int .i64 x.2.2) := ⟨_, rfl⟩
          have hC5 : C_ W5.drew := by rw [hC_]; exact ⟨k0, k1, k2⟩
          have hCk : ∀ (W : World) (its : List It), HP W w.heap.size its → It.fl (owRB w.heap.size (.slice A5 x.1.length cap5) x.2.1 x.2.2) ∈ its → C_ W := fun W its hp i1 => by
            rw [hC_]
            obtain ⟨e0, e1, e2, _⟩ := HP.rbGet hp i1
            exact ⟨e0, e1, e2⟩
          have hCd : ∀ W_, C_ W_ → W_.cell? ⟨w.heap.size, 0, none⟩ = some (.slice A5 x.1.length cap5) ∧ W_.cell? ⟨w.heap.size, 1, none⟩ = some (.string x.2.1) ∧ W_.cell? ⟨w.heap.size, 2, none⟩ = some (.int .i64 x.2.2) := fun W_ hh => by rw [hC_] at hh; exact hh
          have HCD := Lib.hid hCd; have HCK := Lib.hid hCk; have HC5 := Lib.hid hC5
          clear hCd hCk hC5 hC_ k0 k1 k2
          refine wp_region_pht C_ (.P 0 (.P 1 (.P 2 (.P 3 (.P 4 (.B 5 9 (.P 6 (.P 7 (.P 8 (.S 9 (.S 10 (.P 11 .N)))))) (.S 5 (.P 6 (.P 7 (.P 8 (.S 10 (.P 11 .N)))))))))))) (by kernel_rfl) (by kernel_rfl) HC5.out ?_
          iterate 5 (refine wpTs_P rfl rfl (fun K hK => ?_); apply Exists.intro; refine ⟨fun W_ hc_ => ?_, ?_⟩; (have c_ := HCD.out W_ hc_; have c0_ := c_.1; have c1_ := c_.2.1; have c2_ := c_.2.2; clear c_ hc_; go_simp; try rfl); (go_simp; refine hK _ ?_; clear hK K))
          replace HOA := Lib.hid (HOA.out.dr (Dr.one _))
          replace HD := Lib.hid (HD.out.trans ((Dr.one _).below _))
          generalize hW6 : World.drew W5 = W6 at *
          clear hW6 HC5
          have HXS := Lib.hid HRR.out.size
          refine wpTs_B rfl rfl (fun Q' hQ' hL' => ?_) (fun Q' hQ' hL' => ?_)
          · have HC := Lib.hid (answer_ok W6 (HP.rd_L HOA.out (List.Mem.head _)) (cap := cap5) HXS.out.1 HXS.out.2.1 HY.out)
            unfold PostA at HC
            go_wp2_with fail
            refine HC.out.mono ?_; rintro e1 W7 ⟨V', rfl, hrb, hd⟩
            replace HOA := Lib.hid (HP.rbo (its1 := []) HOA.out hd HD.out.size hrb)
            have HC7 := Lib.hid (HCK.out W7 _ HOA.out (by simp))
            replace HD := Lib.hid (HD.out.trans (hd.mono HD.out.size)); clear hd hrb HC
            try go_wp2_with fail
            refine hQ' _ _ HC7.out ?_; clear hQ' hL' Q' HC7
            iterate 3 (refine wpTs_P rfl rfl (fun K hK => ?_); apply Exists.intro; refine ⟨fun W_ hc_ => ?_, ?_⟩; (go_simp; try rfl); (go_simp; refine hK _ ?_; clear hK K))
            have hb8 : Below W7.heap.size W7 (W7.alloc (.cells #[.slice none 0 0, .string { data := #[] }, .int .i64 0] 44)) := (Below.refl _ _).alloc (Nat.le_refl _) _
            replace HOA := Lib.hid (HP.call HOA.out hb8 HD.out.size (owRB_ok W7 (.slice none 0 0) ⟨#[]⟩ 0))
            have HC8 := Lib.hid (HCK.out _ _ HOA.out (by simp))
            replace HD := Lib.hid (HD.out.trans (hb8.mono HD.out.size)); clear hb8
            refine wpTs_S rfl (fun Q' hQ' hL' => ?_)
            go_wp2_with fail
            refine hQ' _ _ HC8.out ?_; clear hQ' hL' Q' HC8
            generalize W7.heap.size = g8 at *
            generalize World.alloc W7 _ = W8 at *
            obtain ⟨A7, cap7, hV, _⟩ := HP.open_L HOA.out (List.Mem.tail _ (List.Mem.head _))
            have hV : V' = .slice A7 x1.1.length cap7 := hV
            subst hV
            obtain ⟨r0, r1, r2, _⟩ := HP.rbGet HOA.out (List.Mem.head _)
            obtain ⟨⟨q0, q1, q2⟩, hset, hbs⟩ := HP.setRB (its1 := []) HOA.out (.slice A7 x1.1.length cap7) x1.2.1 x1.2.2
            have HC9 := Lib.hid (HCK.out _ _ hset (by simp))
            have HSET := Lib.hid hset; have HBS := Lib.hid hbs; clear hset hbs
            refine wpTs_S rfl (fun Q' hQ' hL' => ?_)
            go_wp2_with fail
            refine hQ' _ _ HC9.out ?_; clear hQ' hL' Q' HC9 q0 q1 q2 r0 r1 r2
            iterate 1 (refine wpTs_P rfl rfl (fun K hK => ?_); apply Exists.intro; refine ⟨fun W_ hc_ => ?_, ?_⟩; (go_simp; try rfl); (go_simp; refine hK _ ?_; clear hK K))
            refine wpTs_N ?_
            replace HOA := HSET; replace HD := Lib.hid (HD.out.trans HBS.out); clear HSET HBS
            generalize World.setCell (World.setCell (World.setCell W8 _ _) _ _) _ _ = W9 at *
            obtain ⟨k0, k1, k2, _⟩ := HP.rbGet HOA.out (List.Mem.head _)
            obtain ⟨r0, r1, r2, _⟩ := HP.rbGet HOA.out (List.Mem.tail _ (List.Mem.tail _ (List.Mem.head _)))
            obtain ⟨⟨q0, q1, q2⟩, hset, hbs⟩ := HP.setRB (its1 := [_, _]) HOA.out (.slice A7 x1.1.length cap7) x1.2.1 x1.2.2
            have HSET := Lib.hid hset; have HBS := Lib.hid hbs; clear hset hbs
            have hz1 : ¬ (9223372036854775807 < u.size + a.size) := by have := HSZ.out; omega
            have hz2 : ¬ (9223372036854775807 < (u ++ a).size + 1) := by have := HSZ.out; rw [ByteArray.size_append]; omega
            have hz3 : ¬ (9223372036854775807 < u.size + a.size + 1) := by have := HSZ.out; omega
            clear HCK HCD
            go_wp2_with fail
            go_roundg (t.size + 2 - (k + 1))
            case measure => have := HK.out; omega
            case rel => exact ⟨_, k + 1, x1, b1, _, rfl, by go_num, Lib.hid ⟨by have := HK.out; omega, by have := HK.out; omega⟩, Lib.hid (HD.out.trans HBS.out), Lib.hid (HSET.out.sub (.cons _ (List.Sublist.refl _))), HR1, Lib.hid ⟨qs, HRN.out, sess_out HQ.out⟩⟩
          · have hb8 : Below W6.heap.size W6 (W6.alloc (.cells #[.slice none 0 0, .string { data := #[] }, .int .i64 0] 44)) := (Below.refl _ _).alloc (Nat.le_refl _) _
            replace HOA := Lib.hid (HP.call HOA.out hb8 HD.out.size (owRB_ok W6 (.slice none 0 0) ⟨#[]⟩ 0))
            have HC8 := Lib.hid (HCK.out _ _ HOA.out (by simp))
            replace HD := Lib.hid (HD.out.trans (hb8.mono HD.out.size)); clear hb8
            go_wp2_with fail
            refine hQ' _ _ HC8.out ?_; clear hQ' hL' Q' HC8
            generalize W6.heap.size = g8 at *
            generalize World.alloc W6 _ = W7 at *
            have HC := Lib.hid (answer_ok W7 (HP.rd_L HOA.out (List.Mem.tail _ (List.Mem.head _))) (cap := cap5) HXS.out.1 HXS.out.2.1 HY.out)
            unfold PostA at HC
            refine wpTs_S rfl (fun Q' hQ' hL' => ?_)
            go_wp2_with fail
            refine HC.out.mono ?_; rintro e1 W8 ⟨V', rfl, hrb, hd⟩
            replace HOA := Lib.hid (HP.rbo (its1 := [_]) HOA.out hd HD.out.size hrb)
            have HC7 := Lib.hid (HCK.out W8 _ HOA.out (by simp))
            replace HD := Lib.hid (HD.out.trans (hd.mono HD.out.size)); clear hd hrb HC
            try go_wp2_with fail
            refine hQ' _ _ HC7.out ?_; clear hQ' hL' Q' HC7
            iterate 3 (refine wpTs_P rfl rfl (fun K hK => ?_); apply Exists.intro; refine ⟨fun W_ hc_ => ?_, ?_⟩; (go_simp; try rfl); (go_simp; refine hK _ ?_; clear hK K))
            obtain ⟨A7, cap7, hV, _⟩ := HP.open_L HOA.out (List.Mem.tail _ (List.Mem.head _))
            have hV : V' = .slice A7 x1.1.length cap7 := hV
            subst hV
            obtain ⟨r0, r1, r2, _⟩ := HP.rbGet HOA.out (List.Mem.head _)
            obtain ⟨⟨q0, q1, q2⟩, hset, hbs⟩ := HP.setRB (its1 := []) HOA.out (.slice A7 x1.1.length cap7) x1.2.1 x1.2.2
            have HC9 := Lib.hid (HCK.out _ _ hset (by simp))
            have HSET := Lib.hid hset; have HBS := Lib.hid hbs; clear hset hbs
            refine wpTs_S rfl (fun Q' hQ' hL' => ?_)
            go_wp2_with fail
            refine hQ' _ _ HC9.out ?_; clear hQ' hL' Q' HC9 q0 q1 q2 r0 r1 r2
            iterate 1 (refine wpTs_P rfl rfl (fun K hK => ?_); apply Exists.intro; refine ⟨fun W_ hc_ => ?_, ?_⟩; (go_simp; try rfl); (go_simp; refine hK _ ?_; clear hK K))
            refine wpTs_N ?_
            replace HOA := HSET; replace HD := Lib.hid (HD.out.trans HBS.out); clear HSET HBS
            generalize World.setCell (World.setCell (World.setCell W8 _ _) _ _) _ _ = W9 at *
            obtain ⟨k0, k1, k2, _⟩ := HP.rbGet HOA.out (List.Mem.head _)
            obtain ⟨r0, r1, r2, _⟩ := HP.rbGet HOA.out (List.Mem.tail _ (List.Mem.tail _ (List.Mem.head _)))
            obtain ⟨⟨q0, q1, q2⟩, hset, hbs⟩ := HP.setRB (its1 := [_, _]) HOA.out (.slice A7 x1.1.length cap7) x1.2.1 x1.2.2
            have HSET := Lib.hid hset; have HBS := Lib.hid hbs; clear hset hbs
            have hz1 : ¬ (9223372036854775807 < u.size + a.size) := by have := HSZ.out; omega
            have hz2 : ¬ (9223372036854775807 < (u ++ a).size + 1) := by have := HSZ.out; rw [ByteArray.size_append]; omega
            have hz3 : ¬ (9223372036854775807 < u.size + a.size + 1) := by have := HSZ.out; omega
            clear HCK HCD
            go_wp2_with fail
            go_roundg (t.size + 2 - (k + 1))
            case measure => have := HK.out; omega
            case rel => exact ⟨_, k + 1, x1, b1, _, rfl, by go_num, Lib.hid ⟨by have := HK.out; omega, by have := HK.out; omega⟩, Lib.hid (HD.out.trans HBS.out), Lib.hid (HSET.out.sub (.cons _ (List.Sublist.refl _))), HR1, Lib.hid ⟨qs, HRN.out, sess_out HQ.out⟩⟩
    · have hlti := decide_eq_false (show ¬ (f : Int) < (t.size : Int) by omega)
      have hrun := HRUN.out
      have hd0 : bs.drop f = [] := by rw [List.drop_eq_nil_iff, HLN.out]; omega
      rw [hd0] at hrun
      replace hrun : some (([] : List UInt8), b) = some (q1, b') := hrun
      have hq1 : [] = q1 := congrArg Prod.fst (Option.some.inj hrun)
      subst hq1
      have hfin : u = ⟨q.toArray⟩ := bytes_ext (by rw [← HQ.out, List.append_nil])
      subst hfin
      clear hrun hd0
      go_wp2_with fail
      go_ret
      exact ⟨rfl, HD.out⟩
set_option maxHeartbeats 4000000 in
theorem deskAnswers_any (w : World) (hop : OpB w.heap.size w) (htc : TyCell w) (t : ByteArray) (_ : t.size ≤ maxLen) :
    Calls Tryz.prog 3 #[.string t] w fun e w' => e = .returned (.bool true) ∧ Below w.heap.size w w' := by
  obtain ⟨r, h1, h2⟩ : ∃ r, mRun t = some r ∧ ∀ W, Calls Tryz.prog 5 #[.string t] W fun e w' => e = .returned (.string r) ∧ Below W.heap.size W w' := by
    by_cases h : 3000 < t.size
    · exact ⟨longS, by unfold mRun; rw [if_pos h], fun W => sess4_long W h⟩
    · obtain ⟨q, b, h1, h2, h3, h4, h5, h6⟩ := mRun_tot t (by omega)
      exact ⟨_, h2, fun W => sess4_ok W (by omega) h1 h6⟩
  have HR := Lib.hid (dRun_ok w hop htc h1)
  have HS := Lib.hid h2
  clear hop htc h1 h2
  go_enter Tryz.func3, Tryz.ntmps3
  go_wp2_with fail
  refine HR.out.mono ?_; rintro e W1 ⟨rfl, hd⟩
  have HD := Lib.hid hd; clear hd HR
  go_wp2_with fail
  refine (HS.out _).mono ?_; rintro e W2 ⟨rfl, hd⟩
  replace HD := Lib.hid (HD.out.trans (hd.mono HD.out.size)); clear hd HS
  have heq2 : (r.toList == r.toList) = true := beq_self_eq_true _
  go_wp2_with fail
  go_ret
  exact ⟨rfl, HD.out⟩
end Go.Proofs.YtekfgkeimlidhaaGreatDoor
