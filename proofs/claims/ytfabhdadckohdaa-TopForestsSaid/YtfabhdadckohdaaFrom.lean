import Derived.Test.YtfabhdadckohdaaBox
import Derived.Test.YtfabhdadckohdaaTl
import Derived.Test.YtfabhdadckohdaaGR
set_option linter.all false
set_option maxRecDepth 100000
namespace Go.Proofs.Ytfabhdadckohdaa
open Go.RowKit
attribute [local go_sem] Oper.semAt_some
end Go.Proofs.Ytfabhdadckohdaa
set_option linter.all false
set_option maxRecDepth 100000
namespace Go.Proofs.Ytfabhdadckohdaa
open Go.RowKit
attribute [local go_sem] Oper.semAt_some
def walk_From_L1 (F : Nat) (nl : Int) : Nat → (Int) → (List Int) → Option (List Int)
  | 0, _, _ => none
  | g+1, j, v6 => if j < nl then (st v6 j (-1)).bind fun y4 => walk_From_L1 F nl g (wrap64 (j + 1)) (y4) else some (v6)
theorem walk_From_L1_0 (F : Nat) (nl : Int) (v6 : List Int) (j : Int) : walk_From_L1 F nl 0 j v6 = none := by rw [walk_From_L1]
theorem walk_From_L1_s (F g : Nat) (nl : Int) (v6 : List Int) (j : Int) : walk_From_L1 F nl (g+1) j v6 = (if j < nl then (st v6 j (-1)).bind fun y4 => walk_From_L1 F nl g (wrap64 (j + 1)) (y4) else some (v6)) := by rw [walk_From_L1]
def walk_From_L3 (F : Nat)  : List Nat → (List Int) → (List Int) → Option (List Int × List Int)
  | [], v6, v9 => some (v6, v9)
  | x :: xs, v6, v9 => ((ix v6 (x : Int)).bind fun y8 => if y8 < 0 then (ix v9 0).bind fun y10 => (ix v6 y10).bind fun y11 => (st v6 (x : Int) (wrap64 (y11 + 1))).bind fun y9 => (app v9 (x : Int)).bind fun y12 => walk_From_L3 F  xs (y9) (y12) else walk_From_L3 F  xs (v6) (v9))
theorem walk_From_L3_n (F : Nat) (v6 : List Int) (v9 : List Int) : walk_From_L3 F  [] v6 v9 = some (v6, v9) := by rw [walk_From_L3]
theorem walk_From_L3_c (F : Nat) (v6 : List Int) (v9 : List Int) (x : Nat) (xs : List Nat) : walk_From_L3 F  (x :: xs) v6 v9 = (((ix v6 (x : Int)).bind fun y8 => if y8 < 0 then (ix v9 0).bind fun y10 => (ix v6 y10).bind fun y11 => (st v6 (x : Int) (wrap64 (y11 + 1))).bind fun y9 => (app v9 (x : Int)).bind fun y12 => walk_From_L3 F  xs (y9) (y12) else walk_From_L3 F  xs (v6) (v9))) := by rw [walk_From_L3]
def walk_From_L2 (F : Nat) (v8 : List Nat) : Nat → (List Int) → (List Int) → Option (List Int × List Int)
  | 0, _, _ => none
  | g+1, v6, v9 => if 0 < ((v9).length : Int) then (ix v9 0).bind fun y15 => (ix v8 y15).bind fun y16 => (sEach y16).bind fun y14 => (walk_From_L3 F  y14 (v6) (v9)).bind fun o13 => (dr o13.2 1).bind fun y17 => walk_From_L2 F v8 g (o13.1) (y17) else some (v6, v9)
theorem walk_From_L2_0 (F : Nat) (v8 : List Nat) (v6 : List Int) (v9 : List Int) : walk_From_L2 F v8 0 v6 v9 = none := by rw [walk_From_L2]
theorem walk_From_L2_s (F g : Nat) (v8 : List Nat) (v6 : List Int) (v9 : List Int) : walk_From_L2 F v8 (g+1) v6 v9 = (if 0 < ((v9).length : Int) then (ix v9 0).bind fun y15 => (ix v8 y15).bind fun y16 => (sEach y16).bind fun y14 => (walk_From_L3 F  y14 (v6) (v9)).bind fun o13 => (dr o13.2 1).bind fun y17 => walk_From_L2 F v8 g (o13.1) (y17) else some (v6, v9)) := by rw [walk_From_L2]
def walk_From (F : Nat) (v0 : Int) (v1 : List (Int × Int)) (v2 : Int) : Option (List Int × Int) := (mCheck (v0) (v1)).bind fun y1 => (if (y1 != 0) = true then some (([], y1)) else ((core_Within F (v2) (0) ((wrap64 (v0 - 1)))).bind fun y2 => if y2 = true then (mkI v0).bind fun y3 => (walk_From_L1 F (((y3).length : Int)) F (0) (y3)).bind fun o5 => (st o5 v2 0).bind fun y6 => (mBeside (v0) (v1)).bind fun y7 => (walk_From_L2 F (y7) F (y6) ([v2])).bind fun o18 => some ((o18.1, 0)) else some (([], 1))))
end Go.Proofs.Ytfabhdadckohdaa
