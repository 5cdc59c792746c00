/- PRINTED by gen.py: what the functions compute, as plain Lean functions with fuel. -/
import Derived.Test.YtpielijehhhobaaFnd
set_option linter.unusedVariables false
set_option linter.unusedSimpArgs false
namespace Go.Proofs.Ytpielijehhhobaa.Am
open Go
noncomputable section
/-! ### f55: (*gamehall/walk.search).play -/
def walk_search_play.e (N : Nat) (r0 : Int → ByteArray → Int → Int → Bool → Bool → Int → Int → Int → Int → Int → Int → Int → (List TPiece) → LInt → (List TEnd) → LInt → LInt → LInt → (List TUndo) → Option (Int × (TBoard × Int))) (r1 : Int → Int → ByteArray → Int → Int → Bool → Bool → Int → Int → Int → Int → Int → Int → Int → (List TPiece) → LInt → (List TEnd) → LInt → LInt → LInt → (List TUndo) → Option (Int × (TBoard × Int))) (x_ : (TBoard × Int)) : Option (Int × (TBoard × Int)) :=
  r0 0 x_.1.1.1 x_.1.1.2.1 x_.1.1.2.2.1 x_.1.1.2.2.2.2.2.1 x_.1.1.2.2.2.2.2.2.1 x_.1.1.2.2.2.2.2.2.2.2.1 x_.1.1.2.2.2.2.2.2.2.2.2.1 x_.1.1.2.2.2.2.2.2.2.2.2.2 x_.1.2.1.2.2.1 x_.1.2.1.2.2.2 x_.1.2.2.1 x_.2 x_.1.1.2.2.2.1 x_.1.1.2.2.2.2.1 x_.1.1.2.2.2.2.2.2.2.1 x_.1.2.1.1 x_.1.2.1.2.1.1 x_.1.2.1.2.1.2 x_.1.2.2.2
def walk_search_play.s0 (N : Nat) (x_ : (TBoard × Int)) (r0 : Int → ByteArray → Int → Int → Bool → Bool → Int → Int → Int → Int → Int → Int → Int → (List TPiece) → LInt → (List TEnd) → LInt → LInt → LInt → (List TUndo) → Option (Int × (TBoard × Int))) (r1 : Int → Int → ByteArray → Int → Int → Bool → Bool → Int → Int → Int → Int → Int → Int → Int → (List TPiece) → LInt → (List TEnd) → LInt → LInt → LInt → (List TUndo) → Option (Int × (TBoard × Int))) (n_ : Int) (m1_ : ByteArray) (m1_2 : Int) (m1_3 : Int) (m1_4 : Bool) (m1_5 : Bool) (m1_6 : Int) (m1_7 : Int) (m1_8 : Int) (m1_9 : Int) (m1_10 : Int) (m1_11 : Int) (m9_ : Int) (m10_ : (List TPiece)) (m11_ : LInt) (m12_ : (List TEnd)) (m13_ : LInt) (m14_ : LInt) (m15_ : LInt) (m16_ : (List TUndo)) : Option (Int × (TBoard × Int)) :=
  bif (ltI n_ 200) then ((board_Board_Moves N ((m1_, (m1_2, (m1_3, (m10_, (m11_, (m1_4, (m1_5, (m12_, (m1_6, (m1_7, m1_8)))))))))), ((m13_, ((m14_, m15_), (m1_9, m1_10))), (m1_11, m16_)))).bind fun y1 =>
    bif (eqI (y1.length : Int) 0) then ((board_Board_Result N ((m1_, (m1_2, (m1_3, (m10_, (m11_, (m1_4, (m1_5, (m12_, (m1_6, (m1_7, m1_8)))))))))), ((m13_, ((m14_, m15_), (m1_9, m1_10))), (m1_11, m16_)))).bind fun y3 =>
      r1 n_ y3 m1_ m1_2 m1_3 m1_4 m1_5 m1_6 m1_7 m1_8 m1_9 m1_10 m1_11 m9_ m10_ m11_ m12_ m13_ m14_ m15_ m16_)
    else (walk_Source_Below' N m9_ (y1.length : Int)).bind fun y4 =>
    chk ((leI 0 y4.1) && (ltI y4.1 (y1.length : Int))) <|
    (board_Board_Make' N ((m1_, (m1_2, (m1_3, (m10_, (m11_, (m1_4, (m1_5, (m12_, (m1_6, (m1_7, m1_8)))))))))), ((m13_, ((m14_, m15_), (m1_9, m1_10))), (m1_11, m16_))) (gD ((0 : Int), ((0 : Int), (0 : Int))) y1 y4.1)).bind fun y5 =>
    r0 (w64 (n_ + 1)) y5.1.1 y5.1.2.1 y5.1.2.2.1 y5.1.2.2.2.2.2.1 y5.1.2.2.2.2.2.2.1 y5.1.2.2.2.2.2.2.2.2.1 y5.1.2.2.2.2.2.2.2.2.2.1 y5.1.2.2.2.2.2.2.2.2.2.2 y5.2.1.2.2.1 y5.2.1.2.2.2 y5.2.2.1 y4.2.2 y5.1.2.2.2.1 y5.1.2.2.2.2.1 y5.1.2.2.2.2.2.2.2.1 y5.2.1.1 y5.2.1.2.1.1 y5.2.1.2.1.2 y5.2.2.2)
  else (board_Board_Result N ((m1_, (m1_2, (m1_3, (m10_, (m11_, (m1_4, (m1_5, (m12_, (m1_6, (m1_7, m1_8)))))))))), ((m13_, ((m14_, m15_), (m1_9, m1_10))), (m1_11, m16_)))).bind fun y6 =>
  r1 n_ y6 m1_ m1_2 m1_3 m1_4 m1_5 m1_6 m1_7 m1_8 m1_9 m1_10 m1_11 m9_ m10_ m11_ m12_ m13_ m14_ m15_ m16_
def walk_search_play.s1 (N : Nat) (x_ : (TBoard × Int)) (r0 : Int → ByteArray → Int → Int → Bool → Bool → Int → Int → Int → Int → Int → Int → Int → (List TPiece) → LInt → (List TEnd) → LInt → LInt → LInt → (List TUndo) → Option (Int × (TBoard × Int))) (r1 : Int → Int → ByteArray → Int → Int → Bool → Bool → Int → Int → Int → Int → Int → Int → Int → (List TPiece) → LInt → (List TEnd) → LInt → LInt → LInt → (List TUndo) → Option (Int × (TBoard × Int))) (n_ : Int) (out : Int) (m1_ : ByteArray) (m1_2 : Int) (m1_3 : Int) (m1_4 : Bool) (m1_5 : Bool) (m1_6 : Int) (m1_7 : Int) (m1_8 : Int) (m1_9 : Int) (m1_10 : Int) (m1_11 : Int) (m9_ : Int) (m10_ : (List TPiece)) (m11_ : LInt) (m12_ : (List TEnd)) (m13_ : LInt) (m14_ : LInt) (m15_ : LInt) (m16_ : (List TUndo)) : Option (Int × (TBoard × Int)) :=
  bif (ltI 0 n_) then ((board_Board_Undo' N ((m1_, (m1_2, (m1_3, (m10_, (m11_, (m1_4, (m1_5, (m12_, (m1_6, (m1_7, m1_8)))))))))), ((m13_, ((m14_, m15_), (m1_9, m1_10))), (m1_11, m16_)))).bind fun y7 =>
    r1 (w64 (n_ - 1)) out y7.2.1.1 y7.2.1.2.1 y7.2.1.2.2.1 y7.2.1.2.2.2.2.2.1 y7.2.1.2.2.2.2.2.2.1 y7.2.1.2.2.2.2.2.2.2.2.1 y7.2.1.2.2.2.2.2.2.2.2.2.1 y7.2.1.2.2.2.2.2.2.2.2.2.2 y7.2.2.1.2.2.1 y7.2.2.1.2.2.2 y7.2.2.2.1 m9_ y7.2.1.2.2.2.1 y7.2.1.2.2.2.2.1 y7.2.1.2.2.2.2.2.2.2.1 y7.2.2.1.1 y7.2.2.1.2.1.1 y7.2.2.1.2.1.2 y7.2.2.2.2)
  else some (out, (((m1_, (m1_2, (m1_3, (m10_, (m11_, (m1_4, (m1_5, (m12_, (m1_6, (m1_7, m1_8)))))))))), ((m13_, ((m14_, m15_), (m1_9, m1_10))), (m1_11, m16_))), m9_))
def walk_search_play.L (N : Nat) (x_ : (TBoard × Int)) : Nat → (Int → ByteArray → Int → Int → Bool → Bool → Int → Int → Int → Int → Int → Int → Int → (List TPiece) → LInt → (List TEnd) → LInt → LInt → LInt → (List TUndo) → Option (Int × (TBoard × Int))) × (Int → Int → ByteArray → Int → Int → Bool → Bool → Int → Int → Int → Int → Int → Int → Int → (List TPiece) → LInt → (List TEnd) → LInt → LInt → LInt → (List TUndo) → Option (Int × (TBoard × Int)))
  | 0 => (fun _ _ _ _ _ _ _ _ _ _ _ _ _ _ _ _ _ _ _ _ => none, fun _ _ _ _ _ _ _ _ _ _ _ _ _ _ _ _ _ _ _ _ _ => none)
  | n + 1 => (fun n_ m1_ m1_2 m1_3 m1_4 m1_5 m1_6 m1_7 m1_8 m1_9 m1_10 m1_11 m9_ m10_ m11_ m12_ m13_ m14_ m15_ m16_ => walk_search_play.s0 N x_ (walk_search_play.L N x_ n).1 (walk_search_play.L N x_ n).2 n_ m1_ m1_2 m1_3 m1_4 m1_5 m1_6 m1_7 m1_8 m1_9 m1_10 m1_11 m9_ m10_ m11_ m12_ m13_ m14_ m15_ m16_, fun n_ out m1_ m1_2 m1_3 m1_4 m1_5 m1_6 m1_7 m1_8 m1_9 m1_10 m1_11 m9_ m10_ m11_ m12_ m13_ m14_ m15_ m16_ => walk_search_play.s1 N x_ (walk_search_play.L N x_ n).1 (walk_search_play.L N x_ n).2 n_ out m1_ m1_2 m1_3 m1_4 m1_5 m1_6 m1_7 m1_8 m1_9 m1_10 m1_11 m9_ m10_ m11_ m12_ m13_ m14_ m15_ m16_)
def walk_search_play.l0 (N : Nat) (x_ : (TBoard × Int)) (n : Nat) : Int → ByteArray → Int → Int → Bool → Bool → Int → Int → Int → Int → Int → Int → Int → (List TPiece) → LInt → (List TEnd) → LInt → LInt → LInt → (List TUndo) → Option (Int × (TBoard × Int)) := (walk_search_play.L N x_ n).1
def walk_search_play.l1 (N : Nat) (x_ : (TBoard × Int)) (n : Nat) : Int → Int → ByteArray → Int → Int → Bool → Bool → Int → Int → Int → Int → Int → Int → Int → (List TPiece) → LInt → (List TEnd) → LInt → LInt → LInt → (List TUndo) → Option (Int × (TBoard × Int)) := (walk_search_play.L N x_ n).2
theorem walk_search_play.l0_s (N : Nat) (x_ : (TBoard × Int)) (n : Nat) (n_ : Int) (m1_ : ByteArray) (m1_2 : Int) (m1_3 : Int) (m1_4 : Bool) (m1_5 : Bool) (m1_6 : Int) (m1_7 : Int) (m1_8 : Int) (m1_9 : Int) (m1_10 : Int) (m1_11 : Int) (m9_ : Int) (m10_ : (List TPiece)) (m11_ : LInt) (m12_ : (List TEnd)) (m13_ : LInt) (m14_ : LInt) (m15_ : LInt) (m16_ : (List TUndo)) : walk_search_play.l0 N x_ (n + 1) n_ m1_ m1_2 m1_3 m1_4 m1_5 m1_6 m1_7 m1_8 m1_9 m1_10 m1_11 m9_ m10_ m11_ m12_ m13_ m14_ m15_ m16_ = walk_search_play.s0 N x_ (walk_search_play.l0 N x_ n) (walk_search_play.l1 N x_ n) n_ m1_ m1_2 m1_3 m1_4 m1_5 m1_6 m1_7 m1_8 m1_9 m1_10 m1_11 m9_ m10_ m11_ m12_ m13_ m14_ m15_ m16_ := rfl
theorem walk_search_play.l1_s (N : Nat) (x_ : (TBoard × Int)) (n : Nat) (n_ : Int) (out : Int) (m1_ : ByteArray) (m1_2 : Int) (m1_3 : Int) (m1_4 : Bool) (m1_5 : Bool) (m1_6 : Int) (m1_7 : Int) (m1_8 : Int) (m1_9 : Int) (m1_10 : Int) (m1_11 : Int) (m9_ : Int) (m10_ : (List TPiece)) (m11_ : LInt) (m12_ : (List TEnd)) (m13_ : LInt) (m14_ : LInt) (m15_ : LInt) (m16_ : (List TUndo)) : walk_search_play.l1 N x_ (n + 1) n_ out m1_ m1_2 m1_3 m1_4 m1_5 m1_6 m1_7 m1_8 m1_9 m1_10 m1_11 m9_ m10_ m11_ m12_ m13_ m14_ m15_ m16_ = walk_search_play.s1 N x_ (walk_search_play.l0 N x_ n) (walk_search_play.l1 N x_ n) n_ out m1_ m1_2 m1_3 m1_4 m1_5 m1_6 m1_7 m1_8 m1_9 m1_10 m1_11 m9_ m10_ m11_ m12_ m13_ m14_ m15_ m16_ := rfl
def walk_search_play (N : Nat) (x_ : (TBoard × Int)) : Option (Int × (TBoard × Int)) := walk_search_play.e N (walk_search_play.l0 N x_ N) (walk_search_play.l1 N x_ N) x_
/-! ### f28: (*gamehall/board.Board).Turn -/
def board_Board_Turn.e (N : Nat) (b_ : TBoard) : Option Int :=
  some b_.2.1.2.2.1
def board_Board_Turn (N : Nat) (b_ : TBoard) : Option Int := board_Board_Turn.e N b_
/-! ### f57: gamehall/walk.gain -/
def walk_gain.e (N : Nat) (result : Int) (player : Int) : Option Int :=
  bif (eqI result (w64 (1 + player))) then some 2
  else bif (eqI result (w64 (2 - player))) then some 0
  else some 1
def walk_gain (N : Nat) (result : Int) (player : Int) : Option Int := walk_gain.e N result player
/-! ### f82: gamehall/walk.root -/
def walk_root.e (N : Nat) (r0 : Int → Int → Option Int) (n_ : Int) : Option Int :=
  r0 0 1048576
def walk_root.s0 (N : Nat) (n_ : Int) (r0 : Int → Int → Option Int) (low : Int) (high : Int) : Option Int :=
  bif (ltI low high) then (let v1 : Int := (w64 ((w64 (low + high)) + 1))
    bif (leI (w64 ((w64 (Int.tdiv v1 2)) * (w64 (Int.tdiv v1 2)))) n_) then (r0 (w64 (Int.tdiv v1 2)) high)
    else r0 low (w64 ((w64 (Int.tdiv v1 2)) - 1)))
  else some low
def walk_root.L (N : Nat) (n_ : Int) : Nat → (Int → Int → Option Int)
  | 0 => fun _ _ => none
  | n + 1 => fun low high => walk_root.s0 N n_ (walk_root.L N n_ n) low high
def walk_root.l0 (N : Nat) (n_ : Int) (n : Nat) : Int → Int → Option Int := (walk_root.L N n_ n)
theorem walk_root.l0_s (N : Nat) (n_ : Int) (n : Nat) (low : Int) (high : Int) : walk_root.l0 N n_ (n + 1) low high = walk_root.s0 N n_ (walk_root.l0 N n_ n) low high := rfl
def walk_root (N : Nat) (n_ : Int) : Option Int := walk_root.e N (walk_root.l0 N n_ N) n_
/-! ### f56: (*gamehall/walk.node).pick -/
def walk_node_pick.e (N : Nat) (r0 : Int → Int → Int → Int → Option (Int × ((List (LMv × List Int × (Int × Int))) × Int))) (n_ : ((List (LMv × List Int × (Int × Int))) × Int)) : Option (Int × ((List (LMv × List Int × (Int × Int))) × Int)) :=
  chk (leI 0 n_.2) <|
  (walk_root N (w64 (100 * (gD (([] : LMv), ([] : List Int), ((0 : Int), (0 : Int))) n_.1 n_.2).2.2.1))).bind fun y2 =>
  chk (leI 0 n_.2) <|
  r0 (-1) y2 ((gD (([] : LMv), ([] : List Int), ((0 : Int), (0 : Int))) n_.1 n_.2).2.1.length : Int) 0
def walk_node_pick.s0 (N : Nat) (n_ : ((List (LMv × List Int × (Int × Int))) × Int)) (r0 : Int → Int → Int → Int → Option (Int × ((List (LMv × List Int × (Int × Int))) × Int))) (best : Int) (bonus : Int) (t17_ : Int) (t18_ : Int) : Option (Int × ((List (LMv × List Int × (Int × Int))) × Int)) :=
  bif (ltI t18_ t17_) then (chk ((leI 0 t18_) && (ltI t18_ ((gD (([] : LMv), ([] : List Int), ((0 : Int), (0 : Int))) n_.1 n_.2).2.1.length : Int))) <|
    chk (eqI ((gD (([] : LMv), ([] : List Int), ((0 : Int), (0 : Int))) n_.1 n_.2).2.1.length : Int) ((gD (([] : LMv), ([] : List Int), ((0 : Int), (0 : Int))) n_.1 n_.2).2.1.length : Int)) <|
    let v4 : Int := (gD (-1 : Int) (gD (([] : LMv), ([] : List Int), ((0 : Int), (0 : Int))) n_.1 n_.2).2.1 t18_)
    chk (leI 0 v4) <|
    bif (eqI (gD (([] : LMv), ([] : List Int), ((0 : Int), (0 : Int))) n_.1 v4).2.2.1 0) then (some (t18_, n_))
    else bif (ltI best 0) then (r0 t18_ bonus t17_ (w64 (t18_ + 1)))
    else chk (leI 0 v4) <|
    chk (leI 0 n_.2) <|
    chk ((leI 0 best) && (ltI best ((gD (([] : LMv), ([] : List Int), ((0 : Int), (0 : Int))) n_.1 n_.2).2.1.length : Int))) <|
    chk (eqI ((gD (([] : LMv), ([] : List Int), ((0 : Int), (0 : Int))) n_.1 n_.2).2.1.length : Int) ((gD (([] : LMv), ([] : List Int), ((0 : Int), (0 : Int))) n_.1 n_.2).2.1.length : Int)) <|
    let v7 : Int := (gD (-1 : Int) (gD (([] : LMv), ([] : List Int), ((0 : Int), (0 : Int))) n_.1 n_.2).2.1 best)
    chk (leI 0 v7) <|
    chk (leI 0 n_.2) <|
    chk ((leI 0 best) && (ltI best ((gD (([] : LMv), ([] : List Int), ((0 : Int), (0 : Int))) n_.1 n_.2).2.1.length : Int))) <|
    chk (eqI ((gD (([] : LMv), ([] : List Int), ((0 : Int), (0 : Int))) n_.1 n_.2).2.1.length : Int) ((gD (([] : LMv), ([] : List Int), ((0 : Int), (0 : Int))) n_.1 n_.2).2.1.length : Int)) <|
    let v9 : Int := (gD (-1 : Int) (gD (([] : LMv), ([] : List Int), ((0 : Int), (0 : Int))) n_.1 n_.2).2.1 best)
    chk (leI 0 v9) <|
    chk (leI 0 v4) <|
    bif (ltI (w64 ((w64 ((w64 (10 * (gD (([] : LMv), ([] : List Int), ((0 : Int), (0 : Int))) n_.1 v9).2.2.2)) + bonus)) * (gD (([] : LMv), ([] : List Int), ((0 : Int), (0 : Int))) n_.1 v4).2.2.1)) (w64 ((w64 ((w64 (10 * (gD (([] : LMv), ([] : List Int), ((0 : Int), (0 : Int))) n_.1 v4).2.2.2)) + bonus)) * (gD (([] : LMv), ([] : List Int), ((0 : Int), (0 : Int))) n_.1 v7).2.2.1))) then (r0 t18_ bonus t17_ (w64 (t18_ + 1)))
    else r0 best bonus t17_ (w64 (t18_ + 1)))
  else some (best, n_)
def walk_node_pick.L (N : Nat) (n_ : ((List (LMv × List Int × (Int × Int))) × Int)) : Nat → (Int → Int → Int → Int → Option (Int × ((List (LMv × List Int × (Int × Int))) × Int)))
  | 0 => fun _ _ _ _ => none
  | n + 1 => fun best bonus t17_ t18_ => walk_node_pick.s0 N n_ (walk_node_pick.L N n_ n) best bonus t17_ t18_
def walk_node_pick.l0 (N : Nat) (n_ : ((List (LMv × List Int × (Int × Int))) × Int)) (n : Nat) : Int → Int → Int → Int → Option (Int × ((List (LMv × List Int × (Int × Int))) × Int)) := (walk_node_pick.L N n_ n)
theorem walk_node_pick.l0_s (N : Nat) (n_ : ((List (LMv × List Int × (Int × Int))) × Int)) (n : Nat) (best : Int) (bonus : Int) (t17_ : Int) (t18_ : Int) : walk_node_pick.l0 N n_ (n + 1) best bonus t17_ t18_ = walk_node_pick.s0 N n_ (walk_node_pick.l0 N n_ n) best bonus t17_ t18_ := rfl
def walk_node_pick (N : Nat) (n_ : ((List (LMv × List Int × (Int × Int))) × Int)) : Option (Int × ((List (LMv × List Int × (Int × Int))) × Int)) := walk_node_pick.e N (walk_node_pick.l0 N n_ N) n_
/-! ### f33: (*gamehall/walk.search).step -/
def walk_search_step.e (N : Nat) (self : (TBoard × Int) → ((List (LMv × List Int × (Int × Int))) × Int) → Option (Int × (TBoard × Int) × ((List (LMv × List Int × (Int × Int))) × Int))) (r0 : Int → Int → (List (LMv × List Int × (Int × Int))) → Option (Int × (TBoard × Int) × ((List (LMv × List Int × (Int × Int))) × Int))) (x_ : (TBoard × Int)) (n_ : ((List (LMv × List Int × (Int × Int))) × Int)) : Option (Int × (TBoard × Int) × ((List (LMv × List Int × (Int × Int))) × Int)) :=
  chk (leI 0 n_.2) <|
  bif (eqI (gD (([] : LMv), ([] : List Int), ((0 : Int), (0 : Int))) n_.1 n_.2).2.2.1 0) then ((walk_search_play N x_).bind fun y2 =>
    chk (leI 0 n_.2) <|
    chk (leI 0 n_.2) <|
    let v4 : (List (LMv × List Int × (Int × Int))) := (n_.1.set n_.2.toNat ((gD (([] : LMv), ([] : List Int), ((0 : Int), (0 : Int))) n_.1 n_.2).1, ((gD (([] : LMv), ([] : List Int), ((0 : Int), (0 : Int))) n_.1 n_.2).2.1, ((w64 ((gD (([] : LMv), ([] : List Int), ((0 : Int), (0 : Int))) n_.1 n_.2).2.2.1 + 1)), (gD (([] : LMv), ([] : List Int), ((0 : Int), (0 : Int))) n_.1 n_.2).2.2.2))))
    chk (leI 0 n_.2) <|
    (board_Board_Turn N y2.2.1).bind fun y5 =>
    (walk_gain N y2.1 (w64 (1 - y5))).bind fun y6 =>
    chk (leI 0 n_.2) <|
    some (y2.1, (y2.2, ((v4.set n_.2.toNat ((gD (([] : LMv), ([] : List Int), ((0 : Int), (0 : Int))) v4 n_.2).1, ((gD (([] : LMv), ([] : List Int), ((0 : Int), (0 : Int))) v4 n_.2).2.1, ((gD (([] : LMv), ([] : List Int), ((0 : Int), (0 : Int))) v4 n_.2).2.2.1, (w64 ((gD (([] : LMv), ([] : List Int), ((0 : Int), (0 : Int))) v4 n_.2).2.2.2 + y6)))))), n_.2))))
  else (board_Board_Result N x_.1).bind fun y9 =>
  bif (!(eqI y9 0)) then ((walk_search_play N x_).bind fun y10 =>
    chk (leI 0 n_.2) <|
    chk (leI 0 n_.2) <|
    let v12 : (List (LMv × List Int × (Int × Int))) := (n_.1.set n_.2.toNat ((gD (([] : LMv), ([] : List Int), ((0 : Int), (0 : Int))) n_.1 n_.2).1, ((gD (([] : LMv), ([] : List Int), ((0 : Int), (0 : Int))) n_.1 n_.2).2.1, ((w64 ((gD (([] : LMv), ([] : List Int), ((0 : Int), (0 : Int))) n_.1 n_.2).2.2.1 + 1)), (gD (([] : LMv), ([] : List Int), ((0 : Int), (0 : Int))) n_.1 n_.2).2.2.2))))
    chk (leI 0 n_.2) <|
    (board_Board_Turn N y10.2.1).bind fun y13 =>
    (walk_gain N y10.1 (w64 (1 - y13))).bind fun y14 =>
    chk (leI 0 n_.2) <|
    some (y10.1, (y10.2, ((v12.set n_.2.toNat ((gD (([] : LMv), ([] : List Int), ((0 : Int), (0 : Int))) v12 n_.2).1, ((gD (([] : LMv), ([] : List Int), ((0 : Int), (0 : Int))) v12 n_.2).2.1, ((gD (([] : LMv), ([] : List Int), ((0 : Int), (0 : Int))) v12 n_.2).2.2.1, (w64 ((gD (([] : LMv), ([] : List Int), ((0 : Int), (0 : Int))) v12 n_.2).2.2.2 + y14)))))), n_.2))))
  else chk (leI 0 n_.2) <|
  bif (eqI ((gD (([] : LMv), ([] : List Int), ((0 : Int), (0 : Int))) n_.1 n_.2).2.1.length : Int) 0) then ((board_Board_Moves N x_.1).bind fun y18 =>
    chk (leI 0 n_.2) <|
    let v19 : (List (LMv × List Int × (Int × Int))) := (n_.1.set n_.2.toNat (y18, (gD (([] : LMv), ([] : List Int), ((0 : Int), (0 : Int))) n_.1 n_.2).2))
    chk (leI 0 n_.2) <|
    r0 ((gD (([] : LMv), ([] : List Int), ((0 : Int), (0 : Int))) v19 n_.2).1.length : Int) 0 v19)
  else (walk_node_pick N n_).bind fun y21 =>
  chk (leI 0 n_.2) <|
  chk ((leI 0 y21.1) && (ltI y21.1 ((gD (([] : LMv), ([] : List Int), ((0 : Int), (0 : Int))) y21.2.1 n_.2).1.length : Int))) <|
  (board_Board_Make' N x_.1 (gD ((0 : Int), ((0 : Int), (0 : Int))) (gD (([] : LMv), ([] : List Int), ((0 : Int), (0 : Int))) y21.2.1 n_.2).1 y21.1)).bind fun y22 =>
  chk (leI 0 n_.2) <|
  chk ((leI 0 y21.1) && (ltI y21.1 ((gD (([] : LMv), ([] : List Int), ((0 : Int), (0 : Int))) y21.2.1 n_.2).2.1.length : Int))) <|
  chk (eqI ((gD (([] : LMv), ([] : List Int), ((0 : Int), (0 : Int))) y21.2.1 n_.2).2.1.length : Int) ((gD (([] : LMv), ([] : List Int), ((0 : Int), (0 : Int))) y21.2.1 n_.2).2.1.length : Int)) <|
  (self (y22, x_.2) (y21.2.1, (gD (-1 : Int) (gD (([] : LMv), ([] : List Int), ((0 : Int), (0 : Int))) y21.2.1 n_.2).2.1 y21.1))).bind fun y24 =>
  (board_Board_Undo' N y24.2.1.1).bind fun y25 =>
  chk (leI 0 n_.2) <|
  chk (leI 0 n_.2) <|
  let v27 : (List (LMv × List Int × (Int × Int))) := (y24.2.2.1.set n_.2.toNat ((gD (([] : LMv), ([] : List Int), ((0 : Int), (0 : Int))) y24.2.2.1 n_.2).1, ((gD (([] : LMv), ([] : List Int), ((0 : Int), (0 : Int))) y24.2.2.1 n_.2).2.1, ((w64 ((gD (([] : LMv), ([] : List Int), ((0 : Int), (0 : Int))) y24.2.2.1 n_.2).2.2.1 + 1)), (gD (([] : LMv), ([] : List Int), ((0 : Int), (0 : Int))) y24.2.2.1 n_.2).2.2.2))))
  chk (leI 0 n_.2) <|
  (board_Board_Turn N y25.2).bind fun y28 =>
  (walk_gain N y24.1 (w64 (1 - y28))).bind fun y29 =>
  chk (leI 0 n_.2) <|
  some (y24.1, ((y25.2, y24.2.1.2), ((v27.set n_.2.toNat ((gD (([] : LMv), ([] : List Int), ((0 : Int), (0 : Int))) v27 n_.2).1, ((gD (([] : LMv), ([] : List Int), ((0 : Int), (0 : Int))) v27 n_.2).2.1, ((gD (([] : LMv), ([] : List Int), ((0 : Int), (0 : Int))) v27 n_.2).2.2.1, (w64 ((gD (([] : LMv), ([] : List Int), ((0 : Int), (0 : Int))) v27 n_.2).2.2.2 + y29)))))), n_.2)))
def walk_search_step.s0 (N : Nat) (self : (TBoard × Int) → ((List (LMv × List Int × (Int × Int))) × Int) → Option (Int × (TBoard × Int) × ((List (LMv × List Int × (Int × Int))) × Int))) (x_ : (TBoard × Int)) (n_ : ((List (LMv × List Int × (Int × Int))) × Int)) (r0 : Int → Int → (List (LMv × List Int × (Int × Int))) → Option (Int × (TBoard × Int) × ((List (LMv × List Int × (Int × Int))) × Int))) (t24_ : Int) (t25_ : Int) (nodes : (List (LMv × List Int × (Int × Int)))) : Option (Int × (TBoard × Int) × ((List (LMv × List Int × (Int × Int))) × Int)) :=
  bif (ltI t25_ t24_) then (chk (leI 0 n_.2) <|
    let v32 : (List (LMv × List Int × (Int × Int))) := (nodes ++ [([], ([], (0, 0)))])
    chk ((eqI ((gD (([] : LMv), ([] : List Int), ((0 : Int), (0 : Int))) nodes n_.2).2.1.length : Int) ((gD (([] : LMv), ([] : List Int), ((0 : Int), (0 : Int))) v32 n_.2).2.1.length : Int)) && (true && capOk 8 ((gD (([] : LMv), ([] : List Int), ((0 : Int), (0 : Int))) v32 n_.2).2.1.length + 1))) <|
    chk (leI 0 n_.2) <|
    chk ((eqI n_.2 n_.2) && ((eqI n_.2 n_.2) && (eqI (((gD (([] : LMv), ([] : List Int), ((0 : Int), (0 : Int))) nodes n_.2).2.1.length : Int) + 1) (((gD (([] : LMv), ([] : List Int), ((0 : Int), (0 : Int))) v32 n_.2).2.1.length : Int) + 1)))) <|
    r0 t24_ (w64 (t25_ + 1)) (v32.set n_.2.toNat ((gD (([] : LMv), ([] : List Int), ((0 : Int), (0 : Int))) v32 n_.2).1, (((gD (([] : LMv), ([] : List Int), ((0 : Int), (0 : Int))) v32 n_.2).2.1 ++ [(nodes.length : Int)]), (gD (([] : LMv), ([] : List Int), ((0 : Int), (0 : Int))) v32 n_.2).2.2))))
  else (walk_node_pick N (nodes, n_.2)).bind fun y35 =>
  chk (leI 0 n_.2) <|
  chk ((leI 0 y35.1) && (ltI y35.1 ((gD (([] : LMv), ([] : List Int), ((0 : Int), (0 : Int))) y35.2.1 n_.2).1.length : Int))) <|
  (board_Board_Make' N x_.1 (gD ((0 : Int), ((0 : Int), (0 : Int))) (gD (([] : LMv), ([] : List Int), ((0 : Int), (0 : Int))) y35.2.1 n_.2).1 y35.1)).bind fun y36 =>
  chk (leI 0 n_.2) <|
  chk ((leI 0 y35.1) && (ltI y35.1 ((gD (([] : LMv), ([] : List Int), ((0 : Int), (0 : Int))) y35.2.1 n_.2).2.1.length : Int))) <|
  chk (eqI ((gD (([] : LMv), ([] : List Int), ((0 : Int), (0 : Int))) y35.2.1 n_.2).2.1.length : Int) ((gD (([] : LMv), ([] : List Int), ((0 : Int), (0 : Int))) y35.2.1 n_.2).2.1.length : Int)) <|
  (self (y36, x_.2) (y35.2.1, (gD (-1 : Int) (gD (([] : LMv), ([] : List Int), ((0 : Int), (0 : Int))) y35.2.1 n_.2).2.1 y35.1))).bind fun y38 =>
  (board_Board_Undo' N y38.2.1.1).bind fun y39 =>
  chk (leI 0 n_.2) <|
  chk (leI 0 n_.2) <|
  let v41 : (List (LMv × List Int × (Int × Int))) := (y38.2.2.1.set n_.2.toNat ((gD (([] : LMv), ([] : List Int), ((0 : Int), (0 : Int))) y38.2.2.1 n_.2).1, ((gD (([] : LMv), ([] : List Int), ((0 : Int), (0 : Int))) y38.2.2.1 n_.2).2.1, ((w64 ((gD (([] : LMv), ([] : List Int), ((0 : Int), (0 : Int))) y38.2.2.1 n_.2).2.2.1 + 1)), (gD (([] : LMv), ([] : List Int), ((0 : Int), (0 : Int))) y38.2.2.1 n_.2).2.2.2))))
  chk (leI 0 n_.2) <|
  (board_Board_Turn N y39.2).bind fun y42 =>
  (walk_gain N y38.1 (w64 (1 - y42))).bind fun y43 =>
  chk (leI 0 n_.2) <|
  some (y38.1, ((y39.2, y38.2.1.2), ((v41.set n_.2.toNat ((gD (([] : LMv), ([] : List Int), ((0 : Int), (0 : Int))) v41 n_.2).1, ((gD (([] : LMv), ([] : List Int), ((0 : Int), (0 : Int))) v41 n_.2).2.1, ((gD (([] : LMv), ([] : List Int), ((0 : Int), (0 : Int))) v41 n_.2).2.2.1, (w64 ((gD (([] : LMv), ([] : List Int), ((0 : Int), (0 : Int))) v41 n_.2).2.2.2 + y43)))))), n_.2)))
def walk_search_step.L (N : Nat) (self : (TBoard × Int) → ((List (LMv × List Int × (Int × Int))) × Int) → Option (Int × (TBoard × Int) × ((List (LMv × List Int × (Int × Int))) × Int))) (x_ : (TBoard × Int)) (n_ : ((List (LMv × List Int × (Int × Int))) × Int)) : Nat → (Int → Int → (List (LMv × List Int × (Int × Int))) → Option (Int × (TBoard × Int) × ((List (LMv × List Int × (Int × Int))) × Int)))
  | 0 => fun _ _ _ => none
  | n + 1 => fun t24_ t25_ nodes => walk_search_step.s0 N self x_ n_ (walk_search_step.L N self x_ n_ n) t24_ t25_ nodes
def walk_search_step.l0 (N : Nat) (self : (TBoard × Int) → ((List (LMv × List Int × (Int × Int))) × Int) → Option (Int × (TBoard × Int) × ((List (LMv × List Int × (Int × Int))) × Int))) (x_ : (TBoard × Int)) (n_ : ((List (LMv × List Int × (Int × Int))) × Int)) (n : Nat) : Int → Int → (List (LMv × List Int × (Int × Int))) → Option (Int × (TBoard × Int) × ((List (LMv × List Int × (Int × Int))) × Int)) := (walk_search_step.L N self x_ n_ n)
theorem walk_search_step.l0_s (N : Nat) (self : (TBoard × Int) → ((List (LMv × List Int × (Int × Int))) × Int) → Option (Int × (TBoard × Int) × ((List (LMv × List Int × (Int × Int))) × Int))) (x_ : (TBoard × Int)) (n_ : ((List (LMv × List Int × (Int × Int))) × Int)) (n : Nat) (t24_ : Int) (t25_ : Int) (nodes : (List (LMv × List Int × (Int × Int)))) : walk_search_step.l0 N self x_ n_ (n + 1) t24_ t25_ nodes = walk_search_step.s0 N self x_ n_ (walk_search_step.l0 N self x_ n_ n) t24_ t25_ nodes := rfl
def walk_search_step : Nat → (TBoard × Int) → ((List (LMv × List Int × (Int × Int))) × Int) → Option (Int × (TBoard × Int) × ((List (LMv × List Int × (Int × Int))) × Int))
  | 0 => fun _ _ => none
  | N + 1 => fun x_ n_ => walk_search_step.e N (walk_search_step N) (walk_search_step.l0 N (walk_search_step N) x_ n_ N) x_ n_
theorem walk_search_step_s (N : Nat) (x_ : (TBoard × Int)) (n_ : ((List (LMv × List Int × (Int × Int))) × Int)) : walk_search_step (N + 1) x_ n_ = walk_search_step.e N (walk_search_step N) (walk_search_step.l0 N (walk_search_step N) x_ n_ N) x_ n_ := rfl
/-! ### f12: gamehall/walk.Run -/
def walk_Run.e (N : Nat) (r0 : Int → ByteArray → Int → Int → Bool → Bool → Int → Int → Int → Int → Int → Int → (List TPiece) → LInt → (List TEnd) → LInt → LInt → LInt → (List TUndo) → Int → (List (LMv × List Int × (Int × Int))) → Option ((List (TMv × (Int × Int))) × Int)) (r1 : Int → Int → (List (LMv × List Int × (Int × Int))) → LMv → (List (TMv × (Int × Int))) → Option ((List (TMv × (Int × Int))) × Int)) (r_ : TRules) (p_ : TPos) (seed : Int) (steps : Int) : Option ((List (TMv × (Int × Int))) × Int) :=
  (board_New N r_ p_).bind fun y1 =>
  oCase y1.1 (bif (!(eqI y1.2 0)) then (some ([], y1.2))
    else (walk_NewSource N seed).bind fun y3 =>
    oCase y3.1 (bif (!(eqI y3.2 0)) then (some ([], y3.2))
      else bif (ltI steps 0) then (some ([], 1))
      else bif (ltI 2000 steps) then (some ([], 1))
      else none) fun b4 =>
    bif (!(eqI y3.2 0)) then (some ([], y3.2))
    else bif (ltI steps 0) then (some ([], 1))
    else bif (ltI 2000 steps) then (some ([], 1))
    else none) fun b2 =>
  bif (!(eqI y1.2 0)) then (some ([], y1.2))
  else (walk_NewSource N seed).bind fun y5 =>
  oCase y5.1 (bif (!(eqI y5.2 0)) then (some ([], y5.2))
    else bif (ltI steps 0) then (some ([], 1))
    else bif (ltI 2000 steps) then (some ([], 1))
    else (board_Board_Result N b2).bind fun y7 =>
    bif (!(eqI y7 0)) then (some ([], 14))
    else none) fun b6 =>
  bif (!(eqI y5.2 0)) then (some ([], y5.2))
  else bif (ltI steps 0) then (some ([], 1))
  else bif (ltI 2000 steps) then (some ([], 1))
  else (board_Board_Result N b2).bind fun y9 =>
  bif (!(eqI y9 0)) then (some ([], 14))
  else r0 0 b2.1.1 b2.1.2.1 b2.1.2.2.1 b2.1.2.2.2.2.2.1 b2.1.2.2.2.2.2.2.1 b2.1.2.2.2.2.2.2.2.2.1 b2.1.2.2.2.2.2.2.2.2.2.1 b2.1.2.2.2.2.2.2.2.2.2.2 b2.2.1.2.2.1 b2.2.1.2.2.2 b2.2.2.1 b2.1.2.2.2.1 b2.1.2.2.2.2.1 b2.1.2.2.2.2.2.2.2.1 b2.2.1.1 b2.2.1.2.1.1 b2.2.1.2.1.2 b2.2.2.2 b6 [([], ([], (1, 0)))]
def walk_Run.s0 (N : Nat) (r_ : TRules) (p_ : TPos) (seed : Int) (steps : Int) (r0 : Int → ByteArray → Int → Int → Bool → Bool → Int → Int → Int → Int → Int → Int → (List TPiece) → LInt → (List TEnd) → LInt → LInt → LInt → (List TUndo) → Int → (List (LMv × List Int × (Int × Int))) → Option ((List (TMv × (Int × Int))) × Int)) (r1 : Int → Int → (List (LMv × List Int × (Int × Int))) → LMv → (List (TMv × (Int × Int))) → Option ((List (TMv × (Int × Int))) × Int)) (t55_ : Int) (b_ : ByteArray) (b_2 : Int) (b_3 : Int) (b_4 : Bool) (b_5 : Bool) (b_6 : Int) (b_7 : Int) (b_8 : Int) (b_9 : Int) (b_10 : Int) (b_11 : Int) (m4_ : (List TPiece)) (m5_ : LInt) (m6_ : (List TEnd)) (m7_ : LInt) (m8_ : LInt) (m9_ : LInt) (m10_ : (List TUndo)) (m11_ : Int) (nodes : (List (LMv × List Int × (Int × Int)))) : Option ((List (TMv × (Int × Int))) × Int) :=
  bif (ltI t55_ steps) then ((walk_search_step N (((b_, (b_2, (b_3, (m4_, (m5_, (b_4, (b_5, (m6_, (b_6, (b_7, b_8)))))))))), ((m7_, ((m8_, m9_), (b_9, b_10))), (b_11, m10_))), m11_) (nodes, 0)).bind fun y11 =>
    r0 (w64 (t55_ + 1)) y11.2.1.1.1.1 y11.2.1.1.1.2.1 y11.2.1.1.1.2.2.1 y11.2.1.1.1.2.2.2.2.2.1 y11.2.1.1.1.2.2.2.2.2.2.1 y11.2.1.1.1.2.2.2.2.2.2.2.2.1 y11.2.1.1.1.2.2.2.2.2.2.2.2.2.1 y11.2.1.1.1.2.2.2.2.2.2.2.2.2.2 y11.2.1.1.2.1.2.2.1 y11.2.1.1.2.1.2.2.2 y11.2.1.1.2.2.1 y11.2.1.1.1.2.2.2.1 y11.2.1.1.1.2.2.2.2.1 y11.2.1.1.1.2.2.2.2.2.2.2.1 y11.2.1.1.2.1.1 y11.2.1.1.2.1.2.1.1 y11.2.1.1.2.1.2.1.2 y11.2.1.1.2.2.2 y11.2.1.2 y11.2.2.1)
  else (board_Board_Moves N ((b_, (b_2, (b_3, (m4_, (m5_, (b_4, (b_5, (m6_, (b_6, (b_7, b_8)))))))))), ((m7_, ((m8_, m9_), (b_9, b_10))), (b_11, m10_)))).bind fun y12 =>
  r1 (y12.length : Int) 0 nodes y12 []
def walk_Run.s1 (N : Nat) (r_ : TRules) (p_ : TPos) (seed : Int) (steps : Int) (r0 : Int → ByteArray → Int → Int → Bool → Bool → Int → Int → Int → Int → Int → Int → (List TPiece) → LInt → (List TEnd) → LInt → LInt → LInt → (List TUndo) → Int → (List (LMv × List Int × (Int × Int))) → Option ((List (TMv × (Int × Int))) × Int)) (r1 : Int → Int → (List (LMv × List Int × (Int × Int))) → LMv → (List (TMv × (Int × Int))) → Option ((List (TMv × (Int × Int))) × Int)) (t63_ : Int) (t64_ : Int) (nodes : (List (LMv × List Int × (Int × Int)))) (m15_ : LMv) (out : (List (TMv × (Int × Int)))) : Option ((List (TMv × (Int × Int))) × Int) :=
  bif (ltI t64_ t63_) then (chk ((leI 0 t64_) && (ltI t64_ (m15_.length : Int))) <|
    bif (!(eqI ((gD (([] : LMv), ([] : List Int), ((0 : Int), (0 : Int))) nodes 0).2.1.length : Int) 0)) then (chk ((leI 0 t64_) && (ltI t64_ ((gD (([] : LMv), ([] : List Int), ((0 : Int), (0 : Int))) nodes 0).2.1.length : Int))) <|
      chk (eqI ((gD (([] : LMv), ([] : List Int), ((0 : Int), (0 : Int))) nodes 0).2.1.length : Int) ((gD (([] : LMv), ([] : List Int), ((0 : Int), (0 : Int))) nodes 0).2.1.length : Int)) <|
      let v14 : Int := (gD (-1 : Int) (gD (([] : LMv), ([] : List Int), ((0 : Int), (0 : Int))) nodes 0).2.1 t64_)
      chk (leI 0 v14) <|
      bothK (chk ((leI 0 t64_) && (ltI t64_ ((gD (([] : LMv), ([] : List Int), ((0 : Int), (0 : Int))) nodes 0).2.1.length : Int))) <|
        bothK (chk (eqI ((gD (([] : LMv), ([] : List Int), ((0 : Int), (0 : Int))) nodes 0).2.1.length : Int) ((gD (([] : LMv), ([] : List Int), ((0 : Int), (0 : Int))) nodes 0).2.1.length : Int)) <|
          let v15 : Int := (gD (-1 : Int) (gD (([] : LMv), ([] : List Int), ((0 : Int), (0 : Int))) nodes 0).2.1 t64_)
          chk (leI 0 v15) <|
          bothK (let v16 : List (TMv × (Int × Int)) := [((gD ((0 : Int), ((0 : Int), (0 : Int))) m15_ t64_), ((gD (([] : LMv), ([] : List Int), ((0 : Int), (0 : Int))) nodes v14).2.2.1, (gD (([] : LMv), ([] : List Int), ((0 : Int), (0 : Int))) nodes v15).2.2.2))]
            chk (capOk 40 (out.length + v16.length)) <|
            r1 t63_ (w64 (t64_ + 1)) nodes m15_ (out ++ v16)) (let v17 : List (TMv × (Int × Int)) := [((gD ((0 : Int), ((0 : Int), (0 : Int))) m15_ t64_), ((gD (([] : LMv), ([] : List Int), ((0 : Int), (0 : Int))) nodes v14).2.2.1, (gD (([] : LMv), ([] : List Int), ((0 : Int), (0 : Int))) nodes v15).2.2.2))]
            chk (capOk 40 (out.length + v17.length)) <|
            r1 t63_ (w64 (t64_ + 1)) nodes m15_ (out ++ v17))) (chk (eqI ((gD (([] : LMv), ([] : List Int), ((0 : Int), (0 : Int))) nodes 0).2.1.length : Int) ((gD (([] : LMv), ([] : List Int), ((0 : Int), (0 : Int))) nodes 0).2.1.length : Int)) <|
          let v18 : Int := (gD (-1 : Int) (gD (([] : LMv), ([] : List Int), ((0 : Int), (0 : Int))) nodes 0).2.1 t64_)
          chk (leI 0 v18) <|
          let v19 : List (TMv × (Int × Int)) := [((gD ((0 : Int), ((0 : Int), (0 : Int))) m15_ t64_), ((gD (([] : LMv), ([] : List Int), ((0 : Int), (0 : Int))) nodes v14).2.2.1, (gD (([] : LMv), ([] : List Int), ((0 : Int), (0 : Int))) nodes v18).2.2.2))]
          chk (capOk 40 (out.length + v19.length)) <|
          r1 t63_ (w64 (t64_ + 1)) nodes m15_ (out ++ v19))) (chk ((leI 0 t64_) && (ltI t64_ ((gD (([] : LMv), ([] : List Int), ((0 : Int), (0 : Int))) nodes 0).2.1.length : Int))) <|
        chk (eqI ((gD (([] : LMv), ([] : List Int), ((0 : Int), (0 : Int))) nodes 0).2.1.length : Int) ((gD (([] : LMv), ([] : List Int), ((0 : Int), (0 : Int))) nodes 0).2.1.length : Int)) <|
        let v20 : Int := (gD (-1 : Int) (gD (([] : LMv), ([] : List Int), ((0 : Int), (0 : Int))) nodes 0).2.1 t64_)
        chk (leI 0 v20) <|
        let v21 : List (TMv × (Int × Int)) := [((gD ((0 : Int), ((0 : Int), (0 : Int))) m15_ t64_), ((gD (([] : LMv), ([] : List Int), ((0 : Int), (0 : Int))) nodes v14).2.2.1, (gD (([] : LMv), ([] : List Int), ((0 : Int), (0 : Int))) nodes v20).2.2.2))]
        chk (capOk 40 (out.length + v21.length)) <|
        r1 t63_ (w64 (t64_ + 1)) nodes m15_ (out ++ v21)))
    else let v22 : List (TMv × (Int × Int)) := [((gD ((0 : Int), ((0 : Int), (0 : Int))) m15_ t64_), (0, 0))]
    chk (capOk 40 (out.length + v22.length)) <|
    r1 t63_ (w64 (t64_ + 1)) nodes m15_ (out ++ v22))
  else some (out, 0)
def walk_Run.L (N : Nat) (r_ : TRules) (p_ : TPos) (seed : Int) (steps : Int) : Nat → (Int → ByteArray → Int → Int → Bool → Bool → Int → Int → Int → Int → Int → Int → (List TPiece) → LInt → (List TEnd) → LInt → LInt → LInt → (List TUndo) → Int → (List (LMv × List Int × (Int × Int))) → Option ((List (TMv × (Int × Int))) × Int)) × (Int → Int → (List (LMv × List Int × (Int × Int))) → LMv → (List (TMv × (Int × Int))) → Option ((List (TMv × (Int × Int))) × Int))
  | 0 => (fun _ _ _ _ _ _ _ _ _ _ _ _ _ _ _ _ _ _ _ _ _ => none, fun _ _ _ _ _ => none)
  | n + 1 => (fun t55_ b_ b_2 b_3 b_4 b_5 b_6 b_7 b_8 b_9 b_10 b_11 m4_ m5_ m6_ m7_ m8_ m9_ m10_ m11_ nodes => walk_Run.s0 N r_ p_ seed steps (walk_Run.L N r_ p_ seed steps n).1 (walk_Run.L N r_ p_ seed steps n).2 t55_ b_ b_2 b_3 b_4 b_5 b_6 b_7 b_8 b_9 b_10 b_11 m4_ m5_ m6_ m7_ m8_ m9_ m10_ m11_ nodes, fun t63_ t64_ nodes m15_ out => walk_Run.s1 N r_ p_ seed steps (walk_Run.L N r_ p_ seed steps n).1 (walk_Run.L N r_ p_ seed steps n).2 t63_ t64_ nodes m15_ out)
def walk_Run.l0 (N : Nat) (r_ : TRules) (p_ : TPos) (seed : Int) (steps : Int) (n : Nat) : Int → ByteArray → Int → Int → Bool → Bool → Int → Int → Int → Int → Int → Int → (List TPiece) → LInt → (List TEnd) → LInt → LInt → LInt → (List TUndo) → Int → (List (LMv × List Int × (Int × Int))) → Option ((List (TMv × (Int × Int))) × Int) := (walk_Run.L N r_ p_ seed steps n).1
def walk_Run.l1 (N : Nat) (r_ : TRules) (p_ : TPos) (seed : Int) (steps : Int) (n : Nat) : Int → Int → (List (LMv × List Int × (Int × Int))) → LMv → (List (TMv × (Int × Int))) → Option ((List (TMv × (Int × Int))) × Int) := (walk_Run.L N r_ p_ seed steps n).2
theorem walk_Run.l0_s (N : Nat) (r_ : TRules) (p_ : TPos) (seed : Int) (steps : Int) (n : Nat) (t55_ : Int) (b_ : ByteArray) (b_2 : Int) (b_3 : Int) (b_4 : Bool) (b_5 : Bool) (b_6 : Int) (b_7 : Int) (b_8 : Int) (b_9 : Int) (b_10 : Int) (b_11 : Int) (m4_ : (List TPiece)) (m5_ : LInt) (m6_ : (List TEnd)) (m7_ : LInt) (m8_ : LInt) (m9_ : LInt) (m10_ : (List TUndo)) (m11_ : Int) (nodes : (List (LMv × List Int × (Int × Int)))) : walk_Run.l0 N r_ p_ seed steps (n + 1) t55_ b_ b_2 b_3 b_4 b_5 b_6 b_7 b_8 b_9 b_10 b_11 m4_ m5_ m6_ m7_ m8_ m9_ m10_ m11_ nodes = walk_Run.s0 N r_ p_ seed steps (walk_Run.l0 N r_ p_ seed steps n) (walk_Run.l1 N r_ p_ seed steps n) t55_ b_ b_2 b_3 b_4 b_5 b_6 b_7 b_8 b_9 b_10 b_11 m4_ m5_ m6_ m7_ m8_ m9_ m10_ m11_ nodes := rfl
theorem walk_Run.l1_s (N : Nat) (r_ : TRules) (p_ : TPos) (seed : Int) (steps : Int) (n : Nat) (t63_ : Int) (t64_ : Int) (nodes : (List (LMv × List Int × (Int × Int)))) (m15_ : LMv) (out : (List (TMv × (Int × Int)))) : walk_Run.l1 N r_ p_ seed steps (n + 1) t63_ t64_ nodes m15_ out = walk_Run.s1 N r_ p_ seed steps (walk_Run.l0 N r_ p_ seed steps n) (walk_Run.l1 N r_ p_ seed steps n) t63_ t64_ nodes m15_ out := rfl
def walk_Run (N : Nat) (r_ : TRules) (p_ : TPos) (seed : Int) (steps : Int) : Option ((List (TMv × (Int × Int))) × Int) := walk_Run.e N (walk_Run.l0 N r_ p_ seed steps N) (walk_Run.l1 N r_ p_ seed steps N) r_ p_ seed steps
/-! ### f31: gamehall/walk.Best -/
def walk_Best.e (N : Nat) (r0 : Int → Int → Int → (List (TMv × (Int × Int))) → Option (TMv × Int)) (r_ : TRules) (p_ : TPos) (seed : Int) (steps : Int) : Option (TMv × Int) :=
  (walk_Run N r_ p_ seed steps).bind fun y1 =>
  bif (!(eqI y1.2 0)) then (some ((0, (0, 0)), y1.2))
  else bif (eqI steps 0) then (some ((0, (0, 0)), 1))
  else r0 0 (y1.1.length : Int) 0 y1.1
def walk_Best.s0 (N : Nat) (r_ : TRules) (p_ : TPos) (seed : Int) (steps : Int) (r0 : Int → Int → Int → (List (TMv × (Int × Int))) → Option (TMv × Int)) (best : Int) (t33_ : Int) (t34_ : Int) (l_ : (List (TMv × (Int × Int)))) : Option (TMv × Int) :=
  bif (ltI t34_ t33_) then (chk ((leI 0 t34_) && (ltI t34_ (l_.length : Int))) <|
    chk ((leI 0 best) && (ltI best (l_.length : Int))) <|
    bif (ltI (gD (((0 : Int), ((0 : Int), (0 : Int))), ((0 : Int), (0 : Int))) l_ best).2.1 (gD (((0 : Int), ((0 : Int), (0 : Int))), ((0 : Int), (0 : Int))) l_ t34_).2.1) then (r0 t34_ t33_ (w64 (t34_ + 1)) l_)
    else r0 best t33_ (w64 (t34_ + 1)) l_)
  else chk ((leI 0 best) && (ltI best (l_.length : Int))) <|
  some ((gD (((0 : Int), ((0 : Int), (0 : Int))), ((0 : Int), (0 : Int))) l_ best).1, 0)
def walk_Best.L (N : Nat) (r_ : TRules) (p_ : TPos) (seed : Int) (steps : Int) : Nat → (Int → Int → Int → (List (TMv × (Int × Int))) → Option (TMv × Int))
  | 0 => fun _ _ _ _ => none
  | n + 1 => fun best t33_ t34_ l_ => walk_Best.s0 N r_ p_ seed steps (walk_Best.L N r_ p_ seed steps n) best t33_ t34_ l_
def walk_Best.l0 (N : Nat) (r_ : TRules) (p_ : TPos) (seed : Int) (steps : Int) (n : Nat) : Int → Int → Int → (List (TMv × (Int × Int))) → Option (TMv × Int) := (walk_Best.L N r_ p_ seed steps n)
theorem walk_Best.l0_s (N : Nat) (r_ : TRules) (p_ : TPos) (seed : Int) (steps : Int) (n : Nat) (best : Int) (t33_ : Int) (t34_ : Int) (l_ : (List (TMv × (Int × Int)))) : walk_Best.l0 N r_ p_ seed steps (n + 1) best t33_ t34_ l_ = walk_Best.s0 N r_ p_ seed steps (walk_Best.l0 N r_ p_ seed steps n) best t33_ t34_ l_ := rfl
def walk_Best (N : Nat) (r_ : TRules) (p_ : TPos) (seed : Int) (steps : Int) : Option (TMv × Int) := walk_Best.e N (walk_Best.l0 N r_ p_ seed steps N) r_ p_ seed steps
/-! ### f44: gamehall/gamehallkeep1.fine$1 -/
def gamehallkeep1_fine_1.e (N : Nat) (e_ : Int) : Option Bool :=
  some (!(eqI e_ 0))
def gamehallkeep1_fine_1 (N : Nat) (e_ : Int) : Option Bool := gamehallkeep1_fine_1.e N e_
/-! ### f73: slices.IndexFunc[[]gamehall/api.Errno,gamehall/api.Errno] -/
def slices_IndexFunc_api_Errno_api_Errno.e (N : Nat) (r0 : Int → Option Int) (s_ : LInt) : Option Int :=
  r0 0
def slices_IndexFunc_api_Errno_api_Errno.s0 (N : Nat) (s_ : LInt) (r0 : Int → Option Int) (t8_ : Int) : Option Int :=
  bif (ltI t8_ (s_.length : Int)) then (chk ((leI 0 t8_) && (ltI t8_ (s_.length : Int))) <|
    (gamehallkeep1_fine_1 N (gD (0 : Int) s_ t8_)).bind fun y2 =>
    bif y2 then some t8_
    else r0 (w64 (t8_ + 1)))
  else some (-1)
def slices_IndexFunc_api_Errno_api_Errno.L (N : Nat) (s_ : LInt) : Nat → (Int → Option Int)
  | 0 => fun _ => none
  | n + 1 => fun t8_ => slices_IndexFunc_api_Errno_api_Errno.s0 N s_ (slices_IndexFunc_api_Errno_api_Errno.L N s_ n) t8_
def slices_IndexFunc_api_Errno_api_Errno.l0 (N : Nat) (s_ : LInt) (n : Nat) : Int → Option Int := (slices_IndexFunc_api_Errno_api_Errno.L N s_ n)
theorem slices_IndexFunc_api_Errno_api_Errno.l0_s (N : Nat) (s_ : LInt) (n : Nat) (t8_ : Int) : slices_IndexFunc_api_Errno_api_Errno.l0 N s_ (n + 1) t8_ = slices_IndexFunc_api_Errno_api_Errno.s0 N s_ (slices_IndexFunc_api_Errno_api_Errno.l0 N s_ n) t8_ := rfl
def slices_IndexFunc_api_Errno_api_Errno (N : Nat) (s_ : LInt) : Option Int := slices_IndexFunc_api_Errno_api_Errno.e N (slices_IndexFunc_api_Errno_api_Errno.l0 N s_ N) s_
/-! ### f43: slices.ContainsFunc[[]gamehall/api.Errno,gamehall/api.Errno] -/
def slices_ContainsFunc_api_Errno_api_Errno.e (N : Nat) (s_ : LInt) : Option Bool :=
  (slices_IndexFunc_api_Errno_api_Errno N s_).bind fun y1 =>
  some (leI 0 y1)
def slices_ContainsFunc_api_Errno_api_Errno (N : Nat) (s_ : LInt) : Option Bool := slices_ContainsFunc_api_Errno_api_Errno.e N s_
/-! ### f21: gamehall/gamehallkeep1.fine -/
def gamehallkeep1_fine.e (N : Nat) (l_ : LInt) : Option Bool :=
  (slices_ContainsFunc_api_Errno_api_Errno N l_).bind fun y1 =>
  some (!y1)
def gamehallkeep1_fine (N : Nat) (l_ : LInt) : Option Bool := gamehallkeep1_fine.e N l_
/-! ### f26: gamehall/gamehallkeep1.put -/
def gamehallkeep1_put.e (N : Nat) (s_ : Int) : Option TMv :=
  some ((-1), (s_, 0))
def gamehallkeep1_put (N : Nat) (s_ : Int) : Option TMv := gamehallkeep1_put.e N s_
/-! ### f11: gamehall/gamehallkeep1.walked -/
def gamehallkeep1_walked.e (N : Nat) : Option Bool :=
  (gamehallkeep1_three N).bind fun y1 =>
  (gamehallkeep1_near N).bind fun y2 =>
  (walk_Run N y1 y2 5 1).bind fun y3 =>
  (gamehallkeep1_three N).bind fun y4 =>
  (gamehallkeep1_near N).bind fun y5 =>
  (walk_Best N y4 y5 5 1).bind fun y6 =>
  (walk_NewSource N 5).bind fun y7 =>
  oCase y7.1 (bif (!(eqI y7.2 0)) then some false
    else some false) fun b8 =>
  bif (!(eqI y7.2 0)) then some false
  else (walk_Source_Below' N b8 1000000).bind fun y9 =>
  (gamehallkeep1_fine N [y3.2, y6.2, y9.2.1]).bind fun y10 =>
  bif y10 then (bif (eqI (y3.1.length : Int) 5) then (chk (true && (ltI 0 (y3.1.length : Int))) <|
      (gamehallkeep1_put N 2).bind fun y12 =>
      bif (((eqI (gD (((0 : Int), ((0 : Int), (0 : Int))), ((0 : Int), (0 : Int))) y3.1 0).1.1 y12.1) && ((eqI (gD (((0 : Int), ((0 : Int), (0 : Int))), ((0 : Int), (0 : Int))) y3.1 0).1.2.1 y12.2.1) && ((eqI (gD (((0 : Int), ((0 : Int), (0 : Int))), ((0 : Int), (0 : Int))) y3.1 0).1.2.2 y12.2.2) && true))) && ((eqI (gD (((0 : Int), ((0 : Int), (0 : Int))), ((0 : Int), (0 : Int))) y3.1 0).2.1 1) && ((eqI (gD (((0 : Int), ((0 : Int), (0 : Int))), ((0 : Int), (0 : Int))) y3.1 0).2.2 2) && true))) then ((gamehallkeep1_put N 2).bind fun y14 =>
        bif ((eqI y6.1.1 y14.1) && ((eqI y6.1.2.1 y14.2.1) && ((eqI y6.1.2.2 y14.2.2) && true))) then ((zob_Mix N 20481).bind fun y16 =>
          some (eqI y9.1 (w64 (Int.tmod (IntKind.wrap .u64 (Int.tdiv y16 2)) 1000000))))
        else some false)
      else some false)
    else some false)
  else some false
def gamehallkeep1_walked (N : Nat) : Option Bool := gamehallkeep1_walked.e N
/-! ### f5: gamehall/gamehallkeep1.WalkDraws -/
def gamehallkeep1_WalkDraws.e (N : Nat) (r0 : Int → LInt → Int → Int → Int → Option Bool) (seed : Int) (l_ : LInt) : Option Bool :=
  (gamehallkeep1_walked N).bind fun y1 =>
  bif (!y1) then some false
  else (walk_NewSource N seed).bind fun y2 =>
  oCase y2.1 (bif (!(eqI y2.2 0)) then (bif (ltI seed 0) then (some (eqI y2.2 4))
      else bif (ltI 100000000 seed) then (some (eqI y2.2 4))
      else some false)
    else bif (ltI seed 0) then (some (eqI y2.2 4))
    else bif (ltI 100000000 seed) then (some (eqI y2.2 4))
    else some false) fun b3 =>
  bif (!(eqI y2.2 0)) then (bif (ltI seed 0) then (some (eqI y2.2 4))
    else bif (ltI 100000000 seed) then (some (eqI y2.2 4))
    else some false)
  else let v4 : Int := (bif (ltI 20 (l_.length : Int)) then 20 else (l_.length : Int))
  chk (true && ((leI 0 v4) && (leI v4 (l_.length : Int)))) <|
  r0 0 ((l_.take v4.toNat).drop (0 : Int).toNat) (((l_.take v4.toNat).drop (0 : Int).toNat).length : Int) 0 b3
def gamehallkeep1_WalkDraws.s0 (N : Nat) (seed : Int) (l_ : LInt) (r0 : Int → LInt → Int → Int → Int → Option Bool) (k_ : Int) (t39_ : LInt) (t40_ : Int) (t41_ : Int) (s_ : Int) : Option Bool :=
  bif (ltI t41_ t40_) then (chk ((leI 0 t41_) && (ltI t41_ (t39_.length : Int))) <|
    (walk_Source_Below' N s_ (gD (0 : Int) t39_ t41_)).bind fun y6 =>
    bif (ltI (gD (0 : Int) t39_ t41_) 1) then (bif (!(eqI y6.2.1 1)) then some false
      else bif (!(eqI y6.1 0)) then some false
      else r0 k_ t39_ t40_ (w64 (t41_ + 1)) y6.2.2)
    else bif (ltI 100000000 (gD (0 : Int) t39_ t41_)) then (bif (!(eqI y6.2.1 1)) then some false
      else bif (!(eqI y6.1 0)) then some false
      else r0 k_ t39_ t40_ (w64 (t41_ + 1)) y6.2.2)
    else bif (!(eqI y6.2.1 0)) then some false
    else (zob_Mix N (w64 ((w64 (4096 * seed)) + (w64 (k_ + 1))))).bind fun y10 =>
    let v12 : Int := (IntKind.wrap .u64 (gD (0 : Int) t39_ t41_))
    bif (eqI v12 0) then none
    else bif (!(eqI y6.1 (w64 (Int.tmod (IntKind.wrap .u64 (Int.tdiv y10 2)) v12)))) then some false
    else r0 (w64 (k_ + 1)) t39_ t40_ (w64 (t41_ + 1)) y6.2.2)
  else some true
def gamehallkeep1_WalkDraws.L (N : Nat) (seed : Int) (l_ : LInt) : Nat → (Int → LInt → Int → Int → Int → Option Bool)
  | 0 => fun _ _ _ _ _ => none
  | n + 1 => fun k_ t39_ t40_ t41_ s_ => gamehallkeep1_WalkDraws.s0 N seed l_ (gamehallkeep1_WalkDraws.L N seed l_ n) k_ t39_ t40_ t41_ s_
def gamehallkeep1_WalkDraws.l0 (N : Nat) (seed : Int) (l_ : LInt) (n : Nat) : Int → LInt → Int → Int → Int → Option Bool := (gamehallkeep1_WalkDraws.L N seed l_ n)
theorem gamehallkeep1_WalkDraws.l0_s (N : Nat) (seed : Int) (l_ : LInt) (n : Nat) (k_ : Int) (t39_ : LInt) (t40_ : Int) (t41_ : Int) (s_ : Int) : gamehallkeep1_WalkDraws.l0 N seed l_ (n + 1) k_ t39_ t40_ t41_ s_ = gamehallkeep1_WalkDraws.s0 N seed l_ (gamehallkeep1_WalkDraws.l0 N seed l_ n) k_ t39_ t40_ t41_ s_ := rfl
def gamehallkeep1_WalkDraws (N : Nat) (seed : Int) (l_ : LInt) : Option Bool := gamehallkeep1_WalkDraws.e N (gamehallkeep1_WalkDraws.l0 N seed l_ N) seed l_
end
end Go.Proofs.Ytpielijehhhobaa.Am
