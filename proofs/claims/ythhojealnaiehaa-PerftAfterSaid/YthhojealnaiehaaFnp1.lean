/- PRINTED by gen.py: what the functions compute, as plain Lean functions with fuel. -/
import Derived.Test.YthhojealnaiehaaFnp
set_option linter.unusedVariables false
set_option linter.unusedSimpArgs false
namespace Go.Proofs.Ythhojealnaiehaa.Am
open Go
noncomputable section
/-! ### f70: (*gamehall/perft.counter).count -/
def perft_counter_count''.e (N : Nat) (self : Int → ((ByteArray × (Int × (Int × ((List (Int × (Int × (Int × (List (Int × (Int × (Int × Int)))))))) × ((List Int) × (Bool × (Bool × ((List (Int × (Int × (Int × Bool)))) × (Int × (Int × Int)))))))))) × (((List Int) × (((List Int) × (List Int)) × (Int × Int))) × (Int × (List ((Int × (Int × Int)) × (Int × (Int × (Bool × (Int × Int))))))))) → Int → Option (Int × Int × ((ByteArray × (Int × (Int × ((List (Int × (Int × (Int × (List (Int × (Int × (Int × Int)))))))) × ((List Int) × (Bool × (Bool × ((List (Int × (Int × (Int × Bool)))) × (Int × (Int × Int)))))))))) × (((List Int) × (((List Int) × (List Int)) × (Int × Int))) × (Int × (List ((Int × (Int × Int)) × (Int × (Int × (Bool × (Int × Int))))))))))) (r0 : Int → Int → Int → Int → ByteArray → Int → Int → Bool → Bool → Int → Int → Int → Int → Int → Int → (List (Int × (Int × Int))) → (List (Int × (Int × (Int × (List (Int × (Int × (Int × Int)))))))) → (List Int) → (List (Int × (Int × (Int × Bool)))) → (List Int) → (List Int) → (List Int) → (List ((Int × (Int × Int)) × (Int × (Int × (Bool × (Int × Int)))))) → Option (Int × Int × ((ByteArray × (Int × (Int × ((List (Int × (Int × (Int × (List (Int × (Int × (Int × Int)))))))) × ((List Int) × (Bool × (Bool × ((List (Int × (Int × (Int × Bool)))) × (Int × (Int × Int)))))))))) × (((List Int) × (((List Int) × (List Int)) × (Int × Int))) × (Int × (List ((Int × (Int × Int)) × (Int × (Int × (Bool × (Int × Int))))))))))) (c_ : Int) (b_ : ((ByteArray × (Int × (Int × ((List (Int × (Int × (Int × (List (Int × (Int × (Int × Int)))))))) × ((List Int) × (Bool × (Bool × ((List (Int × (Int × (Int × Bool)))) × (Int × (Int × Int)))))))))) × (((List Int) × (((List Int) × (List Int)) × (Int × Int))) × (Int × (List ((Int × (Int × Int)) × (Int × (Int × (Bool × (Int × Int)))))))))) (depth : Int) : Option (Int × Int × ((ByteArray × (Int × (Int × ((List (Int × (Int × (Int × (List (Int × (Int × (Int × Int)))))))) × ((List Int) × (Bool × (Bool × ((List (Int × (Int × (Int × Bool)))) × (Int × (Int × Int)))))))))) × (((List Int) × (((List Int) × (List Int)) × (Int × Int))) × (Int × (List ((Int × (Int × Int)) × (Int × (Int × (Bool × (Int × Int)))))))))) :=
  bif (ltI (w64 (c_ - 1)) 0) then (some (1, ((w64 (c_ - 1)), b_)))
  else bif (eqI depth 0) then (some (1, ((w64 (c_ - 1)), b_)))
  else (board_Board_Moves N b_).bind fun y1 =>
  r0 0 (y1.length : Int) 0 (w64 (c_ - 1)) b_.1.1 b_.1.2.1 b_.1.2.2.1 b_.1.2.2.2.2.2.1 b_.1.2.2.2.2.2.2.1 b_.1.2.2.2.2.2.2.2.2.1 b_.1.2.2.2.2.2.2.2.2.2.1 b_.1.2.2.2.2.2.2.2.2.2.2 b_.2.1.2.2.1 b_.2.1.2.2.2 b_.2.2.1 y1 b_.1.2.2.2.1 b_.1.2.2.2.2.1 b_.1.2.2.2.2.2.2.2.1 b_.2.1.1 b_.2.1.2.1.1 b_.2.1.2.1.2 b_.2.2.2
def perft_counter_count''.s0 (N : Nat) (self : Int → ((ByteArray × (Int × (Int × ((List (Int × (Int × (Int × (List (Int × (Int × (Int × Int)))))))) × ((List Int) × (Bool × (Bool × ((List (Int × (Int × (Int × Bool)))) × (Int × (Int × Int)))))))))) × (((List Int) × (((List Int) × (List Int)) × (Int × Int))) × (Int × (List ((Int × (Int × Int)) × (Int × (Int × (Bool × (Int × Int))))))))) → Int → Option (Int × Int × ((ByteArray × (Int × (Int × ((List (Int × (Int × (Int × (List (Int × (Int × (Int × Int)))))))) × ((List Int) × (Bool × (Bool × ((List (Int × (Int × (Int × Bool)))) × (Int × (Int × Int)))))))))) × (((List Int) × (((List Int) × (List Int)) × (Int × Int))) × (Int × (List ((Int × (Int × Int)) × (Int × (Int × (Bool × (Int × Int))))))))))) (c_ : Int) (b_ : ((ByteArray × (Int × (Int × ((List (Int × (Int × (Int × (List (Int × (Int × (Int × Int)))))))) × ((List Int) × (Bool × (Bool × ((List (Int × (Int × (Int × Bool)))) × (Int × (Int × Int)))))))))) × (((List Int) × (((List Int) × (List Int)) × (Int × Int))) × (Int × (List ((Int × (Int × Int)) × (Int × (Int × (Bool × (Int × Int)))))))))) (depth : Int) (r0 : Int → Int → Int → Int → ByteArray → Int → Int → Bool → Bool → Int → Int → Int → Int → Int → Int → (List (Int × (Int × Int))) → (List (Int × (Int × (Int × (List (Int × (Int × (Int × Int)))))))) → (List Int) → (List (Int × (Int × (Int × Bool)))) → (List Int) → (List Int) → (List Int) → (List ((Int × (Int × Int)) × (Int × (Int × (Bool × (Int × Int)))))) → Option (Int × Int × ((ByteArray × (Int × (Int × ((List (Int × (Int × (Int × (List (Int × (Int × (Int × Int)))))))) × ((List Int) × (Bool × (Bool × ((List (Int × (Int × (Int × Bool)))) × (Int × (Int × Int)))))))))) × (((List Int) × (((List Int) × (List Int)) × (Int × Int))) × (Int × (List ((Int × (Int × Int)) × (Int × (Int × (Bool × (Int × Int))))))))))) (n_ : Int) (t28_ : Int) (t29_ : Int) (c_2 : Int) (b_2 : ByteArray) (b_3 : Int) (b_4 : Int) (b_5 : Bool) (b_6 : Bool) (b_7 : Int) (b_8 : Int) (b_9 : Int) (b_10 : Int) (b_11 : Int) (b_12 : Int) (m9_ : (List (Int × (Int × Int)))) (m10_ : (List (Int × (Int × (Int × (List (Int × (Int × (Int × Int))))))))) (m11_ : (List Int)) (m12_ : (List (Int × (Int × (Int × Bool))))) (m13_ : (List Int)) (m14_ : (List Int)) (m15_ : (List Int)) (m16_ : (List ((Int × (Int × Int)) × (Int × (Int × (Bool × (Int × Int))))))) : Option (Int × Int × ((ByteArray × (Int × (Int × ((List (Int × (Int × (Int × (List (Int × (Int × (Int × Int)))))))) × ((List Int) × (Bool × (Bool × ((List (Int × (Int × (Int × Bool)))) × (Int × (Int × Int)))))))))) × (((List Int) × (((List Int) × (List Int)) × (Int × Int))) × (Int × (List ((Int × (Int × Int)) × (Int × (Int × (Bool × (Int × Int)))))))))) :=
  bif (ltI t29_ t28_) then (chk ((leI 0 t29_) && (ltI t29_ (m9_.length : Int))) <|
    (board_Board_Make' N ((b_2, (b_3, (b_4, (m10_, (m11_, (b_5, (b_6, (m12_, (b_7, (b_8, b_9)))))))))), ((m13_, ((m14_, m15_), (b_10, b_11))), (b_12, m16_))) (gD ((0 : Int), ((0 : Int), (0 : Int))) m9_ t29_)).bind fun y2 =>
    (self c_2 y2 (w64 (depth - 1))).bind fun y3 =>
    (board_Board_Undo' N y3.2.2).bind fun y4 =>
    bif (ltI y3.2.1 0) then (some (0, (y3.2.1, y4.2)))
    else r0 (w64 (n_ + y3.1)) t28_ (w64 (t29_ + 1)) y3.2.1 y4.2.1.1 y4.2.1.2.1 y4.2.1.2.2.1 y4.2.1.2.2.2.2.2.1 y4.2.1.2.2.2.2.2.2.1 y4.2.1.2.2.2.2.2.2.2.2.1 y4.2.1.2.2.2.2.2.2.2.2.2.1 y4.2.1.2.2.2.2.2.2.2.2.2.2 y4.2.2.1.2.2.1 y4.2.2.1.2.2.2 y4.2.2.2.1 m9_ y4.2.1.2.2.2.1 y4.2.1.2.2.2.2.1 y4.2.1.2.2.2.2.2.2.2.1 y4.2.2.1.1 y4.2.2.1.2.1.1 y4.2.2.1.2.1.2 y4.2.2.2.2)
  else some (n_, (c_2, ((b_2, (b_3, (b_4, (m10_, (m11_, (b_5, (b_6, (m12_, (b_7, (b_8, b_9)))))))))), ((m13_, ((m14_, m15_), (b_10, b_11))), (b_12, m16_)))))
def perft_counter_count''.L (N : Nat) (self : Int → ((ByteArray × (Int × (Int × ((List (Int × (Int × (Int × (List (Int × (Int × (Int × Int)))))))) × ((List Int) × (Bool × (Bool × ((List (Int × (Int × (Int × Bool)))) × (Int × (Int × Int)))))))))) × (((List Int) × (((List Int) × (List Int)) × (Int × Int))) × (Int × (List ((Int × (Int × Int)) × (Int × (Int × (Bool × (Int × Int))))))))) → Int → Option (Int × Int × ((ByteArray × (Int × (Int × ((List (Int × (Int × (Int × (List (Int × (Int × (Int × Int)))))))) × ((List Int) × (Bool × (Bool × ((List (Int × (Int × (Int × Bool)))) × (Int × (Int × Int)))))))))) × (((List Int) × (((List Int) × (List Int)) × (Int × Int))) × (Int × (List ((Int × (Int × Int)) × (Int × (Int × (Bool × (Int × Int))))))))))) (c_ : Int) (b_ : ((ByteArray × (Int × (Int × ((List (Int × (Int × (Int × (List (Int × (Int × (Int × Int)))))))) × ((List Int) × (Bool × (Bool × ((List (Int × (Int × (Int × Bool)))) × (Int × (Int × Int)))))))))) × (((List Int) × (((List Int) × (List Int)) × (Int × Int))) × (Int × (List ((Int × (Int × Int)) × (Int × (Int × (Bool × (Int × Int)))))))))) (depth : Int) : Nat → (Int → Int → Int → Int → ByteArray → Int → Int → Bool → Bool → Int → Int → Int → Int → Int → Int → (List (Int × (Int × Int))) → (List (Int × (Int × (Int × (List (Int × (Int × (Int × Int)))))))) → (List Int) → (List (Int × (Int × (Int × Bool)))) → (List Int) → (List Int) → (List Int) → (List ((Int × (Int × Int)) × (Int × (Int × (Bool × (Int × Int)))))) → Option (Int × Int × ((ByteArray × (Int × (Int × ((List (Int × (Int × (Int × (List (Int × (Int × (Int × Int)))))))) × ((List Int) × (Bool × (Bool × ((List (Int × (Int × (Int × Bool)))) × (Int × (Int × Int)))))))))) × (((List Int) × (((List Int) × (List Int)) × (Int × Int))) × (Int × (List ((Int × (Int × Int)) × (Int × (Int × (Bool × (Int × Int)))))))))))
  | 0 => fun _ _ _ _ _ _ _ _ _ _ _ _ _ _ _ _ _ _ _ _ _ _ _ => none
  | n + 1 => fun n_ t28_ t29_ c_2 b_2 b_3 b_4 b_5 b_6 b_7 b_8 b_9 b_10 b_11 b_12 m9_ m10_ m11_ m12_ m13_ m14_ m15_ m16_ => perft_counter_count''.s0 N self c_ b_ depth (perft_counter_count''.L N self c_ b_ depth n) n_ t28_ t29_ c_2 b_2 b_3 b_4 b_5 b_6 b_7 b_8 b_9 b_10 b_11 b_12 m9_ m10_ m11_ m12_ m13_ m14_ m15_ m16_
def perft_counter_count''.l0 (N : Nat) (self : Int → ((ByteArray × (Int × (Int × ((List (Int × (Int × (Int × (List (Int × (Int × (Int × Int)))))))) × ((List Int) × (Bool × (Bool × ((List (Int × (Int × (Int × Bool)))) × (Int × (Int × Int)))))))))) × (((List Int) × (((List Int) × (List Int)) × (Int × Int))) × (Int × (List ((Int × (Int × Int)) × (Int × (Int × (Bool × (Int × Int))))))))) → Int → Option (Int × Int × ((ByteArray × (Int × (Int × ((List (Int × (Int × (Int × (List (Int × (Int × (Int × Int)))))))) × ((List Int) × (Bool × (Bool × ((List (Int × (Int × (Int × Bool)))) × (Int × (Int × Int)))))))))) × (((List Int) × (((List Int) × (List Int)) × (Int × Int))) × (Int × (List ((Int × (Int × Int)) × (Int × (Int × (Bool × (Int × Int))))))))))) (c_ : Int) (b_ : ((ByteArray × (Int × (Int × ((List (Int × (Int × (Int × (List (Int × (Int × (Int × Int)))))))) × ((List Int) × (Bool × (Bool × ((List (Int × (Int × (Int × Bool)))) × (Int × (Int × Int)))))))))) × (((List Int) × (((List Int) × (List Int)) × (Int × Int))) × (Int × (List ((Int × (Int × Int)) × (Int × (Int × (Bool × (Int × Int)))))))))) (depth : Int) (n : Nat) : Int → Int → Int → Int → ByteArray → Int → Int → Bool → Bool → Int → Int → Int → Int → Int → Int → (List (Int × (Int × Int))) → (List (Int × (Int × (Int × (List (Int × (Int × (Int × Int)))))))) → (List Int) → (List (Int × (Int × (Int × Bool)))) → (List Int) → (List Int) → (List Int) → (List ((Int × (Int × Int)) × (Int × (Int × (Bool × (Int × Int)))))) → Option (Int × Int × ((ByteArray × (Int × (Int × ((List (Int × (Int × (Int × (List (Int × (Int × (Int × Int)))))))) × ((List Int) × (Bool × (Bool × ((List (Int × (Int × (Int × Bool)))) × (Int × (Int × Int)))))))))) × (((List Int) × (((List Int) × (List Int)) × (Int × Int))) × (Int × (List ((Int × (Int × Int)) × (Int × (Int × (Bool × (Int × Int)))))))))) := (perft_counter_count''.L N self c_ b_ depth n)
theorem perft_counter_count''.l0_s (N : Nat) (self : Int → ((ByteArray × (Int × (Int × ((List (Int × (Int × (Int × (List (Int × (Int × (Int × Int)))))))) × ((List Int) × (Bool × (Bool × ((List (Int × (Int × (Int × Bool)))) × (Int × (Int × Int)))))))))) × (((List Int) × (((List Int) × (List Int)) × (Int × Int))) × (Int × (List ((Int × (Int × Int)) × (Int × (Int × (Bool × (Int × Int))))))))) → Int → Option (Int × Int × ((ByteArray × (Int × (Int × ((List (Int × (Int × (Int × (List (Int × (Int × (Int × Int)))))))) × ((List Int) × (Bool × (Bool × ((List (Int × (Int × (Int × Bool)))) × (Int × (Int × Int)))))))))) × (((List Int) × (((List Int) × (List Int)) × (Int × Int))) × (Int × (List ((Int × (Int × Int)) × (Int × (Int × (Bool × (Int × Int))))))))))) (c_ : Int) (b_ : ((ByteArray × (Int × (Int × ((List (Int × (Int × (Int × (List (Int × (Int × (Int × Int)))))))) × ((List Int) × (Bool × (Bool × ((List (Int × (Int × (Int × Bool)))) × (Int × (Int × Int)))))))))) × (((List Int) × (((List Int) × (List Int)) × (Int × Int))) × (Int × (List ((Int × (Int × Int)) × (Int × (Int × (Bool × (Int × Int)))))))))) (depth : Int) (n : Nat) (n_ : Int) (t28_ : Int) (t29_ : Int) (c_2 : Int) (b_2 : ByteArray) (b_3 : Int) (b_4 : Int) (b_5 : Bool) (b_6 : Bool) (b_7 : Int) (b_8 : Int) (b_9 : Int) (b_10 : Int) (b_11 : Int) (b_12 : Int) (m9_ : (List (Int × (Int × Int)))) (m10_ : (List (Int × (Int × (Int × (List (Int × (Int × (Int × Int))))))))) (m11_ : (List Int)) (m12_ : (List (Int × (Int × (Int × Bool))))) (m13_ : (List Int)) (m14_ : (List Int)) (m15_ : (List Int)) (m16_ : (List ((Int × (Int × Int)) × (Int × (Int × (Bool × (Int × Int))))))) : perft_counter_count''.l0 N self c_ b_ depth (n + 1) n_ t28_ t29_ c_2 b_2 b_3 b_4 b_5 b_6 b_7 b_8 b_9 b_10 b_11 b_12 m9_ m10_ m11_ m12_ m13_ m14_ m15_ m16_ = perft_counter_count''.s0 N self c_ b_ depth (perft_counter_count''.l0 N self c_ b_ depth n) n_ t28_ t29_ c_2 b_2 b_3 b_4 b_5 b_6 b_7 b_8 b_9 b_10 b_11 b_12 m9_ m10_ m11_ m12_ m13_ m14_ m15_ m16_ := rfl
def perft_counter_count'' : Nat → Int → ((ByteArray × (Int × (Int × ((List (Int × (Int × (Int × (List (Int × (Int × (Int × Int)))))))) × ((List Int) × (Bool × (Bool × ((List (Int × (Int × (Int × Bool)))) × (Int × (Int × Int)))))))))) × (((List Int) × (((List Int) × (List Int)) × (Int × Int))) × (Int × (List ((Int × (Int × Int)) × (Int × (Int × (Bool × (Int × Int))))))))) → Int → Option (Int × Int × ((ByteArray × (Int × (Int × ((List (Int × (Int × (Int × (List (Int × (Int × (Int × Int)))))))) × ((List Int) × (Bool × (Bool × ((List (Int × (Int × (Int × Bool)))) × (Int × (Int × Int)))))))))) × (((List Int) × (((List Int) × (List Int)) × (Int × Int))) × (Int × (List ((Int × (Int × Int)) × (Int × (Int × (Bool × (Int × Int))))))))))
  | 0 => fun _ _ _ => none
  | N + 1 => fun c_ b_ depth => perft_counter_count''.e N (perft_counter_count'' N) (perft_counter_count''.l0 N (perft_counter_count'' N) c_ b_ depth N) c_ b_ depth
theorem perft_counter_count''_s (N : Nat) (c_ : Int) (b_ : ((ByteArray × (Int × (Int × ((List (Int × (Int × (Int × (List (Int × (Int × (Int × Int)))))))) × ((List Int) × (Bool × (Bool × ((List (Int × (Int × (Int × Bool)))) × (Int × (Int × Int)))))))))) × (((List Int) × (((List Int) × (List Int)) × (Int × Int))) × (Int × (List ((Int × (Int × Int)) × (Int × (Int × (Bool × (Int × Int)))))))))) (depth : Int) : perft_counter_count'' (N + 1) c_ b_ depth = perft_counter_count''.e N (perft_counter_count'' N) (perft_counter_count''.l0 N (perft_counter_count'' N) c_ b_ depth N) c_ b_ depth := rfl
/-! ### f31: gamehall/perft.Divide -/
def perft_Divide.e (N : Nat) (r0 : Int → Int → ByteArray → Int → Int → Bool → Bool → Int → Int → Int → Int → Int → Int → (List (Int × (Int × (Int × (List (Int × (Int × (Int × Int)))))))) → (List Int) → (List (Int × (Int × (Int × Bool)))) → (List Int) → (List Int) → (List Int) → (List ((Int × (Int × Int)) × (Int × (Int × (Bool × (Int × Int)))))) → Int → (List (Int × (Int × Int))) → (List ((Int × (Int × Int)) × Int)) → Option ((List ((Int × (Int × Int)) × Int)) × Int)) (r_ : (ByteArray × (Int × (Int × ((List (Int × (Int × (Int × (List (Int × (Int × (Int × Int)))))))) × ((List Int) × (Bool × (Bool × ((List (Int × (Int × (Int × Bool)))) × (Int × (Int × Int))))))))))) (p_ : ((List Int) × (((List Int) × (List Int)) × (Int × Int)))) (depth : Int) : Option ((List ((Int × (Int × Int)) × Int)) × Int) :=
  (perft_check N r_ p_ depth).bind fun y1 =>
  oCase y1.1 (bif (!(eqI y1.2 0)) then (some ([], y1.2))
    else bif (eqI depth 0) then (some ([], 1))
    else none) fun b2 =>
  bif (!(eqI y1.2 0)) then (some ([], y1.2))
  else bif (eqI depth 0) then (some ([], 1))
  else (board_Board_Moves N b2).bind fun y3 =>
  r0 (y3.length : Int) 0 b2.1.1 b2.1.2.1 b2.1.2.2.1 b2.1.2.2.2.2.2.1 b2.1.2.2.2.2.2.2.1 b2.1.2.2.2.2.2.2.2.2.1 b2.1.2.2.2.2.2.2.2.2.2.1 b2.1.2.2.2.2.2.2.2.2.2.2 b2.2.1.2.2.1 b2.2.1.2.2.2 b2.2.2.1 b2.1.2.2.2.1 b2.1.2.2.2.2.1 b2.1.2.2.2.2.2.2.2.1 b2.2.1.1 b2.2.1.2.1.1 b2.2.1.2.1.2 b2.2.2.2 49999 y3 []
def perft_Divide.s0 (N : Nat) (r_ : (ByteArray × (Int × (Int × ((List (Int × (Int × (Int × (List (Int × (Int × (Int × Int)))))))) × ((List Int) × (Bool × (Bool × ((List (Int × (Int × (Int × Bool)))) × (Int × (Int × Int))))))))))) (p_ : ((List Int) × (((List Int) × (List Int)) × (Int × Int)))) (depth : Int) (r0 : Int → Int → ByteArray → Int → Int → Bool → Bool → Int → Int → Int → Int → Int → Int → (List (Int × (Int × (Int × (List (Int × (Int × (Int × Int)))))))) → (List Int) → (List (Int × (Int × (Int × Bool)))) → (List Int) → (List Int) → (List Int) → (List ((Int × (Int × Int)) × (Int × (Int × (Bool × (Int × Int)))))) → Int → (List (Int × (Int × Int))) → (List ((Int × (Int × Int)) × Int)) → Option ((List ((Int × (Int × Int)) × Int)) × Int)) (t30_ : Int) (t31_ : Int) (b_ : ByteArray) (b_2 : Int) (b_3 : Int) (b_4 : Bool) (b_5 : Bool) (b_6 : Int) (b_7 : Int) (b_8 : Int) (b_9 : Int) (b_10 : Int) (b_11 : Int) (m3_ : (List (Int × (Int × (Int × (List (Int × (Int × (Int × Int))))))))) (m4_ : (List Int)) (m5_ : (List (Int × (Int × (Int × Bool))))) (m6_ : (List Int)) (m7_ : (List Int)) (m8_ : (List Int)) (m9_ : (List ((Int × (Int × Int)) × (Int × (Int × (Bool × (Int × Int))))))) (c_ : Int) (m11_ : (List (Int × (Int × Int)))) (out : (List ((Int × (Int × Int)) × Int))) : Option ((List ((Int × (Int × Int)) × Int)) × Int) :=
  bif (ltI t31_ t30_) then (chk ((leI 0 t31_) && (ltI t31_ (m11_.length : Int))) <|
    (board_Board_Make' N ((b_, (b_2, (b_3, (m3_, (m4_, (b_4, (b_5, (m5_, (b_6, (b_7, b_8)))))))))), ((m6_, ((m7_, m8_), (b_9, b_10))), (b_11, m9_))) (gD ((0 : Int), ((0 : Int), (0 : Int))) m11_ t31_)).bind fun y4 =>
    bothK ((perft_counter_count'' N c_ y4 (w64 (depth - 1))).bind fun y5 =>
      let v6 : List ((Int × (Int × Int)) × Int) := [((gD ((0 : Int), ((0 : Int), (0 : Int))) m11_ t31_), y5.1)]
      chk (capOk 32 (out.length + v6.length)) <|
      (board_Board_Undo' N y5.2.2).bind fun y7 =>
      bif (ltI y5.2.1 0) then (some ([], 17))
      else r0 t30_ (w64 (t31_ + 1)) y7.2.1.1 y7.2.1.2.1 y7.2.1.2.2.1 y7.2.1.2.2.2.2.2.1 y7.2.1.2.2.2.2.2.2.1 y7.2.1.2.2.2.2.2.2.2.2.1 y7.2.1.2.2.2.2.2.2.2.2.2.1 y7.2.1.2.2.2.2.2.2.2.2.2.2 y7.2.2.1.2.2.1 y7.2.2.1.2.2.2 y7.2.2.2.1 y7.2.1.2.2.2.1 y7.2.1.2.2.2.2.1 y7.2.1.2.2.2.2.2.2.2.1 y7.2.2.1.1 y7.2.2.1.2.1.1 y7.2.2.1.2.1.2 y7.2.2.2.2 y5.2.1 m11_ (out ++ v6)) ((perft_counter_count'' N c_ y4 (w64 (depth - 1))).bind fun y8 =>
      let v9 : List ((Int × (Int × Int)) × Int) := [((gD ((0 : Int), ((0 : Int), (0 : Int))) m11_ t31_), y8.1)]
      chk (capOk 32 (out.length + v9.length)) <|
      (board_Board_Undo' N y8.2.2).bind fun y10 =>
      bif (ltI y8.2.1 0) then (some ([], 17))
      else r0 t30_ (w64 (t31_ + 1)) y10.2.1.1 y10.2.1.2.1 y10.2.1.2.2.1 y10.2.1.2.2.2.2.2.1 y10.2.1.2.2.2.2.2.2.1 y10.2.1.2.2.2.2.2.2.2.2.1 y10.2.1.2.2.2.2.2.2.2.2.2.1 y10.2.1.2.2.2.2.2.2.2.2.2.2 y10.2.2.1.2.2.1 y10.2.2.1.2.2.2 y10.2.2.2.1 y10.2.1.2.2.2.1 y10.2.1.2.2.2.2.1 y10.2.1.2.2.2.2.2.2.2.1 y10.2.2.1.1 y10.2.2.1.2.1.1 y10.2.2.1.2.1.2 y10.2.2.2.2 y8.2.1 m11_ (out ++ v9)))
  else some (out, 0)
def perft_Divide.L (N : Nat) (r_ : (ByteArray × (Int × (Int × ((List (Int × (Int × (Int × (List (Int × (Int × (Int × Int)))))))) × ((List Int) × (Bool × (Bool × ((List (Int × (Int × (Int × Bool)))) × (Int × (Int × Int))))))))))) (p_ : ((List Int) × (((List Int) × (List Int)) × (Int × Int)))) (depth : Int) : Nat → (Int → Int → ByteArray → Int → Int → Bool → Bool → Int → Int → Int → Int → Int → Int → (List (Int × (Int × (Int × (List (Int × (Int × (Int × Int)))))))) → (List Int) → (List (Int × (Int × (Int × Bool)))) → (List Int) → (List Int) → (List Int) → (List ((Int × (Int × Int)) × (Int × (Int × (Bool × (Int × Int)))))) → Int → (List (Int × (Int × Int))) → (List ((Int × (Int × Int)) × Int)) → Option ((List ((Int × (Int × Int)) × Int)) × Int))
  | 0 => fun _ _ _ _ _ _ _ _ _ _ _ _ _ _ _ _ _ _ _ _ _ _ _ => none
  | n + 1 => fun t30_ t31_ b_ b_2 b_3 b_4 b_5 b_6 b_7 b_8 b_9 b_10 b_11 m3_ m4_ m5_ m6_ m7_ m8_ m9_ c_ m11_ out => perft_Divide.s0 N r_ p_ depth (perft_Divide.L N r_ p_ depth n) t30_ t31_ b_ b_2 b_3 b_4 b_5 b_6 b_7 b_8 b_9 b_10 b_11 m3_ m4_ m5_ m6_ m7_ m8_ m9_ c_ m11_ out
def perft_Divide.l0 (N : Nat) (r_ : (ByteArray × (Int × (Int × ((List (Int × (Int × (Int × (List (Int × (Int × (Int × Int)))))))) × ((List Int) × (Bool × (Bool × ((List (Int × (Int × (Int × Bool)))) × (Int × (Int × Int))))))))))) (p_ : ((List Int) × (((List Int) × (List Int)) × (Int × Int)))) (depth : Int) (n : Nat) : Int → Int → ByteArray → Int → Int → Bool → Bool → Int → Int → Int → Int → Int → Int → (List (Int × (Int × (Int × (List (Int × (Int × (Int × Int)))))))) → (List Int) → (List (Int × (Int × (Int × Bool)))) → (List Int) → (List Int) → (List Int) → (List ((Int × (Int × Int)) × (Int × (Int × (Bool × (Int × Int)))))) → Int → (List (Int × (Int × Int))) → (List ((Int × (Int × Int)) × Int)) → Option ((List ((Int × (Int × Int)) × Int)) × Int) := (perft_Divide.L N r_ p_ depth n)
theorem perft_Divide.l0_s (N : Nat) (r_ : (ByteArray × (Int × (Int × ((List (Int × (Int × (Int × (List (Int × (Int × (Int × Int)))))))) × ((List Int) × (Bool × (Bool × ((List (Int × (Int × (Int × Bool)))) × (Int × (Int × Int))))))))))) (p_ : ((List Int) × (((List Int) × (List Int)) × (Int × Int)))) (depth : Int) (n : Nat) (t30_ : Int) (t31_ : Int) (b_ : ByteArray) (b_2 : Int) (b_3 : Int) (b_4 : Bool) (b_5 : Bool) (b_6 : Int) (b_7 : Int) (b_8 : Int) (b_9 : Int) (b_10 : Int) (b_11 : Int) (m3_ : (List (Int × (Int × (Int × (List (Int × (Int × (Int × Int))))))))) (m4_ : (List Int)) (m5_ : (List (Int × (Int × (Int × Bool))))) (m6_ : (List Int)) (m7_ : (List Int)) (m8_ : (List Int)) (m9_ : (List ((Int × (Int × Int)) × (Int × (Int × (Bool × (Int × Int))))))) (c_ : Int) (m11_ : (List (Int × (Int × Int)))) (out : (List ((Int × (Int × Int)) × Int))) : perft_Divide.l0 N r_ p_ depth (n + 1) t30_ t31_ b_ b_2 b_3 b_4 b_5 b_6 b_7 b_8 b_9 b_10 b_11 m3_ m4_ m5_ m6_ m7_ m8_ m9_ c_ m11_ out = perft_Divide.s0 N r_ p_ depth (perft_Divide.l0 N r_ p_ depth n) t30_ t31_ b_ b_2 b_3 b_4 b_5 b_6 b_7 b_8 b_9 b_10 b_11 m3_ m4_ m5_ m6_ m7_ m8_ m9_ c_ m11_ out := rfl
def perft_Divide (N : Nat) (r_ : (ByteArray × (Int × (Int × ((List (Int × (Int × (Int × (List (Int × (Int × (Int × Int)))))))) × ((List Int) × (Bool × (Bool × ((List (Int × (Int × (Int × Bool)))) × (Int × (Int × Int))))))))))) (p_ : ((List Int) × (((List Int) × (List Int)) × (Int × Int)))) (depth : Int) : Option ((List ((Int × (Int × Int)) × Int)) × Int) := perft_Divide.e N (perft_Divide.l0 N r_ p_ depth N) r_ p_ depth
/-! ### f32: gamehall/gamehallkeep1.put -/
def gamehallkeep1_put.e (N : Nat) (s_ : Int) : Option (Int × (Int × Int)) :=
  some ((-1), (s_, 0))
def gamehallkeep1_put (N : Nat) (s_ : Int) : Option (Int × (Int × Int)) := gamehallkeep1_put.e N s_
/-! ### f36: gamehall/perft.Count -/
def perft_Count.e (N : Nat) (r_ : (ByteArray × (Int × (Int × ((List (Int × (Int × (Int × (List (Int × (Int × (Int × Int)))))))) × ((List Int) × (Bool × (Bool × ((List (Int × (Int × (Int × Bool)))) × (Int × (Int × Int))))))))))) (p_ : ((List Int) × (((List Int) × (List Int)) × (Int × Int)))) (depth : Int) : Option (Int × Int) :=
  (perft_check N r_ p_ depth).bind fun y1 =>
  oCase y1.1 (bif (!(eqI y1.2 0)) then (some (0, y1.2))
    else none) fun b2 =>
  bif (!(eqI y1.2 0)) then (some (0, y1.2))
  else (perft_counter_count'' N 50000 b2 depth).bind fun y3 =>
  bif (ltI y3.2.1 0) then (some (0, 17))
  else some (y3.1, 0)
def perft_Count (N : Nat) (r_ : (ByteArray × (Int × (Int × ((List (Int × (Int × (Int × (List (Int × (Int × (Int × Int)))))))) × ((List Int) × (Bool × (Bool × ((List (Int × (Int × (Int × Bool)))) × (Int × (Int × Int))))))))))) (p_ : ((List Int) × (((List Int) × (List Int)) × (Int × Int)))) (depth : Int) : Option (Int × Int) := perft_Count.e N r_ p_ depth
/-! ### f35: gamehall/perft.Tree -/
def perft_Tree.e (N : Nat) (r_ : (ByteArray × (Int × (Int × ((List (Int × (Int × (Int × (List (Int × (Int × (Int × Int)))))))) × ((List Int) × (Bool × (Bool × ((List (Int × (Int × (Int × Bool)))) × (Int × (Int × Int))))))))))) (p_ : ((List Int) × (((List Int) × (List Int)) × (Int × Int)))) (depth : Int) : Option (Int × Int) :=
  (perft_check N r_ p_ depth).bind fun y1 =>
  oCase y1.1 (bif (!(eqI y1.2 0)) then (some (0, y1.2))
    else none) fun b2 =>
  bif (!(eqI y1.2 0)) then (some (0, y1.2))
  else (perft_counter_count'' N 50000 b2 depth).bind fun y3 =>
  bif (ltI y3.2.1 0) then (some (0, 17))
  else some ((w64 (50000 - y3.2.1)), 0)
def perft_Tree (N : Nat) (r_ : (ByteArray × (Int × (Int × ((List (Int × (Int × (Int × (List (Int × (Int × (Int × Int)))))))) × ((List Int) × (Bool × (Bool × ((List (Int × (Int × (Int × Bool)))) × (Int × (Int × Int))))))))))) (p_ : ((List Int) × (((List Int) × (List Int)) × (Int × Int)))) (depth : Int) : Option (Int × Int) := perft_Tree.e N r_ p_ depth
/-! ### f72: gamehall/gamehallkeep1.fine$1 -/
def gamehallkeep1_fine_1.e (N : Nat) (e_ : Int) : Option Bool :=
  some (!(eqI e_ 0))
def gamehallkeep1_fine_1 (N : Nat) (e_ : Int) : Option Bool := gamehallkeep1_fine_1.e N e_
/-! ### f99: slices.IndexFunc[[]gamehall/api.Errno,gamehall/api.Errno] -/
def slices_IndexFunc_api_Errno_api_Errno.e (N : Nat) (r0 : Int → Option Int) (s_ : (List Int)) : Option Int :=
  r0 0
def slices_IndexFunc_api_Errno_api_Errno.s0 (N : Nat) (s_ : (List Int)) (r0 : Int → Option Int) (t8_ : Int) : Option Int :=
  bif (ltI t8_ (s_.length : Int)) then (chk ((leI 0 t8_) && (ltI t8_ (s_.length : Int))) <|
    (gamehallkeep1_fine_1 N (gD (0 : Int) s_ t8_)).bind fun y2 =>
    bif y2 then some t8_
    else r0 (w64 (t8_ + 1)))
  else some (-1)
def slices_IndexFunc_api_Errno_api_Errno.L (N : Nat) (s_ : (List Int)) : Nat → (Int → Option Int)
  | 0 => fun _ => none
  | n + 1 => fun t8_ => slices_IndexFunc_api_Errno_api_Errno.s0 N s_ (slices_IndexFunc_api_Errno_api_Errno.L N s_ n) t8_
def slices_IndexFunc_api_Errno_api_Errno.l0 (N : Nat) (s_ : (List Int)) (n : Nat) : Int → Option Int := (slices_IndexFunc_api_Errno_api_Errno.L N s_ n)
theorem slices_IndexFunc_api_Errno_api_Errno.l0_s (N : Nat) (s_ : (List Int)) (n : Nat) (t8_ : Int) : slices_IndexFunc_api_Errno_api_Errno.l0 N s_ (n + 1) t8_ = slices_IndexFunc_api_Errno_api_Errno.s0 N s_ (slices_IndexFunc_api_Errno_api_Errno.l0 N s_ n) t8_ := rfl
def slices_IndexFunc_api_Errno_api_Errno (N : Nat) (s_ : (List Int)) : Option Int := slices_IndexFunc_api_Errno_api_Errno.e N (slices_IndexFunc_api_Errno_api_Errno.l0 N s_ N) s_
/-! ### f71: slices.ContainsFunc[[]gamehall/api.Errno,gamehall/api.Errno] -/
def slices_ContainsFunc_api_Errno_api_Errno.e (N : Nat) (s_ : (List Int)) : Option Bool :=
  (slices_IndexFunc_api_Errno_api_Errno N s_).bind fun y1 =>
  some (leI 0 y1)
def slices_ContainsFunc_api_Errno_api_Errno (N : Nat) (s_ : (List Int)) : Option Bool := slices_ContainsFunc_api_Errno_api_Errno.e N s_
/-! ### f37: gamehall/gamehallkeep1.fine -/
def gamehallkeep1_fine.e (N : Nat) (l_ : (List Int)) : Option Bool :=
  (slices_ContainsFunc_api_Errno_api_Errno N l_).bind fun y1 =>
  some (!y1)
def gamehallkeep1_fine (N : Nat) (l_ : (List Int)) : Option Bool := gamehallkeep1_fine.e N l_
/-! ### f33: gamehall/gamehallkeep1.counted -/
def gamehallkeep1_counted.e (N : Nat) : Option Bool :=
  (gamehallkeep1_three N).bind fun y1 =>
  (gamehallkeep1_near N).bind fun y2 =>
  (perft_Count N y1 y2 2).bind fun y3 =>
  (gamehallkeep1_three N).bind fun y4 =>
  (gamehallkeep1_near N).bind fun y5 =>
  (perft_Tree N y4 y5 2).bind fun y6 =>
  (gamehallkeep1_fine N [y3.2, y6.2]).bind fun y7 =>
  bif y7 then (bif (eqI y3.1 16) then (some (eqI y6.1 22))
    else some false)
  else some false
def gamehallkeep1_counted (N : Nat) : Option Bool := gamehallkeep1_counted.e N
/-! ### f34: gamehall/gamehallkeep1.heavy -/
def gamehallkeep1_heavy.e (N : Nat) (r_ : (ByteArray × (Int × (Int × ((List (Int × (Int × (Int × (List (Int × (Int × (Int × Int)))))))) × ((List Int) × (Bool × (Bool × ((List (Int × (Int × (Int × Bool)))) × (Int × (Int × Int))))))))))) (p_ : ((List Int) × (((List Int) × (List Int)) × (Int × Int)))) (depth : Int) : Option Bool :=
  (perft_Tree N r_ p_ depth).bind fun y1 =>
  bif (eqI y1.2 17) then some true
  else bif (ltI 3000 y1.1) then some true
  else some (ltI 20 (p_.1.length : Int))
def gamehallkeep1_heavy (N : Nat) (r_ : (ByteArray × (Int × (Int × ((List (Int × (Int × (Int × (List (Int × (Int × (Int × Int)))))))) × ((List Int) × (Bool × (Bool × ((List (Int × (Int × (Int × Bool)))) × (Int × (Int × Int))))))))))) (p_ : ((List Int) × (((List Int) × (List Int)) × (Int × Int)))) (depth : Int) : Option Bool := gamehallkeep1_heavy.e N r_ p_ depth
/-! ### f5: gamehall/gamehallkeep1.PerftParts -/
def gamehallkeep1_PerftParts.e (N : Nat) (r0 : Int → Int → Int → Int → Int → (List ((Int × (Int × Int)) × Int)) → Option Bool) (r1 : Int → Int → Int → Int → Int → Option Bool) (r_ : (ByteArray × (Int × (Int × ((List (Int × (Int × (Int × (List (Int × (Int × (Int × Int)))))))) × ((List Int) × (Bool × (Bool × ((List (Int × (Int × (Int × Bool)))) × (Int × (Int × Int))))))))))) (p_ : ((List Int) × (((List Int) × (List Int)) × (Int × Int)))) (depth : Int) : Option Bool :=
  (gamehallkeep1_three N).bind fun y1 =>
  (gamehallkeep1_near N).bind fun y2 =>
  (perft_Divide N y1 y2 1).bind fun y3 =>
  bif (!(eqI y3.2 0)) then some false
  else bif (!(eqI (y3.1.length : Int) 5)) then some false
  else chk (true && (ltI 0 (y3.1.length : Int))) <|
  (gamehallkeep1_put N 2).bind fun y5 =>
  bif (!((eqI (gD (((0 : Int), ((0 : Int), (0 : Int))), (0 : Int)) y3.1 0).1.1 y5.1) && ((eqI (gD (((0 : Int), ((0 : Int), (0 : Int))), (0 : Int)) y3.1 0).1.2.1 y5.2.1) && ((eqI (gD (((0 : Int), ((0 : Int), (0 : Int))), (0 : Int)) y3.1 0).1.2.2 y5.2.2) && true)))) then some false
  else (gamehallkeep1_counted N).bind fun y7 =>
  bif (!y7) then some false
  else (gamehallkeep1_heavy N r_ p_ depth).bind fun y8 =>
  bif y8 then some true
  else (perft_Tree N r_ p_ depth).bind fun y9 =>
  (perft_Divide N r_ p_ depth).bind fun y10 =>
  (perft_Count N r_ p_ depth).bind fun y11 =>
  (gamehallkeep1_fine N [y9.2, y10.2, y11.2]).bind fun y12 =>
  bif (!y12) then (bif (!(eqI y9.2 0)) then (bif (eqI y9.1 0) then (bif (eqI (y10.1.length : Int) 0) then (bif (eqI y11.1 0) then some true
          else bif (eqI depth 0) then (bif (eqI y10.2 1) then (bif (eqI y9.1 1) then (some (eqI y11.1 1))
              else some false)
            else some false)
          else some false)
        else bif (eqI depth 0) then (bif (eqI y10.2 1) then (bif (eqI y9.1 1) then (some (eqI y11.1 1))
            else some false)
          else some false)
        else some false)
      else bif (eqI depth 0) then (bif (eqI y10.2 1) then (bif (eqI y9.1 1) then (some (eqI y11.1 1))
          else some false)
        else some false)
      else some false)
    else bif (eqI depth 0) then (bif (eqI y10.2 1) then (bif (eqI y9.1 1) then (some (eqI y11.1 1))
        else some false)
      else some false)
    else some false)
  else r0 y9.1 y11.1 0 (y10.1.length : Int) 0 y10.1
def gamehallkeep1_PerftParts.s0 (N : Nat) (r_ : (ByteArray × (Int × (Int × ((List (Int × (Int × (Int × (List (Int × (Int × (Int × Int)))))))) × ((List Int) × (Bool × (Bool × ((List (Int × (Int × (Int × Bool)))) × (Int × (Int × Int))))))))))) (p_ : ((List Int) × (((List Int) × (List Int)) × (Int × Int)))) (depth : Int) (r0 : Int → Int → Int → Int → Int → (List ((Int × (Int × Int)) × Int)) → Option Bool) (r1 : Int → Int → Int → Int → Int → Option Bool) (t_ : Int) (n_ : Int) (sum : Int) (t110_ : Int) (t111_ : Int) (m9_ : (List ((Int × (Int × Int)) × Int))) : Option Bool :=
  bif (ltI t111_ t110_) then (chk ((leI 0 t111_) && (ltI t111_ (m9_.length : Int))) <|
    r0 t_ n_ (w64 (sum + (gD (((0 : Int), ((0 : Int), (0 : Int))), (0 : Int)) m9_ t111_).2)) t110_ (w64 (t111_ + 1)) m9_)
  else r1 t_ n_ sum 0 0
def gamehallkeep1_PerftParts.s1 (N : Nat) (r_ : (ByteArray × (Int × (Int × ((List (Int × (Int × (Int × (List (Int × (Int × (Int × Int)))))))) × ((List Int) × (Bool × (Bool × ((List (Int × (Int × (Int × Bool)))) × (Int × (Int × Int))))))))))) (p_ : ((List Int) × (((List Int) × (List Int)) × (Int × Int)))) (depth : Int) (r0 : Int → Int → Int → Int → Int → (List ((Int × (Int × Int)) × Int)) → Option Bool) (r1 : Int → Int → Int → Int → Int → Option Bool) (t_ : Int) (n_ : Int) (sum : Int) (all : Int) (t122_ : Int) : Option Bool :=
  bif (ltI t122_ (w64 (depth + 1))) then ((perft_Count N r_ p_ t122_).bind fun y16 =>
    bif (!(eqI y16.2 0)) then some false
    else r1 t_ n_ sum (w64 (all + y16.1)) (w64 (t122_ + 1)))
  else bif (eqI sum n_) then (some (eqI all t_))
  else some false
def gamehallkeep1_PerftParts.L (N : Nat) (r_ : (ByteArray × (Int × (Int × ((List (Int × (Int × (Int × (List (Int × (Int × (Int × Int)))))))) × ((List Int) × (Bool × (Bool × ((List (Int × (Int × (Int × Bool)))) × (Int × (Int × Int))))))))))) (p_ : ((List Int) × (((List Int) × (List Int)) × (Int × Int)))) (depth : Int) : Nat → (Int → Int → Int → Int → Int → (List ((Int × (Int × Int)) × Int)) → Option Bool) × (Int → Int → Int → Int → Int → Option Bool)
  | 0 => (fun _ _ _ _ _ _ => none, fun _ _ _ _ _ => none)
  | n + 1 => (fun t_ n_ sum t110_ t111_ m9_ => gamehallkeep1_PerftParts.s0 N r_ p_ depth (gamehallkeep1_PerftParts.L N r_ p_ depth n).1 (gamehallkeep1_PerftParts.L N r_ p_ depth n).2 t_ n_ sum t110_ t111_ m9_, fun t_ n_ sum all t122_ => gamehallkeep1_PerftParts.s1 N r_ p_ depth (gamehallkeep1_PerftParts.L N r_ p_ depth n).1 (gamehallkeep1_PerftParts.L N r_ p_ depth n).2 t_ n_ sum all t122_)
def gamehallkeep1_PerftParts.l0 (N : Nat) (r_ : (ByteArray × (Int × (Int × ((List (Int × (Int × (Int × (List (Int × (Int × (Int × Int)))))))) × ((List Int) × (Bool × (Bool × ((List (Int × (Int × (Int × Bool)))) × (Int × (Int × Int))))))))))) (p_ : ((List Int) × (((List Int) × (List Int)) × (Int × Int)))) (depth : Int) (n : Nat) : Int → Int → Int → Int → Int → (List ((Int × (Int × Int)) × Int)) → Option Bool := (gamehallkeep1_PerftParts.L N r_ p_ depth n).1
def gamehallkeep1_PerftParts.l1 (N : Nat) (r_ : (ByteArray × (Int × (Int × ((List (Int × (Int × (Int × (List (Int × (Int × (Int × Int)))))))) × ((List Int) × (Bool × (Bool × ((List (Int × (Int × (Int × Bool)))) × (Int × (Int × Int))))))))))) (p_ : ((List Int) × (((List Int) × (List Int)) × (Int × Int)))) (depth : Int) (n : Nat) : Int → Int → Int → Int → Int → Option Bool := (gamehallkeep1_PerftParts.L N r_ p_ depth n).2
theorem gamehallkeep1_PerftParts.l0_s (N : Nat) (r_ : (ByteArray × (Int × (Int × ((List (Int × (Int × (Int × (List (Int × (Int × (Int × Int)))))))) × ((List Int) × (Bool × (Bool × ((List (Int × (Int × (Int × Bool)))) × (Int × (Int × Int))))))))))) (p_ : ((List Int) × (((List Int) × (List Int)) × (Int × Int)))) (depth : Int) (n : Nat) (t_ : Int) (n_ : Int) (sum : Int) (t110_ : Int) (t111_ : Int) (m9_ : (List ((Int × (Int × Int)) × Int))) : gamehallkeep1_PerftParts.l0 N r_ p_ depth (n + 1) t_ n_ sum t110_ t111_ m9_ = gamehallkeep1_PerftParts.s0 N r_ p_ depth (gamehallkeep1_PerftParts.l0 N r_ p_ depth n) (gamehallkeep1_PerftParts.l1 N r_ p_ depth n) t_ n_ sum t110_ t111_ m9_ := rfl
theorem gamehallkeep1_PerftParts.l1_s (N : Nat) (r_ : (ByteArray × (Int × (Int × ((List (Int × (Int × (Int × (List (Int × (Int × (Int × Int)))))))) × ((List Int) × (Bool × (Bool × ((List (Int × (Int × (Int × Bool)))) × (Int × (Int × Int))))))))))) (p_ : ((List Int) × (((List Int) × (List Int)) × (Int × Int)))) (depth : Int) (n : Nat) (t_ : Int) (n_ : Int) (sum : Int) (all : Int) (t122_ : Int) : gamehallkeep1_PerftParts.l1 N r_ p_ depth (n + 1) t_ n_ sum all t122_ = gamehallkeep1_PerftParts.s1 N r_ p_ depth (gamehallkeep1_PerftParts.l0 N r_ p_ depth n) (gamehallkeep1_PerftParts.l1 N r_ p_ depth n) t_ n_ sum all t122_ := rfl
def gamehallkeep1_PerftParts (N : Nat) (r_ : (ByteArray × (Int × (Int × ((List (Int × (Int × (Int × (List (Int × (Int × (Int × Int)))))))) × ((List Int) × (Bool × (Bool × ((List (Int × (Int × (Int × Bool)))) × (Int × (Int × Int))))))))))) (p_ : ((List Int) × (((List Int) × (List Int)) × (Int × Int)))) (depth : Int) : Option Bool := gamehallkeep1_PerftParts.e N (gamehallkeep1_PerftParts.l0 N r_ p_ depth N) (gamehallkeep1_PerftParts.l1 N r_ p_ depth N) r_ p_ depth
/-! ### f87: gamehall/place.Fresh -/
def place_Fresh.e (N : Nat) (r0 : Int → (List Int) → (List Int) → (List Int) → Option ((List Int) × (((List Int) × (List Int)) × (Int × Int)))) (r1 : Int → Int → Int → Int → (List Int) → (List Int) → (List Int) → Option ((List Int) × (((List Int) × (List Int)) × (Int × Int)))) (r_ : (ByteArray × (Int × (Int × ((List (Int × (Int × (Int × (List (Int × (Int × (Int × Int)))))))) × ((List Int) × (Bool × (Bool × ((List (Int × (Int × (Int × Bool)))) × (Int × (Int × Int))))))))))) : Option ((List Int) × (((List Int) × (List Int)) × (Int × Int))) :=
  (slices_Clone_int_int N r_.2.2.2.2.1).bind fun y1 =>
  r0 0 y1 [] []
def place_Fresh.s0 (N : Nat) (r_ : (ByteArray × (Int × (Int × ((List (Int × (Int × (Int × (List (Int × (Int × (Int × Int)))))))) × ((List Int) × (Bool × (Bool × ((List (Int × (Int × (Int × Bool)))) × (Int × (Int × Int))))))))))) (r0 : Int → (List Int) → (List Int) → (List Int) → Option ((List Int) × (((List Int) × (List Int)) × (Int × Int)))) (r1 : Int → Int → Int → Int → (List Int) → (List Int) → (List Int) → Option ((List Int) × (((List Int) × (List Int)) × (Int × Int)))) (t11_ : Int) (m2_ : (List Int)) (m4_ : (List Int)) (m5_ : (List Int)) : Option ((List Int) × (((List Int) × (List Int)) × (Int × Int))) :=
  bif (ltI t11_ 2) then (r1 t11_ t11_ (r_.2.2.2.1.length : Int) 0 m2_ m4_ m5_)
  else some (m2_, ((m4_, m5_), (0, 0)))
def place_Fresh.s1 (N : Nat) (r_ : (ByteArray × (Int × (Int × ((List (Int × (Int × (Int × (List (Int × (Int × (Int × Int)))))))) × ((List Int) × (Bool × (Bool × ((List (Int × (Int × (Int × Bool)))) × (Int × (Int × Int))))))))))) (r0 : Int → (List Int) → (List Int) → (List Int) → Option ((List Int) × (((List Int) × (List Int)) × (Int × Int)))) (r1 : Int → Int → Int → Int → (List Int) → (List Int) → (List Int) → Option ((List Int) × (((List Int) × (List Int)) × (Int × Int)))) (o_ : Int) (t11_ : Int) (t16_ : Int) (t17_ : Int) (m2_ : (List Int)) (m4_ : (List Int)) (m5_ : (List Int)) : Option ((List Int) × (((List Int) × (List Int)) × (Int × Int))) :=
  bif (ltI t17_ t16_) then (chk ((leI 0 t17_) && (ltI t17_ (r_.2.2.2.1.length : Int))) <|
    bif (eqI o_ 0) then (let v3 : List Int := [(gD ((0 : Int), ((0 : Int), ((0 : Int), ([] : (List (Int × (Int × (Int × Int)))))))) r_.2.2.2.1 t17_).2.1]
      chk (capOk 8 (m4_.length + v3.length)) <|
      r1 0 t11_ t16_ (w64 (t17_ + 1)) m2_ (m4_ ++ v3) m5_)
    else bif (eqI o_ 1) then (let v4 : List Int := [(gD ((0 : Int), ((0 : Int), ((0 : Int), ([] : (List (Int × (Int × (Int × Int)))))))) r_.2.2.2.1 t17_).2.1]
      chk (capOk 8 (m5_.length + v4.length)) <|
      r1 1 t11_ t16_ (w64 (t17_ + 1)) m2_ m4_ (m5_ ++ v4))
    else none)
  else r0 (w64 (t11_ + 1)) m2_ m4_ m5_
def place_Fresh.L (N : Nat) (r_ : (ByteArray × (Int × (Int × ((List (Int × (Int × (Int × (List (Int × (Int × (Int × Int)))))))) × ((List Int) × (Bool × (Bool × ((List (Int × (Int × (Int × Bool)))) × (Int × (Int × Int))))))))))) : Nat → (Int → (List Int) → (List Int) → (List Int) → Option ((List Int) × (((List Int) × (List Int)) × (Int × Int)))) × (Int → Int → Int → Int → (List Int) → (List Int) → (List Int) → Option ((List Int) × (((List Int) × (List Int)) × (Int × Int))))
  | 0 => (fun _ _ _ _ => none, fun _ _ _ _ _ _ _ => none)
  | n + 1 => (fun t11_ m2_ m4_ m5_ => place_Fresh.s0 N r_ (place_Fresh.L N r_ n).1 (place_Fresh.L N r_ n).2 t11_ m2_ m4_ m5_, fun o_ t11_ t16_ t17_ m2_ m4_ m5_ => place_Fresh.s1 N r_ (place_Fresh.L N r_ n).1 (place_Fresh.L N r_ n).2 o_ t11_ t16_ t17_ m2_ m4_ m5_)
def place_Fresh.l0 (N : Nat) (r_ : (ByteArray × (Int × (Int × ((List (Int × (Int × (Int × (List (Int × (Int × (Int × Int)))))))) × ((List Int) × (Bool × (Bool × ((List (Int × (Int × (Int × Bool)))) × (Int × (Int × Int))))))))))) (n : Nat) : Int → (List Int) → (List Int) → (List Int) → Option ((List Int) × (((List Int) × (List Int)) × (Int × Int))) := (place_Fresh.L N r_ n).1
def place_Fresh.l1 (N : Nat) (r_ : (ByteArray × (Int × (Int × ((List (Int × (Int × (Int × (List (Int × (Int × (Int × Int)))))))) × ((List Int) × (Bool × (Bool × ((List (Int × (Int × (Int × Bool)))) × (Int × (Int × Int))))))))))) (n : Nat) : Int → Int → Int → Int → (List Int) → (List Int) → (List Int) → Option ((List Int) × (((List Int) × (List Int)) × (Int × Int))) := (place_Fresh.L N r_ n).2
theorem place_Fresh.l0_s (N : Nat) (r_ : (ByteArray × (Int × (Int × ((List (Int × (Int × (Int × (List (Int × (Int × (Int × Int)))))))) × ((List Int) × (Bool × (Bool × ((List (Int × (Int × (Int × Bool)))) × (Int × (Int × Int))))))))))) (n : Nat) (t11_ : Int) (m2_ : (List Int)) (m4_ : (List Int)) (m5_ : (List Int)) : place_Fresh.l0 N r_ (n + 1) t11_ m2_ m4_ m5_ = place_Fresh.s0 N r_ (place_Fresh.l0 N r_ n) (place_Fresh.l1 N r_ n) t11_ m2_ m4_ m5_ := rfl
theorem place_Fresh.l1_s (N : Nat) (r_ : (ByteArray × (Int × (Int × ((List (Int × (Int × (Int × (List (Int × (Int × (Int × Int)))))))) × ((List Int) × (Bool × (Bool × ((List (Int × (Int × (Int × Bool)))) × (Int × (Int × Int))))))))))) (n : Nat) (o_ : Int) (t11_ : Int) (t16_ : Int) (t17_ : Int) (m2_ : (List Int)) (m4_ : (List Int)) (m5_ : (List Int)) : place_Fresh.l1 N r_ (n + 1) o_ t11_ t16_ t17_ m2_ m4_ m5_ = place_Fresh.s1 N r_ (place_Fresh.l0 N r_ n) (place_Fresh.l1 N r_ n) o_ t11_ t16_ t17_ m2_ m4_ m5_ := rfl
def place_Fresh (N : Nat) (r_ : (ByteArray × (Int × (Int × ((List (Int × (Int × (Int × (List (Int × (Int × (Int × Int)))))))) × ((List Int) × (Bool × (Bool × ((List (Int × (Int × (Int × Bool)))) × (Int × (Int × Int))))))))))) : Option ((List Int) × (((List Int) × (List Int)) × (Int × Int))) := place_Fresh.e N (place_Fresh.l0 N r_ N) (place_Fresh.l1 N r_ N) r_
/-! ### f58: gamehall/place.Begin -/
def place_Begin.e (N : Nat) (r_ : (ByteArray × (Int × (Int × ((List (Int × (Int × (Int × (List (Int × (Int × (Int × Int)))))))) × ((List Int) × (Bool × (Bool × ((List (Int × (Int × (Int × Bool)))) × (Int × (Int × Int))))))))))) : Option (((List Int) × (((List Int) × (List Int)) × (Int × Int))) × Int) :=
  (rules_Check N r_).bind fun y1 =>
  bif (!(eqI y1 0)) then (some (([], (([], []), (0, 0))), y1))
  else (place_Fresh N r_).bind fun y2 =>
  some (y2, 0)
def place_Begin (N : Nat) (r_ : (ByteArray × (Int × (Int × ((List (Int × (Int × (Int × (List (Int × (Int × (Int × Int)))))))) × ((List Int) × (Bool × (Bool × ((List (Int × (Int × (Int × Bool)))) × (Int × (Int × Int))))))))))) : Option (((List Int) × (((List Int) × (List Int)) × (Int × Int))) × Int) := place_Begin.e N r_
/-! ### f19: gamehall/moves.All -/
def moves_All.e (N : Nat) (r_ : (ByteArray × (Int × (Int × ((List (Int × (Int × (Int × (List (Int × (Int × (Int × Int)))))))) × ((List Int) × (Bool × (Bool × ((List (Int × (Int × (Int × Bool)))) × (Int × (Int × Int))))))))))) (p_ : ((List Int) × (((List Int) × (List Int)) × (Int × Int)))) : Option ((List (Int × (Int × Int))) × Int) :=
  (place_Check N r_ p_).bind fun y1 =>
  bif (!(eqI y1 0)) then (some ([], y1))
  else (moves_Gen N r_ p_).bind fun y2 =>
  some (y2, 0)
def moves_All (N : Nat) (r_ : (ByteArray × (Int × (Int × ((List (Int × (Int × (Int × (List (Int × (Int × (Int × Int)))))))) × ((List Int) × (Bool × (Bool × ((List (Int × (Int × (Int × Bool)))) × (Int × (Int × Int))))))))))) (p_ : ((List Int) × (((List Int) × (List Int)) × (Int × Int)))) : Option ((List (Int × (Int × Int))) × Int) := moves_All.e N r_ p_
/-! ### f104: slices.Index[[]gamehall/api.Move,gamehall/api.Move] -/
def slices_Index_api_Move_api_Move.e (N : Nat) (r0 : Int → Option Int) (s_ : (List (Int × (Int × Int)))) (v_ : (Int × (Int × Int))) : Option Int :=
  r0 0
def slices_Index_api_Move_api_Move.s0 (N : Nat) (s_ : (List (Int × (Int × Int)))) (v_ : (Int × (Int × Int))) (r0 : Int → Option Int) (t8_ : Int) : Option Int :=
  bif (ltI t8_ (s_.length : Int)) then (chk ((leI 0 t8_) && (ltI t8_ (s_.length : Int))) <|
    bif ((eqI v_.1 (gD ((0 : Int), ((0 : Int), (0 : Int))) s_ t8_).1) && ((eqI v_.2.1 (gD ((0 : Int), ((0 : Int), (0 : Int))) s_ t8_).2.1) && ((eqI v_.2.2 (gD ((0 : Int), ((0 : Int), (0 : Int))) s_ t8_).2.2) && true))) then some t8_
    else r0 (w64 (t8_ + 1)))
  else some (-1)
def slices_Index_api_Move_api_Move.L (N : Nat) (s_ : (List (Int × (Int × Int)))) (v_ : (Int × (Int × Int))) : Nat → (Int → Option Int)
  | 0 => fun _ => none
  | n + 1 => fun t8_ => slices_Index_api_Move_api_Move.s0 N s_ v_ (slices_Index_api_Move_api_Move.L N s_ v_ n) t8_
def slices_Index_api_Move_api_Move.l0 (N : Nat) (s_ : (List (Int × (Int × Int)))) (v_ : (Int × (Int × Int))) (n : Nat) : Int → Option Int := (slices_Index_api_Move_api_Move.L N s_ v_ n)
theorem slices_Index_api_Move_api_Move.l0_s (N : Nat) (s_ : (List (Int × (Int × Int)))) (v_ : (Int × (Int × Int))) (n : Nat) (t8_ : Int) : slices_Index_api_Move_api_Move.l0 N s_ v_ (n + 1) t8_ = slices_Index_api_Move_api_Move.s0 N s_ v_ (slices_Index_api_Move_api_Move.l0 N s_ v_ n) t8_ := rfl
def slices_Index_api_Move_api_Move (N : Nat) (s_ : (List (Int × (Int × Int)))) (v_ : (Int × (Int × Int))) : Option Int := slices_Index_api_Move_api_Move.e N (slices_Index_api_Move_api_Move.l0 N s_ v_ N) s_ v_
/-! ### f82: slices.Contains[[]gamehall/api.Move,gamehall/api.Move] -/
def slices_Contains_api_Move_api_Move.e (N : Nat) (s_ : (List (Int × (Int × Int)))) (v_ : (Int × (Int × Int))) : Option Bool :=
  (slices_Index_api_Move_api_Move N s_ v_).bind fun y1 =>
  some (leI 0 y1)
def slices_Contains_api_Move_api_Move (N : Nat) (s_ : (List (Int × (Int × Int)))) (v_ : (Int × (Int × Int))) : Option Bool := slices_Contains_api_Move_api_Move.e N s_ v_
/-! ### f59: gamehall/moves.Legal -/
def moves_Legal.e (N : Nat) (r_ : (ByteArray × (Int × (Int × ((List (Int × (Int × (Int × (List (Int × (Int × (Int × Int)))))))) × ((List Int) × (Bool × (Bool × ((List (Int × (Int × (Int × Bool)))) × (Int × (Int × Int))))))))))) (p_ : ((List Int) × (((List Int) × (List Int)) × (Int × Int)))) (m_ : (Int × (Int × Int))) : Option (Bool × Int) :=
  (place_Check N r_ p_).bind fun y1 =>
  bif (!(eqI y1 0)) then (some (false, y1))
  else (moves_Gen N r_ p_).bind fun y2 =>
  (slices_Contains_api_Move_api_Move N y2 m_).bind fun y3 =>
  some (y3, 0)
def moves_Legal (N : Nat) (r_ : (ByteArray × (Int × (Int × ((List (Int × (Int × (Int × (List (Int × (Int × (Int × Int)))))))) × ((List Int) × (Bool × (Bool × ((List (Int × (Int × (Int × Bool)))) × (Int × (Int × Int))))))))))) (p_ : ((List Int) × (((List Int) × (List Int)) × (Int × Int)))) (m_ : (Int × (Int × Int))) : Option (Bool × Int) := moves_Legal.e N r_ p_ m_
/-! ### f73: gamehall/moves.Do -/
def moves_Do.e (N : Nat) (r_ : (ByteArray × (Int × (Int × ((List (Int × (Int × (Int × (List (Int × (Int × (Int × Int)))))))) × ((List Int) × (Bool × (Bool × ((List (Int × (Int × (Int × Bool)))) × (Int × (Int × Int))))))))))) (p_ : ((List Int) × (((List Int) × (List Int)) × (Int × Int)))) (m_ : (Int × (Int × Int))) : Option ((List Int) × (((List Int) × (List Int)) × (Int × Int))) :=
  (place_Copy N p_).bind fun y1 =>
  bif (ltI m_.1 0) then (bif (eqI p_.2.2.1 0) then (chk ((leI 0 m_.2.2) && (ltI m_.2.2 (y1.2.1.1.length : Int))) <|
      chk ((leI 0 m_.2.2) && (ltI m_.2.2 (y1.2.1.1.length : Int))) <|
      let v4 : List Int := (y1.2.1.1.set m_.2.2.toNat (w64 ((gD (0 : Int) y1.2.1.1 m_.2.2) - 1)))
      chk ((leI 0 m_.2.1) && (ltI m_.2.1 (p_.1.length : Int))) <|
      bif (!(eqI (gD (0 : Int) p_.1 m_.2.1) 0)) then (bif (eqI p_.2.2.1 0) then (bif r_.2.2.2.2.2.2.1 then ((moves_Kind N (gD (0 : Int) p_.1 m_.2.1)).bind fun y6 =>
            (moves_Kind N (gD (0 : Int) p_.1 m_.2.1)).bind fun y7 =>
            chk ((leI 0 y7) && (ltI y7 (v4.length : Int))) <|
            let v8 : Int := (w64 ((gD (0 : Int) v4 y7) + 1))
            chk ((leI 0 y6) && (ltI y6 (v4.length : Int))) <|
            (moves_Cell N m_.2.2 p_.2.2.1).bind fun y10 =>
            chk ((leI 0 m_.2.1) && (ltI m_.2.1 (y1.1.length : Int))) <|
            some ((y1.1.set m_.2.1.toNat y10), (((v4.set y6.toNat (bif (ltI 1000 v8) then 1000 else v8)), y1.2.1.2), ((w64 (1 - p_.2.2.1)), 0))))
          else (moves_Cell N m_.2.2 p_.2.2.1).bind fun y12 =>
          chk ((leI 0 m_.2.1) && (ltI m_.2.1 (y1.1.length : Int))) <|
          some ((y1.1.set m_.2.1.toNat y12), ((v4, y1.2.1.2), ((w64 (1 - p_.2.2.1)), 0))))
        else bif (eqI p_.2.2.1 1) then (bif r_.2.2.2.2.2.2.1 then ((moves_Kind N (gD (0 : Int) p_.1 m_.2.1)).bind fun y14 =>
            (moves_Kind N (gD (0 : Int) p_.1 m_.2.1)).bind fun y15 =>
            chk ((leI 0 y15) && (ltI y15 (y1.2.1.2.length : Int))) <|
            let v16 : Int := (w64 ((gD (0 : Int) y1.2.1.2 y15) + 1))
            chk ((leI 0 y14) && (ltI y14 (y1.2.1.2.length : Int))) <|
            (moves_Cell N m_.2.2 p_.2.2.1).bind fun y19 =>
            chk ((leI 0 m_.2.1) && (ltI m_.2.1 (y1.1.length : Int))) <|
            some ((y1.1.set m_.2.1.toNat y19), ((v4, (y1.2.1.2.set y14.toNat (bif (ltI 1000 v16) then 1000 else v16))), ((w64 (1 - p_.2.2.1)), 0))))
          else (moves_Cell N m_.2.2 p_.2.2.1).bind fun y21 =>
          chk ((leI 0 m_.2.1) && (ltI m_.2.1 (y1.1.length : Int))) <|
          some ((y1.1.set m_.2.1.toNat y21), ((v4, y1.2.1.2), ((w64 (1 - p_.2.2.1)), 0))))
        else none)
      else (moves_Cell N m_.2.2 p_.2.2.1).bind fun y23 =>
      chk ((leI 0 m_.2.1) && (ltI m_.2.1 (y1.1.length : Int))) <|
      some ((y1.1.set m_.2.1.toNat y23), ((v4, y1.2.1.2), ((w64 (1 - p_.2.2.1)), 0))))
    else bif (eqI p_.2.2.1 1) then (chk ((leI 0 m_.2.2) && (ltI m_.2.2 (y1.2.1.2.length : Int))) <|
      chk ((leI 0 m_.2.2) && (ltI m_.2.2 (y1.2.1.2.length : Int))) <|
      let v26 : List Int := (y1.2.1.2.set m_.2.2.toNat (w64 ((gD (0 : Int) y1.2.1.2 m_.2.2) - 1)))
      chk ((leI 0 m_.2.1) && (ltI m_.2.1 (p_.1.length : Int))) <|
      bif (!(eqI (gD (0 : Int) p_.1 m_.2.1) 0)) then (bif (eqI p_.2.2.1 0) then (bif r_.2.2.2.2.2.2.1 then ((moves_Kind N (gD (0 : Int) p_.1 m_.2.1)).bind fun y28 =>
            (moves_Kind N (gD (0 : Int) p_.1 m_.2.1)).bind fun y29 =>
            chk ((leI 0 y29) && (ltI y29 (y1.2.1.1.length : Int))) <|
            let v30 : Int := (w64 ((gD (0 : Int) y1.2.1.1 y29) + 1))
            chk ((leI 0 y28) && (ltI y28 (y1.2.1.1.length : Int))) <|
            (moves_Cell N m_.2.2 p_.2.2.1).bind fun y33 =>
            chk ((leI 0 m_.2.1) && (ltI m_.2.1 (y1.1.length : Int))) <|
            some ((y1.1.set m_.2.1.toNat y33), (((y1.2.1.1.set y28.toNat (bif (ltI 1000 v30) then 1000 else v30)), v26), ((w64 (1 - p_.2.2.1)), 0))))
          else (moves_Cell N m_.2.2 p_.2.2.1).bind fun y35 =>
          chk ((leI 0 m_.2.1) && (ltI m_.2.1 (y1.1.length : Int))) <|
          some ((y1.1.set m_.2.1.toNat y35), ((y1.2.1.1, v26), ((w64 (1 - p_.2.2.1)), 0))))
        else bif (eqI p_.2.2.1 1) then (bif r_.2.2.2.2.2.2.1 then ((moves_Kind N (gD (0 : Int) p_.1 m_.2.1)).bind fun y37 =>
            (moves_Kind N (gD (0 : Int) p_.1 m_.2.1)).bind fun y38 =>
            chk ((leI 0 y38) && (ltI y38 (v26.length : Int))) <|
            let v39 : Int := (w64 ((gD (0 : Int) v26 y38) + 1))
            chk ((leI 0 y37) && (ltI y37 (v26.length : Int))) <|
            (moves_Cell N m_.2.2 p_.2.2.1).bind fun y41 =>
            chk ((leI 0 m_.2.1) && (ltI m_.2.1 (y1.1.length : Int))) <|
            some ((y1.1.set m_.2.1.toNat y41), ((y1.2.1.1, (v26.set y37.toNat (bif (ltI 1000 v39) then 1000 else v39))), ((w64 (1 - p_.2.2.1)), 0))))
          else (moves_Cell N m_.2.2 p_.2.2.1).bind fun y43 =>
          chk ((leI 0 m_.2.1) && (ltI m_.2.1 (y1.1.length : Int))) <|
          some ((y1.1.set m_.2.1.toNat y43), ((y1.2.1.1, v26), ((w64 (1 - p_.2.2.1)), 0))))
        else none)
      else (moves_Cell N m_.2.2 p_.2.2.1).bind fun y45 =>
      chk ((leI 0 m_.2.1) && (ltI m_.2.1 (y1.1.length : Int))) <|
      some ((y1.1.set m_.2.1.toNat y45), ((y1.2.1.1, v26), ((w64 (1 - p_.2.2.1)), 0))))
    else none)
  else chk ((leI 0 m_.1) && (ltI m_.1 (y1.1.length : Int))) <|
  chk ((leI 0 m_.2.1) && (ltI m_.2.1 (p_.1.length : Int))) <|
  bif (!(eqI (gD (0 : Int) p_.1 m_.2.1) 0)) then (bif (eqI p_.2.2.1 0) then (bif r_.2.2.2.2.2.2.1 then ((moves_Kind N (gD (0 : Int) p_.1 m_.2.1)).bind fun y48 =>
        (moves_Kind N (gD (0 : Int) p_.1 m_.2.1)).bind fun y49 =>
        chk ((leI 0 y49) && (ltI y49 (y1.2.1.1.length : Int))) <|
        let v50 : Int := (w64 ((gD (0 : Int) y1.2.1.1 y49) + 1))
        chk ((leI 0 y48) && (ltI y48 (y1.2.1.1.length : Int))) <|
        (moves_Cell N m_.2.2 p_.2.2.1).bind fun y53 =>
        chk ((leI 0 m_.2.1) && (ltI m_.2.1 ((y1.1.set m_.1.toNat 0).length : Int))) <|
        some (((y1.1.set m_.1.toNat 0).set m_.2.1.toNat y53), (((y1.2.1.1.set y48.toNat (bif (ltI 1000 v50) then 1000 else v50)), y1.2.1.2), ((w64 (1 - p_.2.2.1)), 0))))
      else (moves_Cell N m_.2.2 p_.2.2.1).bind fun y55 =>
      chk ((leI 0 m_.2.1) && (ltI m_.2.1 ((y1.1.set m_.1.toNat 0).length : Int))) <|
      some (((y1.1.set m_.1.toNat 0).set m_.2.1.toNat y55), (y1.2.1, ((w64 (1 - p_.2.2.1)), 0))))
    else bif (eqI p_.2.2.1 1) then (bif r_.2.2.2.2.2.2.1 then ((moves_Kind N (gD (0 : Int) p_.1 m_.2.1)).bind fun y57 =>
        (moves_Kind N (gD (0 : Int) p_.1 m_.2.1)).bind fun y58 =>
        chk ((leI 0 y58) && (ltI y58 (y1.2.1.2.length : Int))) <|
        let v59 : Int := (w64 ((gD (0 : Int) y1.2.1.2 y58) + 1))
        chk ((leI 0 y57) && (ltI y57 (y1.2.1.2.length : Int))) <|
        (moves_Cell N m_.2.2 p_.2.2.1).bind fun y62 =>
        chk ((leI 0 m_.2.1) && (ltI m_.2.1 ((y1.1.set m_.1.toNat 0).length : Int))) <|
        some (((y1.1.set m_.1.toNat 0).set m_.2.1.toNat y62), ((y1.2.1.1, (y1.2.1.2.set y57.toNat (bif (ltI 1000 v59) then 1000 else v59))), ((w64 (1 - p_.2.2.1)), 0))))
      else (moves_Cell N m_.2.2 p_.2.2.1).bind fun y64 =>
      chk ((leI 0 m_.2.1) && (ltI m_.2.1 ((y1.1.set m_.1.toNat 0).length : Int))) <|
      some (((y1.1.set m_.1.toNat 0).set m_.2.1.toNat y64), (y1.2.1, ((w64 (1 - p_.2.2.1)), 0))))
    else none)
  else (moves_Cell N m_.2.2 p_.2.2.1).bind fun y66 =>
  chk ((leI 0 m_.2.1) && (ltI m_.2.1 ((y1.1.set m_.1.toNat 0).length : Int))) <|
  some (((y1.1.set m_.1.toNat 0).set m_.2.1.toNat y66), (y1.2.1, ((w64 (1 - p_.2.2.1)), (bif (ltI 200 (w64 (p_.2.2.2 + 1))) then 200 else (w64 (p_.2.2.2 + 1))))))
def moves_Do (N : Nat) (r_ : (ByteArray × (Int × (Int × ((List (Int × (Int × (Int × (List (Int × (Int × (Int × Int)))))))) × ((List Int) × (Bool × (Bool × ((List (Int × (Int × (Int × Bool)))) × (Int × (Int × Int))))))))))) (p_ : ((List Int) × (((List Int) × (List Int)) × (Int × Int)))) (m_ : (Int × (Int × Int))) : Option ((List Int) × (((List Int) × (List Int)) × (Int × Int))) := moves_Do.e N r_ p_ m_
/-! ### f39: gamehall/moves.After -/
def moves_After.e (N : Nat) (r_ : (ByteArray × (Int × (Int × ((List (Int × (Int × (Int × (List (Int × (Int × (Int × Int)))))))) × ((List Int) × (Bool × (Bool × ((List (Int × (Int × (Int × Bool)))) × (Int × (Int × Int))))))))))) (p_ : ((List Int) × (((List Int) × (List Int)) × (Int × Int)))) (m_ : (Int × (Int × Int))) : Option (((List Int) × (((List Int) × (List Int)) × (Int × Int))) × Int) :=
  (moves_Legal N r_ p_ m_).bind fun y1 =>
  bif (!(eqI y1.2 0)) then (some (([], (([], []), (0, 0))), y1.2))
  else bif (!y1.1) then (some (([], (([], []), (0, 0))), 13))
  else (moves_Do N r_ p_ m_).bind fun y2 =>
  some (y2, 0)
def moves_After (N : Nat) (r_ : (ByteArray × (Int × (Int × ((List (Int × (Int × (Int × (List (Int × (Int × (Int × Int)))))))) × ((List Int) × (Bool × (Bool × ((List (Int × (Int × (Int × Bool)))) × (Int × (Int × Int))))))))))) (p_ : ((List Int) × (((List Int) × (List Int)) × (Int × Int)))) (m_ : (Int × (Int × Int))) : Option (((List Int) × (((List Int) × (List Int)) × (Int × Int))) × Int) := moves_After.e N r_ p_ m_
/-! ### f16: gamehall/gamehallkeep1.plays -/
def gamehallkeep1_plays.e (N : Nat) : Option Bool :=
  (gamehallkeep1_three N).bind fun y1 =>
  (place_Begin N y1).bind fun y2 =>
  (gamehallkeep1_three N).bind fun y3 =>
  (moves_All N y3 y2.1).bind fun y4 =>
  (gamehallkeep1_three N).bind fun y5 =>
  (gamehallkeep1_put N 4).bind fun y6 =>
  (moves_After N y5 y2.1 y6).bind fun y7 =>
  (gamehallkeep1_three N).bind fun y8 =>
  (gamehallkeep1_put N 9).bind fun y9 =>
  (moves_Legal N y8 y2.1 y9).bind fun y10 =>
  (gamehallkeep1_fine N [y2.2, y4.2, y7.2, y10.2]).bind fun y12 =>
  bif y12 then (bif (eqI (y4.1.length : Int) 9) then (chk (true && (ltI 8 (y4.1.length : Int))) <|
      (gamehallkeep1_put N 8).bind fun y14 =>
      bif ((eqI (gD ((0 : Int), ((0 : Int), (0 : Int))) y4.1 8).1 y14.1) && ((eqI (gD ((0 : Int), ((0 : Int), (0 : Int))) y4.1 8).2.1 y14.2.1) && ((eqI (gD ((0 : Int), ((0 : Int), (0 : Int))) y4.1 8).2.2 y14.2.2) && true))) then (bif (eqI (y7.1.1.length : Int) 9) then (chk (true && (ltI 4 (y7.1.1.length : Int))) <|
          bif (eqI (gD (0 : Int) y7.1.1 4) 1) then (some (!y10.1))
          else some false)
        else some false)
      else some false)
    else some false)
  else some false
def gamehallkeep1_plays (N : Nat) : Option Bool := gamehallkeep1_plays.e N
/-! ### f38: gamehall/gamehallkeep1.some[gamehall/api.PerftPart] -/
def gamehallkeep1_some_api_PerftPart.e (N : Nat) (l_ : (List ((Int × (Int × Int)) × Int))) (n_ : Int) : Option ((Int × (Int × Int)) × Int) :=
  bif (eqI (l_.length : Int) 0) then none
  else bif (eqI (l_.length : Int) 0) then none
  else let v3 : Int := (Int.tmod (w64 ((Int.tmod n_ (l_.length : Int)) + (l_.length : Int))) (l_.length : Int))
  chk ((leI 0 v3) && (ltI v3 (l_.length : Int))) <|
  some (gD (((0 : Int), ((0 : Int), (0 : Int))), (0 : Int)) l_ v3)
def gamehallkeep1_some_api_PerftPart (N : Nat) (l_ : (List ((Int × (Int × Int)) × Int))) (n_ : Int) : Option ((Int × (Int × Int)) × Int) := gamehallkeep1_some_api_PerftPart.e N l_ n_
/-! ### f6: gamehall/gamehallkeep1.PerftAfter -/
def gamehallkeep1_PerftAfter.e (N : Nat) (r_ : (ByteArray × (Int × (Int × ((List (Int × (Int × (Int × (List (Int × (Int × (Int × Int)))))))) × ((List Int) × (Bool × (Bool × ((List (Int × (Int × (Int × Bool)))) × (Int × (Int × Int))))))))))) (p_ : ((List Int) × (((List Int) × (List Int)) × (Int × Int)))) (depth : Int) (n_ : Int) : Option Bool :=
  (gamehallkeep1_counted N).bind fun y1 =>
  bif (!y1) then some false
  else (gamehallkeep1_plays N).bind fun y2 =>
  bif (!y2) then some false
  else (gamehallkeep1_three N).bind fun y3 =>
  (gamehallkeep1_near N).bind fun y4 =>
  (perft_Divide N y3 y4 1).bind fun y5 =>
  bif (!(eqI y5.2 0)) then some false
  else bif (!(eqI (y5.1.length : Int) 5)) then some false
  else (gamehallkeep1_heavy N r_ p_ depth).bind fun y7 =>
  bif y7 then some true
  else (perft_Divide N r_ p_ depth).bind fun y8 =>
  bif (!(eqI y8.2 0)) then (some (eqI (y8.1.length : Int) 0))
  else bif (eqI (y8.1.length : Int) 0) then (some (eqI (y8.1.length : Int) 0))
  else (gamehallkeep1_some_api_PerftPart N y8.1 n_).bind fun y12 =>
  (moves_After N r_ p_ y12.1).bind fun y13 =>
  (perft_Count N r_ y13.1 (w64 (depth - 1))).bind fun y14 =>
  (gamehallkeep1_fine N [y13.2, y14.2]).bind fun y15 =>
  bif y15 then (some (eqI y14.1 y12.2))
  else some false
def gamehallkeep1_PerftAfter (N : Nat) (r_ : (ByteArray × (Int × (Int × ((List (Int × (Int × (Int × (List (Int × (Int × (Int × Int)))))))) × ((List Int) × (Bool × (Bool × ((List (Int × (Int × (Int × Bool)))) × (Int × (Int × Int))))))))))) (p_ : ((List Int) × (((List Int) × (List Int)) × (Int × Int)))) (depth : Int) (n_ : Int) : Option Bool := gamehallkeep1_PerftAfter.e N r_ p_ depth n_
end
end Go.Proofs.Ythhojealnaiehaa.Am
