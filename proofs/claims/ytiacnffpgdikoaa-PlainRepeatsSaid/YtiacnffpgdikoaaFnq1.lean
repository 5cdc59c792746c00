/- PRINTED by gen.py: what the functions compute, as plain Lean functions with fuel. -/
import Derived.Test.YtiacnffpgdikoaaFnq
set_option linter.unusedVariables false
set_option linter.unusedSimpArgs false
namespace Go.Proofs.Ytiacnffpgdikoaa.Am
open Go
noncomputable section
/-! ### f20: (*gamehall/plain.Game).Play -/
def plain_Game_Play'.e (N : Nat) (g_ : (TRules × ((List TPos) × LMv))) (m_ : TMv) : Option (Int × (TRules × ((List TPos) × LMv))) :=
  (plain_Game_Result N g_).bind fun y1 =>
  bif (!(eqI y1 0)) then (some (14, g_))
  else bothK (bothK (let v2 : Int := (w64 ((g_.2.1.length : Int) - 1))
      chk ((leI 0 v2) && (ltI v2 (g_.2.1.length : Int))) <|
      bothK ((moves_After N g_.1 (gD (([] : LInt), ((([] : LInt), ([] : LInt)), ((0 : Int), (0 : Int)))) g_.2.1 v2) m_).bind fun y3 =>
        bif (!(eqI y3.2 0)) then (some (13, g_))
        else bif (eqI (g_.2.2.length : Int) 400) then (some (9, g_))
        else bothK (bothK (chk (capOk 88 (g_.2.1.length + ([y3.1] : List TPos).length)) <|
            chk (capOk 24 (g_.2.2.length + ([m_] : List TMv).length)) <|
            some (0, (g_.1, ((g_.2.1 ++ [y3.1]), (g_.2.2 ++ [m_]))))) (bothK (bothK (chk (capOk 88 (g_.2.1.length + ([y3.1] : List TPos).length)) <|
              chk (capOk 24 (g_.2.2.length + ([m_] : List TMv).length)) <|
              some (0, (g_.1, ((g_.2.1 ++ [y3.1]), (g_.2.2 ++ [m_]))))) (bothK (chk (capOk 88 (g_.2.1.length + ([y3.1] : List TPos).length)) <|
                chk (capOk 24 (g_.2.2.length + ([m_] : List TMv).length)) <|
                some (0, (g_.1, ((g_.2.1 ++ [y3.1]), (g_.2.2 ++ [m_]))))) (chk (capOk 88 (g_.2.1.length + ([y3.1] : List TPos).length)) <|
                chk (capOk 24 (g_.2.2.length + ([m_] : List TMv).length)) <|
                some (0, (g_.1, ((g_.2.1 ++ [y3.1]), (g_.2.2 ++ [m_]))))))) (bothK (chk (capOk 88 (g_.2.1.length + ([y3.1] : List TPos).length)) <|
              chk (capOk 24 (g_.2.2.length + ([m_] : List TMv).length)) <|
              some (0, (g_.1, ((g_.2.1 ++ [y3.1]), (g_.2.2 ++ [m_]))))) (bothK (bothK (chk (capOk 88 (g_.2.1.length + ([y3.1] : List TPos).length)) <|
                chk (capOk 24 (g_.2.2.length + ([m_] : List TMv).length)) <|
                some (0, (g_.1, ((g_.2.1 ++ [y3.1]), (g_.2.2 ++ [m_]))))) (chk (capOk 88 (g_.2.1.length + ([y3.1] : List TPos).length)) <|
                chk (capOk 24 (g_.2.2.length + ([m_] : List TMv).length)) <|
                some (0, (g_.1, ((g_.2.1 ++ [y3.1]), (g_.2.2 ++ [m_])))))) (bothK (chk (capOk 88 (g_.2.1.length + ([y3.1] : List TPos).length)) <|
                chk (capOk 24 (g_.2.2.length + ([m_] : List TMv).length)) <|
                some (0, (g_.1, ((g_.2.1 ++ [y3.1]), (g_.2.2 ++ [m_]))))) (chk (capOk 88 (g_.2.1.length + ([y3.1] : List TPos).length)) <|
                chk (capOk 24 (g_.2.2.length + ([m_] : List TMv).length)) <|
                some (0, (g_.1, ((g_.2.1 ++ [y3.1]), (g_.2.2 ++ [m_])))))))))) (bothK (bothK (bothK (chk (capOk 88 (g_.2.1.length + ([y3.1] : List TPos).length)) <|
              chk (capOk 24 (g_.2.2.length + ([m_] : List TMv).length)) <|
              some (0, (g_.1, ((g_.2.1 ++ [y3.1]), (g_.2.2 ++ [m_]))))) (bothK (chk (capOk 88 (g_.2.1.length + ([y3.1] : List TPos).length)) <|
                chk (capOk 24 (g_.2.2.length + ([m_] : List TMv).length)) <|
                some (0, (g_.1, ((g_.2.1 ++ [y3.1]), (g_.2.2 ++ [m_]))))) (chk (capOk 88 (g_.2.1.length + ([y3.1] : List TPos).length)) <|
                chk (capOk 24 (g_.2.2.length + ([m_] : List TMv).length)) <|
                some (0, (g_.1, ((g_.2.1 ++ [y3.1]), (g_.2.2 ++ [m_]))))))) (bothK (bothK (chk (capOk 88 (g_.2.1.length + ([y3.1] : List TPos).length)) <|
                chk (capOk 24 (g_.2.2.length + ([m_] : List TMv).length)) <|
                some (0, (g_.1, ((g_.2.1 ++ [y3.1]), (g_.2.2 ++ [m_]))))) (chk (capOk 88 (g_.2.1.length + ([y3.1] : List TPos).length)) <|
                chk (capOk 24 (g_.2.2.length + ([m_] : List TMv).length)) <|
                some (0, (g_.1, ((g_.2.1 ++ [y3.1]), (g_.2.2 ++ [m_])))))) (chk (capOk 88 (g_.2.1.length + ([y3.1] : List TPos).length)) <|
              chk (capOk 24 (g_.2.2.length + ([m_] : List TMv).length)) <|
              some (0, (g_.1, ((g_.2.1 ++ [y3.1]), (g_.2.2 ++ [m_]))))))) (bothK (bothK (chk (capOk 88 (g_.2.1.length + ([y3.1] : List TPos).length)) <|
              chk (capOk 24 (g_.2.2.length + ([m_] : List TMv).length)) <|
              some (0, (g_.1, ((g_.2.1 ++ [y3.1]), (g_.2.2 ++ [m_]))))) (bothK (bothK (chk (capOk 88 (g_.2.1.length + ([y3.1] : List TPos).length)) <|
                chk (capOk 24 (g_.2.2.length + ([m_] : List TMv).length)) <|
                some (0, (g_.1, ((g_.2.1 ++ [y3.1]), (g_.2.2 ++ [m_]))))) (chk (capOk 88 (g_.2.1.length + ([y3.1] : List TPos).length)) <|
                chk (capOk 24 (g_.2.2.length + ([m_] : List TMv).length)) <|
                some (0, (g_.1, ((g_.2.1 ++ [y3.1]), (g_.2.2 ++ [m_])))))) (bothK (chk (capOk 88 (g_.2.1.length + ([y3.1] : List TPos).length)) <|
                chk (capOk 24 (g_.2.2.length + ([m_] : List TMv).length)) <|
                some (0, (g_.1, ((g_.2.1 ++ [y3.1]), (g_.2.2 ++ [m_]))))) (chk (capOk 88 (g_.2.1.length + ([y3.1] : List TPos).length)) <|
                chk (capOk 24 (g_.2.2.length + ([m_] : List TMv).length)) <|
                some (0, (g_.1, ((g_.2.1 ++ [y3.1]), (g_.2.2 ++ [m_])))))))) (bothK (bothK (bothK (chk (capOk 88 (g_.2.1.length + ([y3.1] : List TPos).length)) <|
                chk (capOk 24 (g_.2.2.length + ([m_] : List TMv).length)) <|
                some (0, (g_.1, ((g_.2.1 ++ [y3.1]), (g_.2.2 ++ [m_]))))) (chk (capOk 88 (g_.2.1.length + ([y3.1] : List TPos).length)) <|
                chk (capOk 24 (g_.2.2.length + ([m_] : List TMv).length)) <|
                some (0, (g_.1, ((g_.2.1 ++ [y3.1]), (g_.2.2 ++ [m_])))))) (chk (capOk 88 (g_.2.1.length + ([y3.1] : List TPos).length)) <|
              chk (capOk 24 (g_.2.2.length + ([m_] : List TMv).length)) <|
              some (0, (g_.1, ((g_.2.1 ++ [y3.1]), (g_.2.2 ++ [m_])))))) (bothK (bothK (chk (capOk 88 (g_.2.1.length + ([y3.1] : List TPos).length)) <|
                chk (capOk 24 (g_.2.2.length + ([m_] : List TMv).length)) <|
                some (0, (g_.1, ((g_.2.1 ++ [y3.1]), (g_.2.2 ++ [m_]))))) (chk (capOk 88 (g_.2.1.length + ([y3.1] : List TPos).length)) <|
                chk (capOk 24 (g_.2.2.length + ([m_] : List TMv).length)) <|
                some (0, (g_.1, ((g_.2.1 ++ [y3.1]), (g_.2.2 ++ [m_])))))) (chk (capOk 88 (g_.2.1.length + ([y3.1] : List TPos).length)) <|
              chk (capOk 24 (g_.2.2.length + ([m_] : List TMv).length)) <|
              some (0, (g_.1, ((g_.2.1 ++ [y3.1]), (g_.2.2 ++ [m_])))))))))) ((moves_After N g_.1 (gD (([] : LInt), ((([] : LInt), ([] : LInt)), ((0 : Int), (0 : Int)))) g_.2.1 v2) m_).bind fun y5 =>
        bif (!(eqI y5.2 0)) then (some (13, g_))
        else bif (eqI (g_.2.2.length : Int) 400) then (some (9, g_))
        else bothK (bothK (chk (capOk 88 (g_.2.1.length + ([y5.1] : List TPos).length)) <|
            chk (capOk 24 (g_.2.2.length + ([m_] : List TMv).length)) <|
            some (0, (g_.1, ((g_.2.1 ++ [y5.1]), (g_.2.2 ++ [m_]))))) (bothK (bothK (chk (capOk 88 (g_.2.1.length + ([y5.1] : List TPos).length)) <|
              chk (capOk 24 (g_.2.2.length + ([m_] : List TMv).length)) <|
              some (0, (g_.1, ((g_.2.1 ++ [y5.1]), (g_.2.2 ++ [m_]))))) (bothK (chk (capOk 88 (g_.2.1.length + ([y5.1] : List TPos).length)) <|
                chk (capOk 24 (g_.2.2.length + ([m_] : List TMv).length)) <|
                some (0, (g_.1, ((g_.2.1 ++ [y5.1]), (g_.2.2 ++ [m_]))))) (chk (capOk 88 (g_.2.1.length + ([y5.1] : List TPos).length)) <|
                chk (capOk 24 (g_.2.2.length + ([m_] : List TMv).length)) <|
                some (0, (g_.1, ((g_.2.1 ++ [y5.1]), (g_.2.2 ++ [m_]))))))) (bothK (chk (capOk 88 (g_.2.1.length + ([y5.1] : List TPos).length)) <|
              chk (capOk 24 (g_.2.2.length + ([m_] : List TMv).length)) <|
              some (0, (g_.1, ((g_.2.1 ++ [y5.1]), (g_.2.2 ++ [m_]))))) (bothK (bothK (chk (capOk 88 (g_.2.1.length + ([y5.1] : List TPos).length)) <|
                chk (capOk 24 (g_.2.2.length + ([m_] : List TMv).length)) <|
                some (0, (g_.1, ((g_.2.1 ++ [y5.1]), (g_.2.2 ++ [m_]))))) (chk (capOk 88 (g_.2.1.length + ([y5.1] : List TPos).length)) <|
                chk (capOk 24 (g_.2.2.length + ([m_] : List TMv).length)) <|
                some (0, (g_.1, ((g_.2.1 ++ [y5.1]), (g_.2.2 ++ [m_])))))) (bothK (chk (capOk 88 (g_.2.1.length + ([y5.1] : List TPos).length)) <|
                chk (capOk 24 (g_.2.2.length + ([m_] : List TMv).length)) <|
                some (0, (g_.1, ((g_.2.1 ++ [y5.1]), (g_.2.2 ++ [m_]))))) (chk (capOk 88 (g_.2.1.length + ([y5.1] : List TPos).length)) <|
                chk (capOk 24 (g_.2.2.length + ([m_] : List TMv).length)) <|
                some (0, (g_.1, ((g_.2.1 ++ [y5.1]), (g_.2.2 ++ [m_])))))))))) (bothK (bothK (bothK (chk (capOk 88 (g_.2.1.length + ([y5.1] : List TPos).length)) <|
              chk (capOk 24 (g_.2.2.length + ([m_] : List TMv).length)) <|
              some (0, (g_.1, ((g_.2.1 ++ [y5.1]), (g_.2.2 ++ [m_]))))) (bothK (chk (capOk 88 (g_.2.1.length + ([y5.1] : List TPos).length)) <|
                chk (capOk 24 (g_.2.2.length + ([m_] : List TMv).length)) <|
                some (0, (g_.1, ((g_.2.1 ++ [y5.1]), (g_.2.2 ++ [m_]))))) (chk (capOk 88 (g_.2.1.length + ([y5.1] : List TPos).length)) <|
                chk (capOk 24 (g_.2.2.length + ([m_] : List TMv).length)) <|
                some (0, (g_.1, ((g_.2.1 ++ [y5.1]), (g_.2.2 ++ [m_]))))))) (bothK (bothK (chk (capOk 88 (g_.2.1.length + ([y5.1] : List TPos).length)) <|
                chk (capOk 24 (g_.2.2.length + ([m_] : List TMv).length)) <|
                some (0, (g_.1, ((g_.2.1 ++ [y5.1]), (g_.2.2 ++ [m_]))))) (chk (capOk 88 (g_.2.1.length + ([y5.1] : List TPos).length)) <|
                chk (capOk 24 (g_.2.2.length + ([m_] : List TMv).length)) <|
                some (0, (g_.1, ((g_.2.1 ++ [y5.1]), (g_.2.2 ++ [m_])))))) (chk (capOk 88 (g_.2.1.length + ([y5.1] : List TPos).length)) <|
              chk (capOk 24 (g_.2.2.length + ([m_] : List TMv).length)) <|
              some (0, (g_.1, ((g_.2.1 ++ [y5.1]), (g_.2.2 ++ [m_]))))))) (bothK (bothK (chk (capOk 88 (g_.2.1.length + ([y5.1] : List TPos).length)) <|
              chk (capOk 24 (g_.2.2.length + ([m_] : List TMv).length)) <|
              some (0, (g_.1, ((g_.2.1 ++ [y5.1]), (g_.2.2 ++ [m_]))))) (bothK (bothK (chk (capOk 88 (g_.2.1.length + ([y5.1] : List TPos).length)) <|
                chk (capOk 24 (g_.2.2.length + ([m_] : List TMv).length)) <|
                some (0, (g_.1, ((g_.2.1 ++ [y5.1]), (g_.2.2 ++ [m_]))))) (chk (capOk 88 (g_.2.1.length + ([y5.1] : List TPos).length)) <|
                chk (capOk 24 (g_.2.2.length + ([m_] : List TMv).length)) <|
                some (0, (g_.1, ((g_.2.1 ++ [y5.1]), (g_.2.2 ++ [m_])))))) (bothK (chk (capOk 88 (g_.2.1.length + ([y5.1] : List TPos).length)) <|
                chk (capOk 24 (g_.2.2.length + ([m_] : List TMv).length)) <|
                some (0, (g_.1, ((g_.2.1 ++ [y5.1]), (g_.2.2 ++ [m_]))))) (chk (capOk 88 (g_.2.1.length + ([y5.1] : List TPos).length)) <|
                chk (capOk 24 (g_.2.2.length + ([m_] : List TMv).length)) <|
                some (0, (g_.1, ((g_.2.1 ++ [y5.1]), (g_.2.2 ++ [m_])))))))) (bothK (bothK (bothK (chk (capOk 88 (g_.2.1.length + ([y5.1] : List TPos).length)) <|
                chk (capOk 24 (g_.2.2.length + ([m_] : List TMv).length)) <|
                some (0, (g_.1, ((g_.2.1 ++ [y5.1]), (g_.2.2 ++ [m_]))))) (chk (capOk 88 (g_.2.1.length + ([y5.1] : List TPos).length)) <|
                chk (capOk 24 (g_.2.2.length + ([m_] : List TMv).length)) <|
                some (0, (g_.1, ((g_.2.1 ++ [y5.1]), (g_.2.2 ++ [m_])))))) (chk (capOk 88 (g_.2.1.length + ([y5.1] : List TPos).length)) <|
              chk (capOk 24 (g_.2.2.length + ([m_] : List TMv).length)) <|
              some (0, (g_.1, ((g_.2.1 ++ [y5.1]), (g_.2.2 ++ [m_])))))) (bothK (bothK (chk (capOk 88 (g_.2.1.length + ([y5.1] : List TPos).length)) <|
                chk (capOk 24 (g_.2.2.length + ([m_] : List TMv).length)) <|
                some (0, (g_.1, ((g_.2.1 ++ [y5.1]), (g_.2.2 ++ [m_]))))) (chk (capOk 88 (g_.2.1.length + ([y5.1] : List TPos).length)) <|
                chk (capOk 24 (g_.2.2.length + ([m_] : List TMv).length)) <|
                some (0, (g_.1, ((g_.2.1 ++ [y5.1]), (g_.2.2 ++ [m_])))))) (chk (capOk 88 (g_.2.1.length + ([y5.1] : List TPos).length)) <|
              chk (capOk 24 (g_.2.2.length + ([m_] : List TMv).length)) <|
              some (0, (g_.1, ((g_.2.1 ++ [y5.1]), (g_.2.2 ++ [m_]))))))))))) (bothK (bothK (let v7 : Int := (w64 ((g_.2.1.length : Int) - 1))
        chk ((leI 0 v7) && (ltI v7 (g_.2.1.length : Int))) <|
        bothK ((moves_After N g_.1 (gD (([] : LInt), ((([] : LInt), ([] : LInt)), ((0 : Int), (0 : Int)))) g_.2.1 v7) m_).bind fun y8 =>
          bif (!(eqI y8.2 0)) then (some (13, g_))
          else bif (eqI (g_.2.2.length : Int) 400) then (some (9, g_))
          else bothK (bothK (chk (capOk 88 (g_.2.1.length + ([y8.1] : List TPos).length)) <|
              chk (capOk 24 (g_.2.2.length + ([m_] : List TMv).length)) <|
              some (0, (g_.1, ((g_.2.1 ++ [y8.1]), (g_.2.2 ++ [m_]))))) (bothK (bothK (chk (capOk 88 (g_.2.1.length + ([y8.1] : List TPos).length)) <|
                chk (capOk 24 (g_.2.2.length + ([m_] : List TMv).length)) <|
                some (0, (g_.1, ((g_.2.1 ++ [y8.1]), (g_.2.2 ++ [m_]))))) (bothK (chk (capOk 88 (g_.2.1.length + ([y8.1] : List TPos).length)) <|
                  chk (capOk 24 (g_.2.2.length + ([m_] : List TMv).length)) <|
                  some (0, (g_.1, ((g_.2.1 ++ [y8.1]), (g_.2.2 ++ [m_]))))) (chk (capOk 88 (g_.2.1.length + ([y8.1] : List TPos).length)) <|
                  chk (capOk 24 (g_.2.2.length + ([m_] : List TMv).length)) <|
                  some (0, (g_.1, ((g_.2.1 ++ [y8.1]), (g_.2.2 ++ [m_]))))))) (bothK (chk (capOk 88 (g_.2.1.length + ([y8.1] : List TPos).length)) <|
                chk (capOk 24 (g_.2.2.length + ([m_] : List TMv).length)) <|
                some (0, (g_.1, ((g_.2.1 ++ [y8.1]), (g_.2.2 ++ [m_]))))) (bothK (bothK (chk (capOk 88 (g_.2.1.length + ([y8.1] : List TPos).length)) <|
                  chk (capOk 24 (g_.2.2.length + ([m_] : List TMv).length)) <|
                  some (0, (g_.1, ((g_.2.1 ++ [y8.1]), (g_.2.2 ++ [m_]))))) (chk (capOk 88 (g_.2.1.length + ([y8.1] : List TPos).length)) <|
                  chk (capOk 24 (g_.2.2.length + ([m_] : List TMv).length)) <|
                  some (0, (g_.1, ((g_.2.1 ++ [y8.1]), (g_.2.2 ++ [m_])))))) (bothK (chk (capOk 88 (g_.2.1.length + ([y8.1] : List TPos).length)) <|
                  chk (capOk 24 (g_.2.2.length + ([m_] : List TMv).length)) <|
                  some (0, (g_.1, ((g_.2.1 ++ [y8.1]), (g_.2.2 ++ [m_]))))) (chk (capOk 88 (g_.2.1.length + ([y8.1] : List TPos).length)) <|
                  chk (capOk 24 (g_.2.2.length + ([m_] : List TMv).length)) <|
                  some (0, (g_.1, ((g_.2.1 ++ [y8.1]), (g_.2.2 ++ [m_])))))))))) (bothK (bothK (bothK (chk (capOk 88 (g_.2.1.length + ([y8.1] : List TPos).length)) <|
                chk (capOk 24 (g_.2.2.length + ([m_] : List TMv).length)) <|
                some (0, (g_.1, ((g_.2.1 ++ [y8.1]), (g_.2.2 ++ [m_]))))) (bothK (chk (capOk 88 (g_.2.1.length + ([y8.1] : List TPos).length)) <|
                  chk (capOk 24 (g_.2.2.length + ([m_] : List TMv).length)) <|
                  some (0, (g_.1, ((g_.2.1 ++ [y8.1]), (g_.2.2 ++ [m_]))))) (chk (capOk 88 (g_.2.1.length + ([y8.1] : List TPos).length)) <|
                  chk (capOk 24 (g_.2.2.length + ([m_] : List TMv).length)) <|
                  some (0, (g_.1, ((g_.2.1 ++ [y8.1]), (g_.2.2 ++ [m_]))))))) (bothK (bothK (chk (capOk 88 (g_.2.1.length + ([y8.1] : List TPos).length)) <|
                  chk (capOk 24 (g_.2.2.length + ([m_] : List TMv).length)) <|
                  some (0, (g_.1, ((g_.2.1 ++ [y8.1]), (g_.2.2 ++ [m_]))))) (chk (capOk 88 (g_.2.1.length + ([y8.1] : List TPos).length)) <|
                  chk (capOk 24 (g_.2.2.length + ([m_] : List TMv).length)) <|
                  some (0, (g_.1, ((g_.2.1 ++ [y8.1]), (g_.2.2 ++ [m_])))))) (chk (capOk 88 (g_.2.1.length + ([y8.1] : List TPos).length)) <|
                chk (capOk 24 (g_.2.2.length + ([m_] : List TMv).length)) <|
                some (0, (g_.1, ((g_.2.1 ++ [y8.1]), (g_.2.2 ++ [m_]))))))) (bothK (bothK (chk (capOk 88 (g_.2.1.length + ([y8.1] : List TPos).length)) <|
                chk (capOk 24 (g_.2.2.length + ([m_] : List TMv).length)) <|
                some (0, (g_.1, ((g_.2.1 ++ [y8.1]), (g_.2.2 ++ [m_]))))) (bothK (bothK (chk (capOk 88 (g_.2.1.length + ([y8.1] : List TPos).length)) <|
                  chk (capOk 24 (g_.2.2.length + ([m_] : List TMv).length)) <|
                  some (0, (g_.1, ((g_.2.1 ++ [y8.1]), (g_.2.2 ++ [m_]))))) (chk (capOk 88 (g_.2.1.length + ([y8.1] : List TPos).length)) <|
                  chk (capOk 24 (g_.2.2.length + ([m_] : List TMv).length)) <|
                  some (0, (g_.1, ((g_.2.1 ++ [y8.1]), (g_.2.2 ++ [m_])))))) (bothK (chk (capOk 88 (g_.2.1.length + ([y8.1] : List TPos).length)) <|
                  chk (capOk 24 (g_.2.2.length + ([m_] : List TMv).length)) <|
                  some (0, (g_.1, ((g_.2.1 ++ [y8.1]), (g_.2.2 ++ [m_]))))) (chk (capOk 88 (g_.2.1.length + ([y8.1] : List TPos).length)) <|
                  chk (capOk 24 (g_.2.2.length + ([m_] : List TMv).length)) <|
                  some (0, (g_.1, ((g_.2.1 ++ [y8.1]), (g_.2.2 ++ [m_])))))))) (bothK (bothK (bothK (chk (capOk 88 (g_.2.1.length + ([y8.1] : List TPos).length)) <|
                  chk (capOk 24 (g_.2.2.length + ([m_] : List TMv).length)) <|
                  some (0, (g_.1, ((g_.2.1 ++ [y8.1]), (g_.2.2 ++ [m_]))))) (chk (capOk 88 (g_.2.1.length + ([y8.1] : List TPos).length)) <|
                  chk (capOk 24 (g_.2.2.length + ([m_] : List TMv).length)) <|
                  some (0, (g_.1, ((g_.2.1 ++ [y8.1]), (g_.2.2 ++ [m_])))))) (chk (capOk 88 (g_.2.1.length + ([y8.1] : List TPos).length)) <|
                chk (capOk 24 (g_.2.2.length + ([m_] : List TMv).length)) <|
                some (0, (g_.1, ((g_.2.1 ++ [y8.1]), (g_.2.2 ++ [m_])))))) (bothK (bothK (chk (capOk 88 (g_.2.1.length + ([y8.1] : List TPos).length)) <|
                  chk (capOk 24 (g_.2.2.length + ([m_] : List TMv).length)) <|
                  some (0, (g_.1, ((g_.2.1 ++ [y8.1]), (g_.2.2 ++ [m_]))))) (chk (capOk 88 (g_.2.1.length + ([y8.1] : List TPos).length)) <|
                  chk (capOk 24 (g_.2.2.length + ([m_] : List TMv).length)) <|
                  some (0, (g_.1, ((g_.2.1 ++ [y8.1]), (g_.2.2 ++ [m_])))))) (chk (capOk 88 (g_.2.1.length + ([y8.1] : List TPos).length)) <|
                chk (capOk 24 (g_.2.2.length + ([m_] : List TMv).length)) <|
                some (0, (g_.1, ((g_.2.1 ++ [y8.1]), (g_.2.2 ++ [m_])))))))))) ((moves_After N g_.1 (gD (([] : LInt), ((([] : LInt), ([] : LInt)), ((0 : Int), (0 : Int)))) g_.2.1 v7) m_).bind fun y10 =>
          bif (!(eqI y10.2 0)) then (some (13, g_))
          else bif (eqI (g_.2.2.length : Int) 400) then (some (9, g_))
          else bothK (bothK (chk (capOk 88 (g_.2.1.length + ([y10.1] : List TPos).length)) <|
              chk (capOk 24 (g_.2.2.length + ([m_] : List TMv).length)) <|
              some (0, (g_.1, ((g_.2.1 ++ [y10.1]), (g_.2.2 ++ [m_]))))) (bothK (bothK (chk (capOk 88 (g_.2.1.length + ([y10.1] : List TPos).length)) <|
                chk (capOk 24 (g_.2.2.length + ([m_] : List TMv).length)) <|
                some (0, (g_.1, ((g_.2.1 ++ [y10.1]), (g_.2.2 ++ [m_]))))) (bothK (chk (capOk 88 (g_.2.1.length + ([y10.1] : List TPos).length)) <|
                  chk (capOk 24 (g_.2.2.length + ([m_] : List TMv).length)) <|
                  some (0, (g_.1, ((g_.2.1 ++ [y10.1]), (g_.2.2 ++ [m_]))))) (chk (capOk 88 (g_.2.1.length + ([y10.1] : List TPos).length)) <|
                  chk (capOk 24 (g_.2.2.length + ([m_] : List TMv).length)) <|
                  some (0, (g_.1, ((g_.2.1 ++ [y10.1]), (g_.2.2 ++ [m_]))))))) (bothK (chk (capOk 88 (g_.2.1.length + ([y10.1] : List TPos).length)) <|
                chk (capOk 24 (g_.2.2.length + ([m_] : List TMv).length)) <|
                some (0, (g_.1, ((g_.2.1 ++ [y10.1]), (g_.2.2 ++ [m_]))))) (bothK (bothK (chk (capOk 88 (g_.2.1.length + ([y10.1] : List TPos).length)) <|
                  chk (capOk 24 (g_.2.2.length + ([m_] : List TMv).length)) <|
                  some (0, (g_.1, ((g_.2.1 ++ [y10.1]), (g_.2.2 ++ [m_]))))) (chk (capOk 88 (g_.2.1.length + ([y10.1] : List TPos).length)) <|
                  chk (capOk 24 (g_.2.2.length + ([m_] : List TMv).length)) <|
                  some (0, (g_.1, ((g_.2.1 ++ [y10.1]), (g_.2.2 ++ [m_])))))) (bothK (chk (capOk 88 (g_.2.1.length + ([y10.1] : List TPos).length)) <|
                  chk (capOk 24 (g_.2.2.length + ([m_] : List TMv).length)) <|
                  some (0, (g_.1, ((g_.2.1 ++ [y10.1]), (g_.2.2 ++ [m_]))))) (chk (capOk 88 (g_.2.1.length + ([y10.1] : List TPos).length)) <|
                  chk (capOk 24 (g_.2.2.length + ([m_] : List TMv).length)) <|
                  some (0, (g_.1, ((g_.2.1 ++ [y10.1]), (g_.2.2 ++ [m_])))))))))) (bothK (bothK (bothK (chk (capOk 88 (g_.2.1.length + ([y10.1] : List TPos).length)) <|
                chk (capOk 24 (g_.2.2.length + ([m_] : List TMv).length)) <|
                some (0, (g_.1, ((g_.2.1 ++ [y10.1]), (g_.2.2 ++ [m_]))))) (bothK (chk (capOk 88 (g_.2.1.length + ([y10.1] : List TPos).length)) <|
                  chk (capOk 24 (g_.2.2.length + ([m_] : List TMv).length)) <|
                  some (0, (g_.1, ((g_.2.1 ++ [y10.1]), (g_.2.2 ++ [m_]))))) (chk (capOk 88 (g_.2.1.length + ([y10.1] : List TPos).length)) <|
                  chk (capOk 24 (g_.2.2.length + ([m_] : List TMv).length)) <|
                  some (0, (g_.1, ((g_.2.1 ++ [y10.1]), (g_.2.2 ++ [m_]))))))) (bothK (bothK (chk (capOk 88 (g_.2.1.length + ([y10.1] : List TPos).length)) <|
                  chk (capOk 24 (g_.2.2.length + ([m_] : List TMv).length)) <|
                  some (0, (g_.1, ((g_.2.1 ++ [y10.1]), (g_.2.2 ++ [m_]))))) (chk (capOk 88 (g_.2.1.length + ([y10.1] : List TPos).length)) <|
                  chk (capOk 24 (g_.2.2.length + ([m_] : List TMv).length)) <|
                  some (0, (g_.1, ((g_.2.1 ++ [y10.1]), (g_.2.2 ++ [m_])))))) (chk (capOk 88 (g_.2.1.length + ([y10.1] : List TPos).length)) <|
                chk (capOk 24 (g_.2.2.length + ([m_] : List TMv).length)) <|
                some (0, (g_.1, ((g_.2.1 ++ [y10.1]), (g_.2.2 ++ [m_]))))))) (bothK (bothK (chk (capOk 88 (g_.2.1.length + ([y10.1] : List TPos).length)) <|
                chk (capOk 24 (g_.2.2.length + ([m_] : List TMv).length)) <|
                some (0, (g_.1, ((g_.2.1 ++ [y10.1]), (g_.2.2 ++ [m_]))))) (bothK (bothK (chk (capOk 88 (g_.2.1.length + ([y10.1] : List TPos).length)) <|
                  chk (capOk 24 (g_.2.2.length + ([m_] : List TMv).length)) <|
                  some (0, (g_.1, ((g_.2.1 ++ [y10.1]), (g_.2.2 ++ [m_]))))) (chk (capOk 88 (g_.2.1.length + ([y10.1] : List TPos).length)) <|
                  chk (capOk 24 (g_.2.2.length + ([m_] : List TMv).length)) <|
                  some (0, (g_.1, ((g_.2.1 ++ [y10.1]), (g_.2.2 ++ [m_])))))) (bothK (chk (capOk 88 (g_.2.1.length + ([y10.1] : List TPos).length)) <|
                  chk (capOk 24 (g_.2.2.length + ([m_] : List TMv).length)) <|
                  some (0, (g_.1, ((g_.2.1 ++ [y10.1]), (g_.2.2 ++ [m_]))))) (chk (capOk 88 (g_.2.1.length + ([y10.1] : List TPos).length)) <|
                  chk (capOk 24 (g_.2.2.length + ([m_] : List TMv).length)) <|
                  some (0, (g_.1, ((g_.2.1 ++ [y10.1]), (g_.2.2 ++ [m_])))))))) (bothK (bothK (bothK (chk (capOk 88 (g_.2.1.length + ([y10.1] : List TPos).length)) <|
                  chk (capOk 24 (g_.2.2.length + ([m_] : List TMv).length)) <|
                  some (0, (g_.1, ((g_.2.1 ++ [y10.1]), (g_.2.2 ++ [m_]))))) (chk (capOk 88 (g_.2.1.length + ([y10.1] : List TPos).length)) <|
                  chk (capOk 24 (g_.2.2.length + ([m_] : List TMv).length)) <|
                  some (0, (g_.1, ((g_.2.1 ++ [y10.1]), (g_.2.2 ++ [m_])))))) (chk (capOk 88 (g_.2.1.length + ([y10.1] : List TPos).length)) <|
                chk (capOk 24 (g_.2.2.length + ([m_] : List TMv).length)) <|
                some (0, (g_.1, ((g_.2.1 ++ [y10.1]), (g_.2.2 ++ [m_])))))) (bothK (bothK (chk (capOk 88 (g_.2.1.length + ([y10.1] : List TPos).length)) <|
                  chk (capOk 24 (g_.2.2.length + ([m_] : List TMv).length)) <|
                  some (0, (g_.1, ((g_.2.1 ++ [y10.1]), (g_.2.2 ++ [m_]))))) (chk (capOk 88 (g_.2.1.length + ([y10.1] : List TPos).length)) <|
                  chk (capOk 24 (g_.2.2.length + ([m_] : List TMv).length)) <|
                  some (0, (g_.1, ((g_.2.1 ++ [y10.1]), (g_.2.2 ++ [m_])))))) (chk (capOk 88 (g_.2.1.length + ([y10.1] : List TPos).length)) <|
                chk (capOk 24 (g_.2.2.length + ([m_] : List TMv).length)) <|
                some (0, (g_.1, ((g_.2.1 ++ [y10.1]), (g_.2.2 ++ [m_]))))))))))) (let v12 : Int := (w64 ((g_.2.1.length : Int) - 1))
        chk ((leI 0 v12) && (ltI v12 (g_.2.1.length : Int))) <|
        (moves_After N g_.1 (gD (([] : LInt), ((([] : LInt), ([] : LInt)), ((0 : Int), (0 : Int)))) g_.2.1 v12) m_).bind fun y13 =>
        bif (!(eqI y13.2 0)) then (some (13, g_))
        else bif (eqI (g_.2.2.length : Int) 400) then (some (9, g_))
        else bothK (bothK (chk (capOk 88 (g_.2.1.length + ([y13.1] : List TPos).length)) <|
            chk (capOk 24 (g_.2.2.length + ([m_] : List TMv).length)) <|
            some (0, (g_.1, ((g_.2.1 ++ [y13.1]), (g_.2.2 ++ [m_]))))) (bothK (bothK (chk (capOk 88 (g_.2.1.length + ([y13.1] : List TPos).length)) <|
              chk (capOk 24 (g_.2.2.length + ([m_] : List TMv).length)) <|
              some (0, (g_.1, ((g_.2.1 ++ [y13.1]), (g_.2.2 ++ [m_]))))) (bothK (chk (capOk 88 (g_.2.1.length + ([y13.1] : List TPos).length)) <|
                chk (capOk 24 (g_.2.2.length + ([m_] : List TMv).length)) <|
                some (0, (g_.1, ((g_.2.1 ++ [y13.1]), (g_.2.2 ++ [m_]))))) (chk (capOk 88 (g_.2.1.length + ([y13.1] : List TPos).length)) <|
                chk (capOk 24 (g_.2.2.length + ([m_] : List TMv).length)) <|
                some (0, (g_.1, ((g_.2.1 ++ [y13.1]), (g_.2.2 ++ [m_]))))))) (bothK (chk (capOk 88 (g_.2.1.length + ([y13.1] : List TPos).length)) <|
              chk (capOk 24 (g_.2.2.length + ([m_] : List TMv).length)) <|
              some (0, (g_.1, ((g_.2.1 ++ [y13.1]), (g_.2.2 ++ [m_]))))) (bothK (bothK (chk (capOk 88 (g_.2.1.length + ([y13.1] : List TPos).length)) <|
                chk (capOk 24 (g_.2.2.length + ([m_] : List TMv).length)) <|
                some (0, (g_.1, ((g_.2.1 ++ [y13.1]), (g_.2.2 ++ [m_]))))) (chk (capOk 88 (g_.2.1.length + ([y13.1] : List TPos).length)) <|
                chk (capOk 24 (g_.2.2.length + ([m_] : List TMv).length)) <|
                some (0, (g_.1, ((g_.2.1 ++ [y13.1]), (g_.2.2 ++ [m_])))))) (bothK (chk (capOk 88 (g_.2.1.length + ([y13.1] : List TPos).length)) <|
                chk (capOk 24 (g_.2.2.length + ([m_] : List TMv).length)) <|
                some (0, (g_.1, ((g_.2.1 ++ [y13.1]), (g_.2.2 ++ [m_]))))) (chk (capOk 88 (g_.2.1.length + ([y13.1] : List TPos).length)) <|
                chk (capOk 24 (g_.2.2.length + ([m_] : List TMv).length)) <|
                some (0, (g_.1, ((g_.2.1 ++ [y13.1]), (g_.2.2 ++ [m_])))))))))) (bothK (bothK (bothK (chk (capOk 88 (g_.2.1.length + ([y13.1] : List TPos).length)) <|
              chk (capOk 24 (g_.2.2.length + ([m_] : List TMv).length)) <|
              some (0, (g_.1, ((g_.2.1 ++ [y13.1]), (g_.2.2 ++ [m_]))))) (bothK (chk (capOk 88 (g_.2.1.length + ([y13.1] : List TPos).length)) <|
                chk (capOk 24 (g_.2.2.length + ([m_] : List TMv).length)) <|
                some (0, (g_.1, ((g_.2.1 ++ [y13.1]), (g_.2.2 ++ [m_]))))) (chk (capOk 88 (g_.2.1.length + ([y13.1] : List TPos).length)) <|
                chk (capOk 24 (g_.2.2.length + ([m_] : List TMv).length)) <|
                some (0, (g_.1, ((g_.2.1 ++ [y13.1]), (g_.2.2 ++ [m_]))))))) (bothK (bothK (chk (capOk 88 (g_.2.1.length + ([y13.1] : List TPos).length)) <|
                chk (capOk 24 (g_.2.2.length + ([m_] : List TMv).length)) <|
                some (0, (g_.1, ((g_.2.1 ++ [y13.1]), (g_.2.2 ++ [m_]))))) (chk (capOk 88 (g_.2.1.length + ([y13.1] : List TPos).length)) <|
                chk (capOk 24 (g_.2.2.length + ([m_] : List TMv).length)) <|
                some (0, (g_.1, ((g_.2.1 ++ [y13.1]), (g_.2.2 ++ [m_])))))) (chk (capOk 88 (g_.2.1.length + ([y13.1] : List TPos).length)) <|
              chk (capOk 24 (g_.2.2.length + ([m_] : List TMv).length)) <|
              some (0, (g_.1, ((g_.2.1 ++ [y13.1]), (g_.2.2 ++ [m_]))))))) (bothK (bothK (chk (capOk 88 (g_.2.1.length + ([y13.1] : List TPos).length)) <|
              chk (capOk 24 (g_.2.2.length + ([m_] : List TMv).length)) <|
              some (0, (g_.1, ((g_.2.1 ++ [y13.1]), (g_.2.2 ++ [m_]))))) (bothK (bothK (chk (capOk 88 (g_.2.1.length + ([y13.1] : List TPos).length)) <|
                chk (capOk 24 (g_.2.2.length + ([m_] : List TMv).length)) <|
                some (0, (g_.1, ((g_.2.1 ++ [y13.1]), (g_.2.2 ++ [m_]))))) (chk (capOk 88 (g_.2.1.length + ([y13.1] : List TPos).length)) <|
                chk (capOk 24 (g_.2.2.length + ([m_] : List TMv).length)) <|
                some (0, (g_.1, ((g_.2.1 ++ [y13.1]), (g_.2.2 ++ [m_])))))) (bothK (chk (capOk 88 (g_.2.1.length + ([y13.1] : List TPos).length)) <|
                chk (capOk 24 (g_.2.2.length + ([m_] : List TMv).length)) <|
                some (0, (g_.1, ((g_.2.1 ++ [y13.1]), (g_.2.2 ++ [m_]))))) (chk (capOk 88 (g_.2.1.length + ([y13.1] : List TPos).length)) <|
                chk (capOk 24 (g_.2.2.length + ([m_] : List TMv).length)) <|
                some (0, (g_.1, ((g_.2.1 ++ [y13.1]), (g_.2.2 ++ [m_])))))))) (bothK (bothK (bothK (chk (capOk 88 (g_.2.1.length + ([y13.1] : List TPos).length)) <|
                chk (capOk 24 (g_.2.2.length + ([m_] : List TMv).length)) <|
                some (0, (g_.1, ((g_.2.1 ++ [y13.1]), (g_.2.2 ++ [m_]))))) (chk (capOk 88 (g_.2.1.length + ([y13.1] : List TPos).length)) <|
                chk (capOk 24 (g_.2.2.length + ([m_] : List TMv).length)) <|
                some (0, (g_.1, ((g_.2.1 ++ [y13.1]), (g_.2.2 ++ [m_])))))) (chk (capOk 88 (g_.2.1.length + ([y13.1] : List TPos).length)) <|
              chk (capOk 24 (g_.2.2.length + ([m_] : List TMv).length)) <|
              some (0, (g_.1, ((g_.2.1 ++ [y13.1]), (g_.2.2 ++ [m_])))))) (bothK (bothK (chk (capOk 88 (g_.2.1.length + ([y13.1] : List TPos).length)) <|
                chk (capOk 24 (g_.2.2.length + ([m_] : List TMv).length)) <|
                some (0, (g_.1, ((g_.2.1 ++ [y13.1]), (g_.2.2 ++ [m_]))))) (chk (capOk 88 (g_.2.1.length + ([y13.1] : List TPos).length)) <|
                chk (capOk 24 (g_.2.2.length + ([m_] : List TMv).length)) <|
                some (0, (g_.1, ((g_.2.1 ++ [y13.1]), (g_.2.2 ++ [m_])))))) (chk (capOk 88 (g_.2.1.length + ([y13.1] : List TPos).length)) <|
              chk (capOk 24 (g_.2.2.length + ([m_] : List TMv).length)) <|
              some (0, (g_.1, ((g_.2.1 ++ [y13.1]), (g_.2.2 ++ [m_]))))))))))) (bothK (let v15 : Int := (w64 ((g_.2.1.length : Int) - 1))
        chk ((leI 0 v15) && (ltI v15 (g_.2.1.length : Int))) <|
        (moves_After N g_.1 (gD (([] : LInt), ((([] : LInt), ([] : LInt)), ((0 : Int), (0 : Int)))) g_.2.1 v15) m_).bind fun y16 =>
        bif (!(eqI y16.2 0)) then (some (13, g_))
        else bif (eqI (g_.2.2.length : Int) 400) then (some (9, g_))
        else bothK (bothK (chk (capOk 88 (g_.2.1.length + ([y16.1] : List TPos).length)) <|
            chk (capOk 24 (g_.2.2.length + ([m_] : List TMv).length)) <|
            some (0, (g_.1, ((g_.2.1 ++ [y16.1]), (g_.2.2 ++ [m_]))))) (bothK (bothK (chk (capOk 88 (g_.2.1.length + ([y16.1] : List TPos).length)) <|
              chk (capOk 24 (g_.2.2.length + ([m_] : List TMv).length)) <|
              some (0, (g_.1, ((g_.2.1 ++ [y16.1]), (g_.2.2 ++ [m_]))))) (bothK (chk (capOk 88 (g_.2.1.length + ([y16.1] : List TPos).length)) <|
                chk (capOk 24 (g_.2.2.length + ([m_] : List TMv).length)) <|
                some (0, (g_.1, ((g_.2.1 ++ [y16.1]), (g_.2.2 ++ [m_]))))) (chk (capOk 88 (g_.2.1.length + ([y16.1] : List TPos).length)) <|
                chk (capOk 24 (g_.2.2.length + ([m_] : List TMv).length)) <|
                some (0, (g_.1, ((g_.2.1 ++ [y16.1]), (g_.2.2 ++ [m_]))))))) (bothK (chk (capOk 88 (g_.2.1.length + ([y16.1] : List TPos).length)) <|
              chk (capOk 24 (g_.2.2.length + ([m_] : List TMv).length)) <|
              some (0, (g_.1, ((g_.2.1 ++ [y16.1]), (g_.2.2 ++ [m_]))))) (bothK (bothK (chk (capOk 88 (g_.2.1.length + ([y16.1] : List TPos).length)) <|
                chk (capOk 24 (g_.2.2.length + ([m_] : List TMv).length)) <|
                some (0, (g_.1, ((g_.2.1 ++ [y16.1]), (g_.2.2 ++ [m_]))))) (chk (capOk 88 (g_.2.1.length + ([y16.1] : List TPos).length)) <|
                chk (capOk 24 (g_.2.2.length + ([m_] : List TMv).length)) <|
                some (0, (g_.1, ((g_.2.1 ++ [y16.1]), (g_.2.2 ++ [m_])))))) (bothK (chk (capOk 88 (g_.2.1.length + ([y16.1] : List TPos).length)) <|
                chk (capOk 24 (g_.2.2.length + ([m_] : List TMv).length)) <|
                some (0, (g_.1, ((g_.2.1 ++ [y16.1]), (g_.2.2 ++ [m_]))))) (chk (capOk 88 (g_.2.1.length + ([y16.1] : List TPos).length)) <|
                chk (capOk 24 (g_.2.2.length + ([m_] : List TMv).length)) <|
                some (0, (g_.1, ((g_.2.1 ++ [y16.1]), (g_.2.2 ++ [m_])))))))))) (bothK (bothK (bothK (chk (capOk 88 (g_.2.1.length + ([y16.1] : List TPos).length)) <|
              chk (capOk 24 (g_.2.2.length + ([m_] : List TMv).length)) <|
              some (0, (g_.1, ((g_.2.1 ++ [y16.1]), (g_.2.2 ++ [m_]))))) (bothK (chk (capOk 88 (g_.2.1.length + ([y16.1] : List TPos).length)) <|
                chk (capOk 24 (g_.2.2.length + ([m_] : List TMv).length)) <|
                some (0, (g_.1, ((g_.2.1 ++ [y16.1]), (g_.2.2 ++ [m_]))))) (chk (capOk 88 (g_.2.1.length + ([y16.1] : List TPos).length)) <|
                chk (capOk 24 (g_.2.2.length + ([m_] : List TMv).length)) <|
                some (0, (g_.1, ((g_.2.1 ++ [y16.1]), (g_.2.2 ++ [m_]))))))) (bothK (bothK (chk (capOk 88 (g_.2.1.length + ([y16.1] : List TPos).length)) <|
                chk (capOk 24 (g_.2.2.length + ([m_] : List TMv).length)) <|
                some (0, (g_.1, ((g_.2.1 ++ [y16.1]), (g_.2.2 ++ [m_]))))) (chk (capOk 88 (g_.2.1.length + ([y16.1] : List TPos).length)) <|
                chk (capOk 24 (g_.2.2.length + ([m_] : List TMv).length)) <|
                some (0, (g_.1, ((g_.2.1 ++ [y16.1]), (g_.2.2 ++ [m_])))))) (chk (capOk 88 (g_.2.1.length + ([y16.1] : List TPos).length)) <|
              chk (capOk 24 (g_.2.2.length + ([m_] : List TMv).length)) <|
              some (0, (g_.1, ((g_.2.1 ++ [y16.1]), (g_.2.2 ++ [m_]))))))) (bothK (bothK (chk (capOk 88 (g_.2.1.length + ([y16.1] : List TPos).length)) <|
              chk (capOk 24 (g_.2.2.length + ([m_] : List TMv).length)) <|
              some (0, (g_.1, ((g_.2.1 ++ [y16.1]), (g_.2.2 ++ [m_]))))) (bothK (bothK (chk (capOk 88 (g_.2.1.length + ([y16.1] : List TPos).length)) <|
                chk (capOk 24 (g_.2.2.length + ([m_] : List TMv).length)) <|
                some (0, (g_.1, ((g_.2.1 ++ [y16.1]), (g_.2.2 ++ [m_]))))) (chk (capOk 88 (g_.2.1.length + ([y16.1] : List TPos).length)) <|
                chk (capOk 24 (g_.2.2.length + ([m_] : List TMv).length)) <|
                some (0, (g_.1, ((g_.2.1 ++ [y16.1]), (g_.2.2 ++ [m_])))))) (bothK (chk (capOk 88 (g_.2.1.length + ([y16.1] : List TPos).length)) <|
                chk (capOk 24 (g_.2.2.length + ([m_] : List TMv).length)) <|
                some (0, (g_.1, ((g_.2.1 ++ [y16.1]), (g_.2.2 ++ [m_]))))) (chk (capOk 88 (g_.2.1.length + ([y16.1] : List TPos).length)) <|
                chk (capOk 24 (g_.2.2.length + ([m_] : List TMv).length)) <|
                some (0, (g_.1, ((g_.2.1 ++ [y16.1]), (g_.2.2 ++ [m_])))))))) (bothK (bothK (bothK (chk (capOk 88 (g_.2.1.length + ([y16.1] : List TPos).length)) <|
                chk (capOk 24 (g_.2.2.length + ([m_] : List TMv).length)) <|
                some (0, (g_.1, ((g_.2.1 ++ [y16.1]), (g_.2.2 ++ [m_]))))) (chk (capOk 88 (g_.2.1.length + ([y16.1] : List TPos).length)) <|
                chk (capOk 24 (g_.2.2.length + ([m_] : List TMv).length)) <|
                some (0, (g_.1, ((g_.2.1 ++ [y16.1]), (g_.2.2 ++ [m_])))))) (chk (capOk 88 (g_.2.1.length + ([y16.1] : List TPos).length)) <|
              chk (capOk 24 (g_.2.2.length + ([m_] : List TMv).length)) <|
              some (0, (g_.1, ((g_.2.1 ++ [y16.1]), (g_.2.2 ++ [m_])))))) (bothK (bothK (chk (capOk 88 (g_.2.1.length + ([y16.1] : List TPos).length)) <|
                chk (capOk 24 (g_.2.2.length + ([m_] : List TMv).length)) <|
                some (0, (g_.1, ((g_.2.1 ++ [y16.1]), (g_.2.2 ++ [m_]))))) (chk (capOk 88 (g_.2.1.length + ([y16.1] : List TPos).length)) <|
                chk (capOk 24 (g_.2.2.length + ([m_] : List TMv).length)) <|
                some (0, (g_.1, ((g_.2.1 ++ [y16.1]), (g_.2.2 ++ [m_])))))) (chk (capOk 88 (g_.2.1.length + ([y16.1] : List TPos).length)) <|
              chk (capOk 24 (g_.2.2.length + ([m_] : List TMv).length)) <|
              some (0, (g_.1, ((g_.2.1 ++ [y16.1]), (g_.2.2 ++ [m_])))))))))) (let v18 : Int := (w64 ((g_.2.1.length : Int) - 1))
        chk ((leI 0 v18) && (ltI v18 (g_.2.1.length : Int))) <|
        (moves_After N g_.1 (gD (([] : LInt), ((([] : LInt), ([] : LInt)), ((0 : Int), (0 : Int)))) g_.2.1 v18) m_).bind fun y19 =>
        bif (!(eqI y19.2 0)) then (some (13, g_))
        else bif (eqI (g_.2.2.length : Int) 400) then (some (9, g_))
        else bothK (bothK (chk (capOk 88 (g_.2.1.length + ([y19.1] : List TPos).length)) <|
            chk (capOk 24 (g_.2.2.length + ([m_] : List TMv).length)) <|
            some (0, (g_.1, ((g_.2.1 ++ [y19.1]), (g_.2.2 ++ [m_]))))) (bothK (bothK (chk (capOk 88 (g_.2.1.length + ([y19.1] : List TPos).length)) <|
              chk (capOk 24 (g_.2.2.length + ([m_] : List TMv).length)) <|
              some (0, (g_.1, ((g_.2.1 ++ [y19.1]), (g_.2.2 ++ [m_]))))) (bothK (chk (capOk 88 (g_.2.1.length + ([y19.1] : List TPos).length)) <|
                chk (capOk 24 (g_.2.2.length + ([m_] : List TMv).length)) <|
                some (0, (g_.1, ((g_.2.1 ++ [y19.1]), (g_.2.2 ++ [m_]))))) (chk (capOk 88 (g_.2.1.length + ([y19.1] : List TPos).length)) <|
                chk (capOk 24 (g_.2.2.length + ([m_] : List TMv).length)) <|
                some (0, (g_.1, ((g_.2.1 ++ [y19.1]), (g_.2.2 ++ [m_]))))))) (bothK (chk (capOk 88 (g_.2.1.length + ([y19.1] : List TPos).length)) <|
              chk (capOk 24 (g_.2.2.length + ([m_] : List TMv).length)) <|
              some (0, (g_.1, ((g_.2.1 ++ [y19.1]), (g_.2.2 ++ [m_]))))) (bothK (bothK (chk (capOk 88 (g_.2.1.length + ([y19.1] : List TPos).length)) <|
                chk (capOk 24 (g_.2.2.length + ([m_] : List TMv).length)) <|
                some (0, (g_.1, ((g_.2.1 ++ [y19.1]), (g_.2.2 ++ [m_]))))) (chk (capOk 88 (g_.2.1.length + ([y19.1] : List TPos).length)) <|
                chk (capOk 24 (g_.2.2.length + ([m_] : List TMv).length)) <|
                some (0, (g_.1, ((g_.2.1 ++ [y19.1]), (g_.2.2 ++ [m_])))))) (bothK (chk (capOk 88 (g_.2.1.length + ([y19.1] : List TPos).length)) <|
                chk (capOk 24 (g_.2.2.length + ([m_] : List TMv).length)) <|
                some (0, (g_.1, ((g_.2.1 ++ [y19.1]), (g_.2.2 ++ [m_]))))) (chk (capOk 88 (g_.2.1.length + ([y19.1] : List TPos).length)) <|
                chk (capOk 24 (g_.2.2.length + ([m_] : List TMv).length)) <|
                some (0, (g_.1, ((g_.2.1 ++ [y19.1]), (g_.2.2 ++ [m_])))))))))) (bothK (bothK (bothK (chk (capOk 88 (g_.2.1.length + ([y19.1] : List TPos).length)) <|
              chk (capOk 24 (g_.2.2.length + ([m_] : List TMv).length)) <|
              some (0, (g_.1, ((g_.2.1 ++ [y19.1]), (g_.2.2 ++ [m_]))))) (bothK (chk (capOk 88 (g_.2.1.length + ([y19.1] : List TPos).length)) <|
                chk (capOk 24 (g_.2.2.length + ([m_] : List TMv).length)) <|
                some (0, (g_.1, ((g_.2.1 ++ [y19.1]), (g_.2.2 ++ [m_]))))) (chk (capOk 88 (g_.2.1.length + ([y19.1] : List TPos).length)) <|
                chk (capOk 24 (g_.2.2.length + ([m_] : List TMv).length)) <|
                some (0, (g_.1, ((g_.2.1 ++ [y19.1]), (g_.2.2 ++ [m_]))))))) (bothK (bothK (chk (capOk 88 (g_.2.1.length + ([y19.1] : List TPos).length)) <|
                chk (capOk 24 (g_.2.2.length + ([m_] : List TMv).length)) <|
                some (0, (g_.1, ((g_.2.1 ++ [y19.1]), (g_.2.2 ++ [m_]))))) (chk (capOk 88 (g_.2.1.length + ([y19.1] : List TPos).length)) <|
                chk (capOk 24 (g_.2.2.length + ([m_] : List TMv).length)) <|
                some (0, (g_.1, ((g_.2.1 ++ [y19.1]), (g_.2.2 ++ [m_])))))) (chk (capOk 88 (g_.2.1.length + ([y19.1] : List TPos).length)) <|
              chk (capOk 24 (g_.2.2.length + ([m_] : List TMv).length)) <|
              some (0, (g_.1, ((g_.2.1 ++ [y19.1]), (g_.2.2 ++ [m_]))))))) (bothK (bothK (chk (capOk 88 (g_.2.1.length + ([y19.1] : List TPos).length)) <|
              chk (capOk 24 (g_.2.2.length + ([m_] : List TMv).length)) <|
              some (0, (g_.1, ((g_.2.1 ++ [y19.1]), (g_.2.2 ++ [m_]))))) (bothK (bothK (chk (capOk 88 (g_.2.1.length + ([y19.1] : List TPos).length)) <|
                chk (capOk 24 (g_.2.2.length + ([m_] : List TMv).length)) <|
                some (0, (g_.1, ((g_.2.1 ++ [y19.1]), (g_.2.2 ++ [m_]))))) (chk (capOk 88 (g_.2.1.length + ([y19.1] : List TPos).length)) <|
                chk (capOk 24 (g_.2.2.length + ([m_] : List TMv).length)) <|
                some (0, (g_.1, ((g_.2.1 ++ [y19.1]), (g_.2.2 ++ [m_])))))) (bothK (chk (capOk 88 (g_.2.1.length + ([y19.1] : List TPos).length)) <|
                chk (capOk 24 (g_.2.2.length + ([m_] : List TMv).length)) <|
                some (0, (g_.1, ((g_.2.1 ++ [y19.1]), (g_.2.2 ++ [m_]))))) (chk (capOk 88 (g_.2.1.length + ([y19.1] : List TPos).length)) <|
                chk (capOk 24 (g_.2.2.length + ([m_] : List TMv).length)) <|
                some (0, (g_.1, ((g_.2.1 ++ [y19.1]), (g_.2.2 ++ [m_])))))))) (bothK (bothK (bothK (chk (capOk 88 (g_.2.1.length + ([y19.1] : List TPos).length)) <|
                chk (capOk 24 (g_.2.2.length + ([m_] : List TMv).length)) <|
                some (0, (g_.1, ((g_.2.1 ++ [y19.1]), (g_.2.2 ++ [m_]))))) (chk (capOk 88 (g_.2.1.length + ([y19.1] : List TPos).length)) <|
                chk (capOk 24 (g_.2.2.length + ([m_] : List TMv).length)) <|
                some (0, (g_.1, ((g_.2.1 ++ [y19.1]), (g_.2.2 ++ [m_])))))) (chk (capOk 88 (g_.2.1.length + ([y19.1] : List TPos).length)) <|
              chk (capOk 24 (g_.2.2.length + ([m_] : List TMv).length)) <|
              some (0, (g_.1, ((g_.2.1 ++ [y19.1]), (g_.2.2 ++ [m_])))))) (bothK (bothK (chk (capOk 88 (g_.2.1.length + ([y19.1] : List TPos).length)) <|
                chk (capOk 24 (g_.2.2.length + ([m_] : List TMv).length)) <|
                some (0, (g_.1, ((g_.2.1 ++ [y19.1]), (g_.2.2 ++ [m_]))))) (chk (capOk 88 (g_.2.1.length + ([y19.1] : List TPos).length)) <|
                chk (capOk 24 (g_.2.2.length + ([m_] : List TMv).length)) <|
                some (0, (g_.1, ((g_.2.1 ++ [y19.1]), (g_.2.2 ++ [m_])))))) (chk (capOk 88 (g_.2.1.length + ([y19.1] : List TPos).length)) <|
              chk (capOk 24 (g_.2.2.length + ([m_] : List TMv).length)) <|
              some (0, (g_.1, ((g_.2.1 ++ [y19.1]), (g_.2.2 ++ [m_]))))))))))))) (bothK (let v21 : Int := (w64 ((g_.2.1.length : Int) - 1))
    chk ((leI 0 v21) && (ltI v21 (g_.2.1.length : Int))) <|
    bothK ((moves_After N g_.1 (gD (([] : LInt), ((([] : LInt), ([] : LInt)), ((0 : Int), (0 : Int)))) g_.2.1 v21) m_).bind fun y22 =>
      bif (!(eqI y22.2 0)) then (some (13, g_))
      else bif (eqI (g_.2.2.length : Int) 400) then (some (9, g_))
      else bothK (bothK (chk (capOk 88 (g_.2.1.length + ([y22.1] : List TPos).length)) <|
          chk (capOk 24 (g_.2.2.length + ([m_] : List TMv).length)) <|
          some (0, (g_.1, ((g_.2.1 ++ [y22.1]), (g_.2.2 ++ [m_]))))) (bothK (bothK (chk (capOk 88 (g_.2.1.length + ([y22.1] : List TPos).length)) <|
            chk (capOk 24 (g_.2.2.length + ([m_] : List TMv).length)) <|
            some (0, (g_.1, ((g_.2.1 ++ [y22.1]), (g_.2.2 ++ [m_]))))) (bothK (chk (capOk 88 (g_.2.1.length + ([y22.1] : List TPos).length)) <|
              chk (capOk 24 (g_.2.2.length + ([m_] : List TMv).length)) <|
              some (0, (g_.1, ((g_.2.1 ++ [y22.1]), (g_.2.2 ++ [m_]))))) (chk (capOk 88 (g_.2.1.length + ([y22.1] : List TPos).length)) <|
              chk (capOk 24 (g_.2.2.length + ([m_] : List TMv).length)) <|
              some (0, (g_.1, ((g_.2.1 ++ [y22.1]), (g_.2.2 ++ [m_]))))))) (bothK (chk (capOk 88 (g_.2.1.length + ([y22.1] : List TPos).length)) <|
            chk (capOk 24 (g_.2.2.length + ([m_] : List TMv).length)) <|
            some (0, (g_.1, ((g_.2.1 ++ [y22.1]), (g_.2.2 ++ [m_]))))) (bothK (bothK (chk (capOk 88 (g_.2.1.length + ([y22.1] : List TPos).length)) <|
              chk (capOk 24 (g_.2.2.length + ([m_] : List TMv).length)) <|
              some (0, (g_.1, ((g_.2.1 ++ [y22.1]), (g_.2.2 ++ [m_]))))) (chk (capOk 88 (g_.2.1.length + ([y22.1] : List TPos).length)) <|
              chk (capOk 24 (g_.2.2.length + ([m_] : List TMv).length)) <|
              some (0, (g_.1, ((g_.2.1 ++ [y22.1]), (g_.2.2 ++ [m_])))))) (bothK (chk (capOk 88 (g_.2.1.length + ([y22.1] : List TPos).length)) <|
              chk (capOk 24 (g_.2.2.length + ([m_] : List TMv).length)) <|
              some (0, (g_.1, ((g_.2.1 ++ [y22.1]), (g_.2.2 ++ [m_]))))) (chk (capOk 88 (g_.2.1.length + ([y22.1] : List TPos).length)) <|
              chk (capOk 24 (g_.2.2.length + ([m_] : List TMv).length)) <|
              some (0, (g_.1, ((g_.2.1 ++ [y22.1]), (g_.2.2 ++ [m_])))))))))) (bothK (bothK (bothK (chk (capOk 88 (g_.2.1.length + ([y22.1] : List TPos).length)) <|
            chk (capOk 24 (g_.2.2.length + ([m_] : List TMv).length)) <|
            some (0, (g_.1, ((g_.2.1 ++ [y22.1]), (g_.2.2 ++ [m_]))))) (bothK (chk (capOk 88 (g_.2.1.length + ([y22.1] : List TPos).length)) <|
              chk (capOk 24 (g_.2.2.length + ([m_] : List TMv).length)) <|
              some (0, (g_.1, ((g_.2.1 ++ [y22.1]), (g_.2.2 ++ [m_]))))) (chk (capOk 88 (g_.2.1.length + ([y22.1] : List TPos).length)) <|
              chk (capOk 24 (g_.2.2.length + ([m_] : List TMv).length)) <|
              some (0, (g_.1, ((g_.2.1 ++ [y22.1]), (g_.2.2 ++ [m_]))))))) (bothK (bothK (chk (capOk 88 (g_.2.1.length + ([y22.1] : List TPos).length)) <|
              chk (capOk 24 (g_.2.2.length + ([m_] : List TMv).length)) <|
              some (0, (g_.1, ((g_.2.1 ++ [y22.1]), (g_.2.2 ++ [m_]))))) (chk (capOk 88 (g_.2.1.length + ([y22.1] : List TPos).length)) <|
              chk (capOk 24 (g_.2.2.length + ([m_] : List TMv).length)) <|
              some (0, (g_.1, ((g_.2.1 ++ [y22.1]), (g_.2.2 ++ [m_])))))) (chk (capOk 88 (g_.2.1.length + ([y22.1] : List TPos).length)) <|
            chk (capOk 24 (g_.2.2.length + ([m_] : List TMv).length)) <|
            some (0, (g_.1, ((g_.2.1 ++ [y22.1]), (g_.2.2 ++ [m_]))))))) (bothK (bothK (chk (capOk 88 (g_.2.1.length + ([y22.1] : List TPos).length)) <|
            chk (capOk 24 (g_.2.2.length + ([m_] : List TMv).length)) <|
            some (0, (g_.1, ((g_.2.1 ++ [y22.1]), (g_.2.2 ++ [m_]))))) (bothK (bothK (chk (capOk 88 (g_.2.1.length + ([y22.1] : List TPos).length)) <|
              chk (capOk 24 (g_.2.2.length + ([m_] : List TMv).length)) <|
              some (0, (g_.1, ((g_.2.1 ++ [y22.1]), (g_.2.2 ++ [m_]))))) (chk (capOk 88 (g_.2.1.length + ([y22.1] : List TPos).length)) <|
              chk (capOk 24 (g_.2.2.length + ([m_] : List TMv).length)) <|
              some (0, (g_.1, ((g_.2.1 ++ [y22.1]), (g_.2.2 ++ [m_])))))) (bothK (chk (capOk 88 (g_.2.1.length + ([y22.1] : List TPos).length)) <|
              chk (capOk 24 (g_.2.2.length + ([m_] : List TMv).length)) <|
              some (0, (g_.1, ((g_.2.1 ++ [y22.1]), (g_.2.2 ++ [m_]))))) (chk (capOk 88 (g_.2.1.length + ([y22.1] : List TPos).length)) <|
              chk (capOk 24 (g_.2.2.length + ([m_] : List TMv).length)) <|
              some (0, (g_.1, ((g_.2.1 ++ [y22.1]), (g_.2.2 ++ [m_])))))))) (bothK (bothK (bothK (chk (capOk 88 (g_.2.1.length + ([y22.1] : List TPos).length)) <|
              chk (capOk 24 (g_.2.2.length + ([m_] : List TMv).length)) <|
              some (0, (g_.1, ((g_.2.1 ++ [y22.1]), (g_.2.2 ++ [m_]))))) (chk (capOk 88 (g_.2.1.length + ([y22.1] : List TPos).length)) <|
              chk (capOk 24 (g_.2.2.length + ([m_] : List TMv).length)) <|
              some (0, (g_.1, ((g_.2.1 ++ [y22.1]), (g_.2.2 ++ [m_])))))) (chk (capOk 88 (g_.2.1.length + ([y22.1] : List TPos).length)) <|
            chk (capOk 24 (g_.2.2.length + ([m_] : List TMv).length)) <|
            some (0, (g_.1, ((g_.2.1 ++ [y22.1]), (g_.2.2 ++ [m_])))))) (bothK (bothK (chk (capOk 88 (g_.2.1.length + ([y22.1] : List TPos).length)) <|
              chk (capOk 24 (g_.2.2.length + ([m_] : List TMv).length)) <|
              some (0, (g_.1, ((g_.2.1 ++ [y22.1]), (g_.2.2 ++ [m_]))))) (chk (capOk 88 (g_.2.1.length + ([y22.1] : List TPos).length)) <|
              chk (capOk 24 (g_.2.2.length + ([m_] : List TMv).length)) <|
              some (0, (g_.1, ((g_.2.1 ++ [y22.1]), (g_.2.2 ++ [m_])))))) (chk (capOk 88 (g_.2.1.length + ([y22.1] : List TPos).length)) <|
            chk (capOk 24 (g_.2.2.length + ([m_] : List TMv).length)) <|
            some (0, (g_.1, ((g_.2.1 ++ [y22.1]), (g_.2.2 ++ [m_])))))))))) ((moves_After N g_.1 (gD (([] : LInt), ((([] : LInt), ([] : LInt)), ((0 : Int), (0 : Int)))) g_.2.1 v21) m_).bind fun y24 =>
      bif (!(eqI y24.2 0)) then (some (13, g_))
      else bif (eqI (g_.2.2.length : Int) 400) then (some (9, g_))
      else bothK (bothK (chk (capOk 88 (g_.2.1.length + ([y24.1] : List TPos).length)) <|
          chk (capOk 24 (g_.2.2.length + ([m_] : List TMv).length)) <|
          some (0, (g_.1, ((g_.2.1 ++ [y24.1]), (g_.2.2 ++ [m_]))))) (bothK (bothK (chk (capOk 88 (g_.2.1.length + ([y24.1] : List TPos).length)) <|
            chk (capOk 24 (g_.2.2.length + ([m_] : List TMv).length)) <|
            some (0, (g_.1, ((g_.2.1 ++ [y24.1]), (g_.2.2 ++ [m_]))))) (bothK (chk (capOk 88 (g_.2.1.length + ([y24.1] : List TPos).length)) <|
              chk (capOk 24 (g_.2.2.length + ([m_] : List TMv).length)) <|
              some (0, (g_.1, ((g_.2.1 ++ [y24.1]), (g_.2.2 ++ [m_]))))) (chk (capOk 88 (g_.2.1.length + ([y24.1] : List TPos).length)) <|
              chk (capOk 24 (g_.2.2.length + ([m_] : List TMv).length)) <|
              some (0, (g_.1, ((g_.2.1 ++ [y24.1]), (g_.2.2 ++ [m_]))))))) (bothK (chk (capOk 88 (g_.2.1.length + ([y24.1] : List TPos).length)) <|
            chk (capOk 24 (g_.2.2.length + ([m_] : List TMv).length)) <|
            some (0, (g_.1, ((g_.2.1 ++ [y24.1]), (g_.2.2 ++ [m_]))))) (bothK (bothK (chk (capOk 88 (g_.2.1.length + ([y24.1] : List TPos).length)) <|
              chk (capOk 24 (g_.2.2.length + ([m_] : List TMv).length)) <|
              some (0, (g_.1, ((g_.2.1 ++ [y24.1]), (g_.2.2 ++ [m_]))))) (chk (capOk 88 (g_.2.1.length + ([y24.1] : List TPos).length)) <|
              chk (capOk 24 (g_.2.2.length + ([m_] : List TMv).length)) <|
              some (0, (g_.1, ((g_.2.1 ++ [y24.1]), (g_.2.2 ++ [m_])))))) (bothK (chk (capOk 88 (g_.2.1.length + ([y24.1] : List TPos).length)) <|
              chk (capOk 24 (g_.2.2.length + ([m_] : List TMv).length)) <|
              some (0, (g_.1, ((g_.2.1 ++ [y24.1]), (g_.2.2 ++ [m_]))))) (chk (capOk 88 (g_.2.1.length + ([y24.1] : List TPos).length)) <|
              chk (capOk 24 (g_.2.2.length + ([m_] : List TMv).length)) <|
              some (0, (g_.1, ((g_.2.1 ++ [y24.1]), (g_.2.2 ++ [m_])))))))))) (bothK (bothK (bothK (chk (capOk 88 (g_.2.1.length + ([y24.1] : List TPos).length)) <|
            chk (capOk 24 (g_.2.2.length + ([m_] : List TMv).length)) <|
            some (0, (g_.1, ((g_.2.1 ++ [y24.1]), (g_.2.2 ++ [m_]))))) (bothK (chk (capOk 88 (g_.2.1.length + ([y24.1] : List TPos).length)) <|
              chk (capOk 24 (g_.2.2.length + ([m_] : List TMv).length)) <|
              some (0, (g_.1, ((g_.2.1 ++ [y24.1]), (g_.2.2 ++ [m_]))))) (chk (capOk 88 (g_.2.1.length + ([y24.1] : List TPos).length)) <|
              chk (capOk 24 (g_.2.2.length + ([m_] : List TMv).length)) <|
              some (0, (g_.1, ((g_.2.1 ++ [y24.1]), (g_.2.2 ++ [m_]))))))) (bothK (bothK (chk (capOk 88 (g_.2.1.length + ([y24.1] : List TPos).length)) <|
              chk (capOk 24 (g_.2.2.length + ([m_] : List TMv).length)) <|
              some (0, (g_.1, ((g_.2.1 ++ [y24.1]), (g_.2.2 ++ [m_]))))) (chk (capOk 88 (g_.2.1.length + ([y24.1] : List TPos).length)) <|
              chk (capOk 24 (g_.2.2.length + ([m_] : List TMv).length)) <|
              some (0, (g_.1, ((g_.2.1 ++ [y24.1]), (g_.2.2 ++ [m_])))))) (chk (capOk 88 (g_.2.1.length + ([y24.1] : List TPos).length)) <|
            chk (capOk 24 (g_.2.2.length + ([m_] : List TMv).length)) <|
            some (0, (g_.1, ((g_.2.1 ++ [y24.1]), (g_.2.2 ++ [m_]))))))) (bothK (bothK (chk (capOk 88 (g_.2.1.length + ([y24.1] : List TPos).length)) <|
            chk (capOk 24 (g_.2.2.length + ([m_] : List TMv).length)) <|
            some (0, (g_.1, ((g_.2.1 ++ [y24.1]), (g_.2.2 ++ [m_]))))) (bothK (bothK (chk (capOk 88 (g_.2.1.length + ([y24.1] : List TPos).length)) <|
              chk (capOk 24 (g_.2.2.length + ([m_] : List TMv).length)) <|
              some (0, (g_.1, ((g_.2.1 ++ [y24.1]), (g_.2.2 ++ [m_]))))) (chk (capOk 88 (g_.2.1.length + ([y24.1] : List TPos).length)) <|
              chk (capOk 24 (g_.2.2.length + ([m_] : List TMv).length)) <|
              some (0, (g_.1, ((g_.2.1 ++ [y24.1]), (g_.2.2 ++ [m_])))))) (bothK (chk (capOk 88 (g_.2.1.length + ([y24.1] : List TPos).length)) <|
              chk (capOk 24 (g_.2.2.length + ([m_] : List TMv).length)) <|
              some (0, (g_.1, ((g_.2.1 ++ [y24.1]), (g_.2.2 ++ [m_]))))) (chk (capOk 88 (g_.2.1.length + ([y24.1] : List TPos).length)) <|
              chk (capOk 24 (g_.2.2.length + ([m_] : List TMv).length)) <|
              some (0, (g_.1, ((g_.2.1 ++ [y24.1]), (g_.2.2 ++ [m_])))))))) (bothK (bothK (bothK (chk (capOk 88 (g_.2.1.length + ([y24.1] : List TPos).length)) <|
              chk (capOk 24 (g_.2.2.length + ([m_] : List TMv).length)) <|
              some (0, (g_.1, ((g_.2.1 ++ [y24.1]), (g_.2.2 ++ [m_]))))) (chk (capOk 88 (g_.2.1.length + ([y24.1] : List TPos).length)) <|
              chk (capOk 24 (g_.2.2.length + ([m_] : List TMv).length)) <|
              some (0, (g_.1, ((g_.2.1 ++ [y24.1]), (g_.2.2 ++ [m_])))))) (chk (capOk 88 (g_.2.1.length + ([y24.1] : List TPos).length)) <|
            chk (capOk 24 (g_.2.2.length + ([m_] : List TMv).length)) <|
            some (0, (g_.1, ((g_.2.1 ++ [y24.1]), (g_.2.2 ++ [m_])))))) (bothK (bothK (chk (capOk 88 (g_.2.1.length + ([y24.1] : List TPos).length)) <|
              chk (capOk 24 (g_.2.2.length + ([m_] : List TMv).length)) <|
              some (0, (g_.1, ((g_.2.1 ++ [y24.1]), (g_.2.2 ++ [m_]))))) (chk (capOk 88 (g_.2.1.length + ([y24.1] : List TPos).length)) <|
              chk (capOk 24 (g_.2.2.length + ([m_] : List TMv).length)) <|
              some (0, (g_.1, ((g_.2.1 ++ [y24.1]), (g_.2.2 ++ [m_])))))) (chk (capOk 88 (g_.2.1.length + ([y24.1] : List TPos).length)) <|
            chk (capOk 24 (g_.2.2.length + ([m_] : List TMv).length)) <|
            some (0, (g_.1, ((g_.2.1 ++ [y24.1]), (g_.2.2 ++ [m_]))))))))))) (bothK (bothK (bothK (let v26 : Int := (w64 ((g_.2.1.length : Int) - 1))
        chk ((leI 0 v26) && (ltI v26 (g_.2.1.length : Int))) <|
        bothK ((moves_After N g_.1 (gD (([] : LInt), ((([] : LInt), ([] : LInt)), ((0 : Int), (0 : Int)))) g_.2.1 v26) m_).bind fun y27 =>
          bif (!(eqI y27.2 0)) then (some (13, g_))
          else bif (eqI (g_.2.2.length : Int) 400) then (some (9, g_))
          else bothK (bothK (chk (capOk 88 (g_.2.1.length + ([y27.1] : List TPos).length)) <|
              chk (capOk 24 (g_.2.2.length + ([m_] : List TMv).length)) <|
              some (0, (g_.1, ((g_.2.1 ++ [y27.1]), (g_.2.2 ++ [m_]))))) (bothK (bothK (chk (capOk 88 (g_.2.1.length + ([y27.1] : List TPos).length)) <|
                chk (capOk 24 (g_.2.2.length + ([m_] : List TMv).length)) <|
                some (0, (g_.1, ((g_.2.1 ++ [y27.1]), (g_.2.2 ++ [m_]))))) (bothK (chk (capOk 88 (g_.2.1.length + ([y27.1] : List TPos).length)) <|
                  chk (capOk 24 (g_.2.2.length + ([m_] : List TMv).length)) <|
                  some (0, (g_.1, ((g_.2.1 ++ [y27.1]), (g_.2.2 ++ [m_]))))) (chk (capOk 88 (g_.2.1.length + ([y27.1] : List TPos).length)) <|
                  chk (capOk 24 (g_.2.2.length + ([m_] : List TMv).length)) <|
                  some (0, (g_.1, ((g_.2.1 ++ [y27.1]), (g_.2.2 ++ [m_]))))))) (bothK (chk (capOk 88 (g_.2.1.length + ([y27.1] : List TPos).length)) <|
                chk (capOk 24 (g_.2.2.length + ([m_] : List TMv).length)) <|
                some (0, (g_.1, ((g_.2.1 ++ [y27.1]), (g_.2.2 ++ [m_]))))) (bothK (bothK (chk (capOk 88 (g_.2.1.length + ([y27.1] : List TPos).length)) <|
                  chk (capOk 24 (g_.2.2.length + ([m_] : List TMv).length)) <|
                  some (0, (g_.1, ((g_.2.1 ++ [y27.1]), (g_.2.2 ++ [m_]))))) (chk (capOk 88 (g_.2.1.length + ([y27.1] : List TPos).length)) <|
                  chk (capOk 24 (g_.2.2.length + ([m_] : List TMv).length)) <|
                  some (0, (g_.1, ((g_.2.1 ++ [y27.1]), (g_.2.2 ++ [m_])))))) (bothK (chk (capOk 88 (g_.2.1.length + ([y27.1] : List TPos).length)) <|
                  chk (capOk 24 (g_.2.2.length + ([m_] : List TMv).length)) <|
                  some (0, (g_.1, ((g_.2.1 ++ [y27.1]), (g_.2.2 ++ [m_]))))) (chk (capOk 88 (g_.2.1.length + ([y27.1] : List TPos).length)) <|
                  chk (capOk 24 (g_.2.2.length + ([m_] : List TMv).length)) <|
                  some (0, (g_.1, ((g_.2.1 ++ [y27.1]), (g_.2.2 ++ [m_])))))))))) (bothK (bothK (bothK (chk (capOk 88 (g_.2.1.length + ([y27.1] : List TPos).length)) <|
                chk (capOk 24 (g_.2.2.length + ([m_] : List TMv).length)) <|
                some (0, (g_.1, ((g_.2.1 ++ [y27.1]), (g_.2.2 ++ [m_]))))) (bothK (chk (capOk 88 (g_.2.1.length + ([y27.1] : List TPos).length)) <|
                  chk (capOk 24 (g_.2.2.length + ([m_] : List TMv).length)) <|
                  some (0, (g_.1, ((g_.2.1 ++ [y27.1]), (g_.2.2 ++ [m_]))))) (chk (capOk 88 (g_.2.1.length + ([y27.1] : List TPos).length)) <|
                  chk (capOk 24 (g_.2.2.length + ([m_] : List TMv).length)) <|
                  some (0, (g_.1, ((g_.2.1 ++ [y27.1]), (g_.2.2 ++ [m_]))))))) (bothK (bothK (chk (capOk 88 (g_.2.1.length + ([y27.1] : List TPos).length)) <|
                  chk (capOk 24 (g_.2.2.length + ([m_] : List TMv).length)) <|
                  some (0, (g_.1, ((g_.2.1 ++ [y27.1]), (g_.2.2 ++ [m_]))))) (chk (capOk 88 (g_.2.1.length + ([y27.1] : List TPos).length)) <|
                  chk (capOk 24 (g_.2.2.length + ([m_] : List TMv).length)) <|
                  some (0, (g_.1, ((g_.2.1 ++ [y27.1]), (g_.2.2 ++ [m_])))))) (chk (capOk 88 (g_.2.1.length + ([y27.1] : List TPos).length)) <|
                chk (capOk 24 (g_.2.2.length + ([m_] : List TMv).length)) <|
                some (0, (g_.1, ((g_.2.1 ++ [y27.1]), (g_.2.2 ++ [m_]))))))) (bothK (bothK (chk (capOk 88 (g_.2.1.length + ([y27.1] : List TPos).length)) <|
                chk (capOk 24 (g_.2.2.length + ([m_] : List TMv).length)) <|
                some (0, (g_.1, ((g_.2.1 ++ [y27.1]), (g_.2.2 ++ [m_]))))) (bothK (bothK (chk (capOk 88 (g_.2.1.length + ([y27.1] : List TPos).length)) <|
                  chk (capOk 24 (g_.2.2.length + ([m_] : List TMv).length)) <|
                  some (0, (g_.1, ((g_.2.1 ++ [y27.1]), (g_.2.2 ++ [m_]))))) (chk (capOk 88 (g_.2.1.length + ([y27.1] : List TPos).length)) <|
                  chk (capOk 24 (g_.2.2.length + ([m_] : List TMv).length)) <|
                  some (0, (g_.1, ((g_.2.1 ++ [y27.1]), (g_.2.2 ++ [m_])))))) (bothK (chk (capOk 88 (g_.2.1.length + ([y27.1] : List TPos).length)) <|
                  chk (capOk 24 (g_.2.2.length + ([m_] : List TMv).length)) <|
                  some (0, (g_.1, ((g_.2.1 ++ [y27.1]), (g_.2.2 ++ [m_]))))) (chk (capOk 88 (g_.2.1.length + ([y27.1] : List TPos).length)) <|
                  chk (capOk 24 (g_.2.2.length + ([m_] : List TMv).length)) <|
                  some (0, (g_.1, ((g_.2.1 ++ [y27.1]), (g_.2.2 ++ [m_])))))))) (bothK (bothK (bothK (chk (capOk 88 (g_.2.1.length + ([y27.1] : List TPos).length)) <|
                  chk (capOk 24 (g_.2.2.length + ([m_] : List TMv).length)) <|
                  some (0, (g_.1, ((g_.2.1 ++ [y27.1]), (g_.2.2 ++ [m_]))))) (chk (capOk 88 (g_.2.1.length + ([y27.1] : List TPos).length)) <|
                  chk (capOk 24 (g_.2.2.length + ([m_] : List TMv).length)) <|
                  some (0, (g_.1, ((g_.2.1 ++ [y27.1]), (g_.2.2 ++ [m_])))))) (chk (capOk 88 (g_.2.1.length + ([y27.1] : List TPos).length)) <|
                chk (capOk 24 (g_.2.2.length + ([m_] : List TMv).length)) <|
                some (0, (g_.1, ((g_.2.1 ++ [y27.1]), (g_.2.2 ++ [m_])))))) (bothK (bothK (chk (capOk 88 (g_.2.1.length + ([y27.1] : List TPos).length)) <|
                  chk (capOk 24 (g_.2.2.length + ([m_] : List TMv).length)) <|
                  some (0, (g_.1, ((g_.2.1 ++ [y27.1]), (g_.2.2 ++ [m_]))))) (chk (capOk 88 (g_.2.1.length + ([y27.1] : List TPos).length)) <|
                  chk (capOk 24 (g_.2.2.length + ([m_] : List TMv).length)) <|
                  some (0, (g_.1, ((g_.2.1 ++ [y27.1]), (g_.2.2 ++ [m_])))))) (chk (capOk 88 (g_.2.1.length + ([y27.1] : List TPos).length)) <|
                chk (capOk 24 (g_.2.2.length + ([m_] : List TMv).length)) <|
                some (0, (g_.1, ((g_.2.1 ++ [y27.1]), (g_.2.2 ++ [m_])))))))))) ((moves_After N g_.1 (gD (([] : LInt), ((([] : LInt), ([] : LInt)), ((0 : Int), (0 : Int)))) g_.2.1 v26) m_).bind fun y29 =>
          bif (!(eqI y29.2 0)) then (some (13, g_))
          else bif (eqI (g_.2.2.length : Int) 400) then (some (9, g_))
          else bothK (bothK (chk (capOk 88 (g_.2.1.length + ([y29.1] : List TPos).length)) <|
              chk (capOk 24 (g_.2.2.length + ([m_] : List TMv).length)) <|
              some (0, (g_.1, ((g_.2.1 ++ [y29.1]), (g_.2.2 ++ [m_]))))) (bothK (bothK (chk (capOk 88 (g_.2.1.length + ([y29.1] : List TPos).length)) <|
                chk (capOk 24 (g_.2.2.length + ([m_] : List TMv).length)) <|
                some (0, (g_.1, ((g_.2.1 ++ [y29.1]), (g_.2.2 ++ [m_]))))) (bothK (chk (capOk 88 (g_.2.1.length + ([y29.1] : List TPos).length)) <|
                  chk (capOk 24 (g_.2.2.length + ([m_] : List TMv).length)) <|
                  some (0, (g_.1, ((g_.2.1 ++ [y29.1]), (g_.2.2 ++ [m_]))))) (chk (capOk 88 (g_.2.1.length + ([y29.1] : List TPos).length)) <|
                  chk (capOk 24 (g_.2.2.length + ([m_] : List TMv).length)) <|
                  some (0, (g_.1, ((g_.2.1 ++ [y29.1]), (g_.2.2 ++ [m_]))))))) (bothK (chk (capOk 88 (g_.2.1.length + ([y29.1] : List TPos).length)) <|
                chk (capOk 24 (g_.2.2.length + ([m_] : List TMv).length)) <|
                some (0, (g_.1, ((g_.2.1 ++ [y29.1]), (g_.2.2 ++ [m_]))))) (bothK (bothK (chk (capOk 88 (g_.2.1.length + ([y29.1] : List TPos).length)) <|
                  chk (capOk 24 (g_.2.2.length + ([m_] : List TMv).length)) <|
                  some (0, (g_.1, ((g_.2.1 ++ [y29.1]), (g_.2.2 ++ [m_]))))) (chk (capOk 88 (g_.2.1.length + ([y29.1] : List TPos).length)) <|
                  chk (capOk 24 (g_.2.2.length + ([m_] : List TMv).length)) <|
                  some (0, (g_.1, ((g_.2.1 ++ [y29.1]), (g_.2.2 ++ [m_])))))) (bothK (chk (capOk 88 (g_.2.1.length + ([y29.1] : List TPos).length)) <|
                  chk (capOk 24 (g_.2.2.length + ([m_] : List TMv).length)) <|
                  some (0, (g_.1, ((g_.2.1 ++ [y29.1]), (g_.2.2 ++ [m_]))))) (chk (capOk 88 (g_.2.1.length + ([y29.1] : List TPos).length)) <|
                  chk (capOk 24 (g_.2.2.length + ([m_] : List TMv).length)) <|
                  some (0, (g_.1, ((g_.2.1 ++ [y29.1]), (g_.2.2 ++ [m_])))))))))) (bothK (bothK (bothK (chk (capOk 88 (g_.2.1.length + ([y29.1] : List TPos).length)) <|
                chk (capOk 24 (g_.2.2.length + ([m_] : List TMv).length)) <|
                some (0, (g_.1, ((g_.2.1 ++ [y29.1]), (g_.2.2 ++ [m_]))))) (bothK (chk (capOk 88 (g_.2.1.length + ([y29.1] : List TPos).length)) <|
                  chk (capOk 24 (g_.2.2.length + ([m_] : List TMv).length)) <|
                  some (0, (g_.1, ((g_.2.1 ++ [y29.1]), (g_.2.2 ++ [m_]))))) (chk (capOk 88 (g_.2.1.length + ([y29.1] : List TPos).length)) <|
                  chk (capOk 24 (g_.2.2.length + ([m_] : List TMv).length)) <|
                  some (0, (g_.1, ((g_.2.1 ++ [y29.1]), (g_.2.2 ++ [m_]))))))) (bothK (bothK (chk (capOk 88 (g_.2.1.length + ([y29.1] : List TPos).length)) <|
                  chk (capOk 24 (g_.2.2.length + ([m_] : List TMv).length)) <|
                  some (0, (g_.1, ((g_.2.1 ++ [y29.1]), (g_.2.2 ++ [m_]))))) (chk (capOk 88 (g_.2.1.length + ([y29.1] : List TPos).length)) <|
                  chk (capOk 24 (g_.2.2.length + ([m_] : List TMv).length)) <|
                  some (0, (g_.1, ((g_.2.1 ++ [y29.1]), (g_.2.2 ++ [m_])))))) (chk (capOk 88 (g_.2.1.length + ([y29.1] : List TPos).length)) <|
                chk (capOk 24 (g_.2.2.length + ([m_] : List TMv).length)) <|
                some (0, (g_.1, ((g_.2.1 ++ [y29.1]), (g_.2.2 ++ [m_]))))))) (bothK (bothK (chk (capOk 88 (g_.2.1.length + ([y29.1] : List TPos).length)) <|
                chk (capOk 24 (g_.2.2.length + ([m_] : List TMv).length)) <|
                some (0, (g_.1, ((g_.2.1 ++ [y29.1]), (g_.2.2 ++ [m_]))))) (bothK (bothK (chk (capOk 88 (g_.2.1.length + ([y29.1] : List TPos).length)) <|
                  chk (capOk 24 (g_.2.2.length + ([m_] : List TMv).length)) <|
                  some (0, (g_.1, ((g_.2.1 ++ [y29.1]), (g_.2.2 ++ [m_]))))) (chk (capOk 88 (g_.2.1.length + ([y29.1] : List TPos).length)) <|
                  chk (capOk 24 (g_.2.2.length + ([m_] : List TMv).length)) <|
                  some (0, (g_.1, ((g_.2.1 ++ [y29.1]), (g_.2.2 ++ [m_])))))) (bothK (chk (capOk 88 (g_.2.1.length + ([y29.1] : List TPos).length)) <|
                  chk (capOk 24 (g_.2.2.length + ([m_] : List TMv).length)) <|
                  some (0, (g_.1, ((g_.2.1 ++ [y29.1]), (g_.2.2 ++ [m_]))))) (chk (capOk 88 (g_.2.1.length + ([y29.1] : List TPos).length)) <|
                  chk (capOk 24 (g_.2.2.length + ([m_] : List TMv).length)) <|
                  some (0, (g_.1, ((g_.2.1 ++ [y29.1]), (g_.2.2 ++ [m_])))))))) (bothK (bothK (bothK (chk (capOk 88 (g_.2.1.length + ([y29.1] : List TPos).length)) <|
                  chk (capOk 24 (g_.2.2.length + ([m_] : List TMv).length)) <|
                  some (0, (g_.1, ((g_.2.1 ++ [y29.1]), (g_.2.2 ++ [m_]))))) (chk (capOk 88 (g_.2.1.length + ([y29.1] : List TPos).length)) <|
                  chk (capOk 24 (g_.2.2.length + ([m_] : List TMv).length)) <|
                  some (0, (g_.1, ((g_.2.1 ++ [y29.1]), (g_.2.2 ++ [m_])))))) (chk (capOk 88 (g_.2.1.length + ([y29.1] : List TPos).length)) <|
                chk (capOk 24 (g_.2.2.length + ([m_] : List TMv).length)) <|
                some (0, (g_.1, ((g_.2.1 ++ [y29.1]), (g_.2.2 ++ [m_])))))) (bothK (bothK (chk (capOk 88 (g_.2.1.length + ([y29.1] : List TPos).length)) <|
                  chk (capOk 24 (g_.2.2.length + ([m_] : List TMv).length)) <|
                  some (0, (g_.1, ((g_.2.1 ++ [y29.1]), (g_.2.2 ++ [m_]))))) (chk (capOk 88 (g_.2.1.length + ([y29.1] : List TPos).length)) <|
                  chk (capOk 24 (g_.2.2.length + ([m_] : List TMv).length)) <|
                  some (0, (g_.1, ((g_.2.1 ++ [y29.1]), (g_.2.2 ++ [m_])))))) (chk (capOk 88 (g_.2.1.length + ([y29.1] : List TPos).length)) <|
                chk (capOk 24 (g_.2.2.length + ([m_] : List TMv).length)) <|
                some (0, (g_.1, ((g_.2.1 ++ [y29.1]), (g_.2.2 ++ [m_]))))))))))) (let v31 : Int := (w64 ((g_.2.1.length : Int) - 1))
        chk ((leI 0 v31) && (ltI v31 (g_.2.1.length : Int))) <|
        (moves_After N g_.1 (gD (([] : LInt), ((([] : LInt), ([] : LInt)), ((0 : Int), (0 : Int)))) g_.2.1 v31) m_).bind fun y32 =>
        bif (!(eqI y32.2 0)) then (some (13, g_))
        else bif (eqI (g_.2.2.length : Int) 400) then (some (9, g_))
        else bothK (bothK (chk (capOk 88 (g_.2.1.length + ([y32.1] : List TPos).length)) <|
            chk (capOk 24 (g_.2.2.length + ([m_] : List TMv).length)) <|
            some (0, (g_.1, ((g_.2.1 ++ [y32.1]), (g_.2.2 ++ [m_]))))) (bothK (bothK (chk (capOk 88 (g_.2.1.length + ([y32.1] : List TPos).length)) <|
              chk (capOk 24 (g_.2.2.length + ([m_] : List TMv).length)) <|
              some (0, (g_.1, ((g_.2.1 ++ [y32.1]), (g_.2.2 ++ [m_]))))) (bothK (chk (capOk 88 (g_.2.1.length + ([y32.1] : List TPos).length)) <|
                chk (capOk 24 (g_.2.2.length + ([m_] : List TMv).length)) <|
                some (0, (g_.1, ((g_.2.1 ++ [y32.1]), (g_.2.2 ++ [m_]))))) (chk (capOk 88 (g_.2.1.length + ([y32.1] : List TPos).length)) <|
                chk (capOk 24 (g_.2.2.length + ([m_] : List TMv).length)) <|
                some (0, (g_.1, ((g_.2.1 ++ [y32.1]), (g_.2.2 ++ [m_]))))))) (bothK (chk (capOk 88 (g_.2.1.length + ([y32.1] : List TPos).length)) <|
              chk (capOk 24 (g_.2.2.length + ([m_] : List TMv).length)) <|
              some (0, (g_.1, ((g_.2.1 ++ [y32.1]), (g_.2.2 ++ [m_]))))) (bothK (bothK (chk (capOk 88 (g_.2.1.length + ([y32.1] : List TPos).length)) <|
                chk (capOk 24 (g_.2.2.length + ([m_] : List TMv).length)) <|
                some (0, (g_.1, ((g_.2.1 ++ [y32.1]), (g_.2.2 ++ [m_]))))) (chk (capOk 88 (g_.2.1.length + ([y32.1] : List TPos).length)) <|
                chk (capOk 24 (g_.2.2.length + ([m_] : List TMv).length)) <|
                some (0, (g_.1, ((g_.2.1 ++ [y32.1]), (g_.2.2 ++ [m_])))))) (bothK (chk (capOk 88 (g_.2.1.length + ([y32.1] : List TPos).length)) <|
                chk (capOk 24 (g_.2.2.length + ([m_] : List TMv).length)) <|
                some (0, (g_.1, ((g_.2.1 ++ [y32.1]), (g_.2.2 ++ [m_]))))) (chk (capOk 88 (g_.2.1.length + ([y32.1] : List TPos).length)) <|
                chk (capOk 24 (g_.2.2.length + ([m_] : List TMv).length)) <|
                some (0, (g_.1, ((g_.2.1 ++ [y32.1]), (g_.2.2 ++ [m_])))))))))) (bothK (bothK (bothK (chk (capOk 88 (g_.2.1.length + ([y32.1] : List TPos).length)) <|
              chk (capOk 24 (g_.2.2.length + ([m_] : List TMv).length)) <|
              some (0, (g_.1, ((g_.2.1 ++ [y32.1]), (g_.2.2 ++ [m_]))))) (bothK (chk (capOk 88 (g_.2.1.length + ([y32.1] : List TPos).length)) <|
                chk (capOk 24 (g_.2.2.length + ([m_] : List TMv).length)) <|
                some (0, (g_.1, ((g_.2.1 ++ [y32.1]), (g_.2.2 ++ [m_]))))) (chk (capOk 88 (g_.2.1.length + ([y32.1] : List TPos).length)) <|
                chk (capOk 24 (g_.2.2.length + ([m_] : List TMv).length)) <|
                some (0, (g_.1, ((g_.2.1 ++ [y32.1]), (g_.2.2 ++ [m_]))))))) (bothK (bothK (chk (capOk 88 (g_.2.1.length + ([y32.1] : List TPos).length)) <|
                chk (capOk 24 (g_.2.2.length + ([m_] : List TMv).length)) <|
                some (0, (g_.1, ((g_.2.1 ++ [y32.1]), (g_.2.2 ++ [m_]))))) (chk (capOk 88 (g_.2.1.length + ([y32.1] : List TPos).length)) <|
                chk (capOk 24 (g_.2.2.length + ([m_] : List TMv).length)) <|
                some (0, (g_.1, ((g_.2.1 ++ [y32.1]), (g_.2.2 ++ [m_])))))) (chk (capOk 88 (g_.2.1.length + ([y32.1] : List TPos).length)) <|
              chk (capOk 24 (g_.2.2.length + ([m_] : List TMv).length)) <|
              some (0, (g_.1, ((g_.2.1 ++ [y32.1]), (g_.2.2 ++ [m_]))))))) (bothK (bothK (chk (capOk 88 (g_.2.1.length + ([y32.1] : List TPos).length)) <|
              chk (capOk 24 (g_.2.2.length + ([m_] : List TMv).length)) <|
              some (0, (g_.1, ((g_.2.1 ++ [y32.1]), (g_.2.2 ++ [m_]))))) (bothK (bothK (chk (capOk 88 (g_.2.1.length + ([y32.1] : List TPos).length)) <|
                chk (capOk 24 (g_.2.2.length + ([m_] : List TMv).length)) <|
                some (0, (g_.1, ((g_.2.1 ++ [y32.1]), (g_.2.2 ++ [m_]))))) (chk (capOk 88 (g_.2.1.length + ([y32.1] : List TPos).length)) <|
                chk (capOk 24 (g_.2.2.length + ([m_] : List TMv).length)) <|
                some (0, (g_.1, ((g_.2.1 ++ [y32.1]), (g_.2.2 ++ [m_])))))) (bothK (chk (capOk 88 (g_.2.1.length + ([y32.1] : List TPos).length)) <|
                chk (capOk 24 (g_.2.2.length + ([m_] : List TMv).length)) <|
                some (0, (g_.1, ((g_.2.1 ++ [y32.1]), (g_.2.2 ++ [m_]))))) (chk (capOk 88 (g_.2.1.length + ([y32.1] : List TPos).length)) <|
                chk (capOk 24 (g_.2.2.length + ([m_] : List TMv).length)) <|
                some (0, (g_.1, ((g_.2.1 ++ [y32.1]), (g_.2.2 ++ [m_])))))))) (bothK (bothK (bothK (chk (capOk 88 (g_.2.1.length + ([y32.1] : List TPos).length)) <|
                chk (capOk 24 (g_.2.2.length + ([m_] : List TMv).length)) <|
                some (0, (g_.1, ((g_.2.1 ++ [y32.1]), (g_.2.2 ++ [m_]))))) (chk (capOk 88 (g_.2.1.length + ([y32.1] : List TPos).length)) <|
                chk (capOk 24 (g_.2.2.length + ([m_] : List TMv).length)) <|
                some (0, (g_.1, ((g_.2.1 ++ [y32.1]), (g_.2.2 ++ [m_])))))) (chk (capOk 88 (g_.2.1.length + ([y32.1] : List TPos).length)) <|
              chk (capOk 24 (g_.2.2.length + ([m_] : List TMv).length)) <|
              some (0, (g_.1, ((g_.2.1 ++ [y32.1]), (g_.2.2 ++ [m_])))))) (bothK (bothK (chk (capOk 88 (g_.2.1.length + ([y32.1] : List TPos).length)) <|
                chk (capOk 24 (g_.2.2.length + ([m_] : List TMv).length)) <|
                some (0, (g_.1, ((g_.2.1 ++ [y32.1]), (g_.2.2 ++ [m_]))))) (chk (capOk 88 (g_.2.1.length + ([y32.1] : List TPos).length)) <|
                chk (capOk 24 (g_.2.2.length + ([m_] : List TMv).length)) <|
                some (0, (g_.1, ((g_.2.1 ++ [y32.1]), (g_.2.2 ++ [m_])))))) (chk (capOk 88 (g_.2.1.length + ([y32.1] : List TPos).length)) <|
              chk (capOk 24 (g_.2.2.length + ([m_] : List TMv).length)) <|
              some (0, (g_.1, ((g_.2.1 ++ [y32.1]), (g_.2.2 ++ [m_]))))))))))) (bothK (let v34 : Int := (w64 ((g_.2.1.length : Int) - 1))
      chk ((leI 0 v34) && (ltI v34 (g_.2.1.length : Int))) <|
      bothK ((moves_After N g_.1 (gD (([] : LInt), ((([] : LInt), ([] : LInt)), ((0 : Int), (0 : Int)))) g_.2.1 v34) m_).bind fun y35 =>
        bif (!(eqI y35.2 0)) then (some (13, g_))
        else bif (eqI (g_.2.2.length : Int) 400) then (some (9, g_))
        else bothK (bothK (chk (capOk 88 (g_.2.1.length + ([y35.1] : List TPos).length)) <|
            chk (capOk 24 (g_.2.2.length + ([m_] : List TMv).length)) <|
            some (0, (g_.1, ((g_.2.1 ++ [y35.1]), (g_.2.2 ++ [m_]))))) (bothK (bothK (chk (capOk 88 (g_.2.1.length + ([y35.1] : List TPos).length)) <|
              chk (capOk 24 (g_.2.2.length + ([m_] : List TMv).length)) <|
              some (0, (g_.1, ((g_.2.1 ++ [y35.1]), (g_.2.2 ++ [m_]))))) (bothK (chk (capOk 88 (g_.2.1.length + ([y35.1] : List TPos).length)) <|
                chk (capOk 24 (g_.2.2.length + ([m_] : List TMv).length)) <|
                some (0, (g_.1, ((g_.2.1 ++ [y35.1]), (g_.2.2 ++ [m_]))))) (chk (capOk 88 (g_.2.1.length + ([y35.1] : List TPos).length)) <|
                chk (capOk 24 (g_.2.2.length + ([m_] : List TMv).length)) <|
                some (0, (g_.1, ((g_.2.1 ++ [y35.1]), (g_.2.2 ++ [m_]))))))) (bothK (chk (capOk 88 (g_.2.1.length + ([y35.1] : List TPos).length)) <|
              chk (capOk 24 (g_.2.2.length + ([m_] : List TMv).length)) <|
              some (0, (g_.1, ((g_.2.1 ++ [y35.1]), (g_.2.2 ++ [m_]))))) (bothK (bothK (chk (capOk 88 (g_.2.1.length + ([y35.1] : List TPos).length)) <|
                chk (capOk 24 (g_.2.2.length + ([m_] : List TMv).length)) <|
                some (0, (g_.1, ((g_.2.1 ++ [y35.1]), (g_.2.2 ++ [m_]))))) (chk (capOk 88 (g_.2.1.length + ([y35.1] : List TPos).length)) <|
                chk (capOk 24 (g_.2.2.length + ([m_] : List TMv).length)) <|
                some (0, (g_.1, ((g_.2.1 ++ [y35.1]), (g_.2.2 ++ [m_])))))) (bothK (chk (capOk 88 (g_.2.1.length + ([y35.1] : List TPos).length)) <|
                chk (capOk 24 (g_.2.2.length + ([m_] : List TMv).length)) <|
                some (0, (g_.1, ((g_.2.1 ++ [y35.1]), (g_.2.2 ++ [m_]))))) (chk (capOk 88 (g_.2.1.length + ([y35.1] : List TPos).length)) <|
                chk (capOk 24 (g_.2.2.length + ([m_] : List TMv).length)) <|
                some (0, (g_.1, ((g_.2.1 ++ [y35.1]), (g_.2.2 ++ [m_])))))))))) (bothK (bothK (bothK (chk (capOk 88 (g_.2.1.length + ([y35.1] : List TPos).length)) <|
              chk (capOk 24 (g_.2.2.length + ([m_] : List TMv).length)) <|
              some (0, (g_.1, ((g_.2.1 ++ [y35.1]), (g_.2.2 ++ [m_]))))) (bothK (chk (capOk 88 (g_.2.1.length + ([y35.1] : List TPos).length)) <|
                chk (capOk 24 (g_.2.2.length + ([m_] : List TMv).length)) <|
                some (0, (g_.1, ((g_.2.1 ++ [y35.1]), (g_.2.2 ++ [m_]))))) (chk (capOk 88 (g_.2.1.length + ([y35.1] : List TPos).length)) <|
                chk (capOk 24 (g_.2.2.length + ([m_] : List TMv).length)) <|
                some (0, (g_.1, ((g_.2.1 ++ [y35.1]), (g_.2.2 ++ [m_]))))))) (bothK (bothK (chk (capOk 88 (g_.2.1.length + ([y35.1] : List TPos).length)) <|
                chk (capOk 24 (g_.2.2.length + ([m_] : List TMv).length)) <|
                some (0, (g_.1, ((g_.2.1 ++ [y35.1]), (g_.2.2 ++ [m_]))))) (chk (capOk 88 (g_.2.1.length + ([y35.1] : List TPos).length)) <|
                chk (capOk 24 (g_.2.2.length + ([m_] : List TMv).length)) <|
                some (0, (g_.1, ((g_.2.1 ++ [y35.1]), (g_.2.2 ++ [m_])))))) (chk (capOk 88 (g_.2.1.length + ([y35.1] : List TPos).length)) <|
              chk (capOk 24 (g_.2.2.length + ([m_] : List TMv).length)) <|
              some (0, (g_.1, ((g_.2.1 ++ [y35.1]), (g_.2.2 ++ [m_]))))))) (bothK (bothK (chk (capOk 88 (g_.2.1.length + ([y35.1] : List TPos).length)) <|
              chk (capOk 24 (g_.2.2.length + ([m_] : List TMv).length)) <|
              some (0, (g_.1, ((g_.2.1 ++ [y35.1]), (g_.2.2 ++ [m_]))))) (bothK (bothK (chk (capOk 88 (g_.2.1.length + ([y35.1] : List TPos).length)) <|
                chk (capOk 24 (g_.2.2.length + ([m_] : List TMv).length)) <|
                some (0, (g_.1, ((g_.2.1 ++ [y35.1]), (g_.2.2 ++ [m_]))))) (chk (capOk 88 (g_.2.1.length + ([y35.1] : List TPos).length)) <|
                chk (capOk 24 (g_.2.2.length + ([m_] : List TMv).length)) <|
                some (0, (g_.1, ((g_.2.1 ++ [y35.1]), (g_.2.2 ++ [m_])))))) (bothK (chk (capOk 88 (g_.2.1.length + ([y35.1] : List TPos).length)) <|
                chk (capOk 24 (g_.2.2.length + ([m_] : List TMv).length)) <|
                some (0, (g_.1, ((g_.2.1 ++ [y35.1]), (g_.2.2 ++ [m_]))))) (chk (capOk 88 (g_.2.1.length + ([y35.1] : List TPos).length)) <|
                chk (capOk 24 (g_.2.2.length + ([m_] : List TMv).length)) <|
                some (0, (g_.1, ((g_.2.1 ++ [y35.1]), (g_.2.2 ++ [m_])))))))) (bothK (bothK (bothK (chk (capOk 88 (g_.2.1.length + ([y35.1] : List TPos).length)) <|
                chk (capOk 24 (g_.2.2.length + ([m_] : List TMv).length)) <|
                some (0, (g_.1, ((g_.2.1 ++ [y35.1]), (g_.2.2 ++ [m_]))))) (chk (capOk 88 (g_.2.1.length + ([y35.1] : List TPos).length)) <|
                chk (capOk 24 (g_.2.2.length + ([m_] : List TMv).length)) <|
                some (0, (g_.1, ((g_.2.1 ++ [y35.1]), (g_.2.2 ++ [m_])))))) (chk (capOk 88 (g_.2.1.length + ([y35.1] : List TPos).length)) <|
              chk (capOk 24 (g_.2.2.length + ([m_] : List TMv).length)) <|
              some (0, (g_.1, ((g_.2.1 ++ [y35.1]), (g_.2.2 ++ [m_])))))) (bothK (bothK (chk (capOk 88 (g_.2.1.length + ([y35.1] : List TPos).length)) <|
                chk (capOk 24 (g_.2.2.length + ([m_] : List TMv).length)) <|
                some (0, (g_.1, ((g_.2.1 ++ [y35.1]), (g_.2.2 ++ [m_]))))) (chk (capOk 88 (g_.2.1.length + ([y35.1] : List TPos).length)) <|
                chk (capOk 24 (g_.2.2.length + ([m_] : List TMv).length)) <|
                some (0, (g_.1, ((g_.2.1 ++ [y35.1]), (g_.2.2 ++ [m_])))))) (chk (capOk 88 (g_.2.1.length + ([y35.1] : List TPos).length)) <|
              chk (capOk 24 (g_.2.2.length + ([m_] : List TMv).length)) <|
              some (0, (g_.1, ((g_.2.1 ++ [y35.1]), (g_.2.2 ++ [m_])))))))))) ((moves_After N g_.1 (gD (([] : LInt), ((([] : LInt), ([] : LInt)), ((0 : Int), (0 : Int)))) g_.2.1 v34) m_).bind fun y37 =>
        bif (!(eqI y37.2 0)) then (some (13, g_))
        else bif (eqI (g_.2.2.length : Int) 400) then (some (9, g_))
        else bothK (bothK (chk (capOk 88 (g_.2.1.length + ([y37.1] : List TPos).length)) <|
            chk (capOk 24 (g_.2.2.length + ([m_] : List TMv).length)) <|
            some (0, (g_.1, ((g_.2.1 ++ [y37.1]), (g_.2.2 ++ [m_]))))) (bothK (bothK (chk (capOk 88 (g_.2.1.length + ([y37.1] : List TPos).length)) <|
              chk (capOk 24 (g_.2.2.length + ([m_] : List TMv).length)) <|
              some (0, (g_.1, ((g_.2.1 ++ [y37.1]), (g_.2.2 ++ [m_]))))) (bothK (chk (capOk 88 (g_.2.1.length + ([y37.1] : List TPos).length)) <|
                chk (capOk 24 (g_.2.2.length + ([m_] : List TMv).length)) <|
                some (0, (g_.1, ((g_.2.1 ++ [y37.1]), (g_.2.2 ++ [m_]))))) (chk (capOk 88 (g_.2.1.length + ([y37.1] : List TPos).length)) <|
                chk (capOk 24 (g_.2.2.length + ([m_] : List TMv).length)) <|
                some (0, (g_.1, ((g_.2.1 ++ [y37.1]), (g_.2.2 ++ [m_]))))))) (bothK (chk (capOk 88 (g_.2.1.length + ([y37.1] : List TPos).length)) <|
              chk (capOk 24 (g_.2.2.length + ([m_] : List TMv).length)) <|
              some (0, (g_.1, ((g_.2.1 ++ [y37.1]), (g_.2.2 ++ [m_]))))) (bothK (bothK (chk (capOk 88 (g_.2.1.length + ([y37.1] : List TPos).length)) <|
                chk (capOk 24 (g_.2.2.length + ([m_] : List TMv).length)) <|
                some (0, (g_.1, ((g_.2.1 ++ [y37.1]), (g_.2.2 ++ [m_]))))) (chk (capOk 88 (g_.2.1.length + ([y37.1] : List TPos).length)) <|
                chk (capOk 24 (g_.2.2.length + ([m_] : List TMv).length)) <|
                some (0, (g_.1, ((g_.2.1 ++ [y37.1]), (g_.2.2 ++ [m_])))))) (bothK (chk (capOk 88 (g_.2.1.length + ([y37.1] : List TPos).length)) <|
                chk (capOk 24 (g_.2.2.length + ([m_] : List TMv).length)) <|
                some (0, (g_.1, ((g_.2.1 ++ [y37.1]), (g_.2.2 ++ [m_]))))) (chk (capOk 88 (g_.2.1.length + ([y37.1] : List TPos).length)) <|
                chk (capOk 24 (g_.2.2.length + ([m_] : List TMv).length)) <|
                some (0, (g_.1, ((g_.2.1 ++ [y37.1]), (g_.2.2 ++ [m_])))))))))) (bothK (bothK (bothK (chk (capOk 88 (g_.2.1.length + ([y37.1] : List TPos).length)) <|
              chk (capOk 24 (g_.2.2.length + ([m_] : List TMv).length)) <|
              some (0, (g_.1, ((g_.2.1 ++ [y37.1]), (g_.2.2 ++ [m_]))))) (bothK (chk (capOk 88 (g_.2.1.length + ([y37.1] : List TPos).length)) <|
                chk (capOk 24 (g_.2.2.length + ([m_] : List TMv).length)) <|
                some (0, (g_.1, ((g_.2.1 ++ [y37.1]), (g_.2.2 ++ [m_]))))) (chk (capOk 88 (g_.2.1.length + ([y37.1] : List TPos).length)) <|
                chk (capOk 24 (g_.2.2.length + ([m_] : List TMv).length)) <|
                some (0, (g_.1, ((g_.2.1 ++ [y37.1]), (g_.2.2 ++ [m_]))))))) (bothK (bothK (chk (capOk 88 (g_.2.1.length + ([y37.1] : List TPos).length)) <|
                chk (capOk 24 (g_.2.2.length + ([m_] : List TMv).length)) <|
                some (0, (g_.1, ((g_.2.1 ++ [y37.1]), (g_.2.2 ++ [m_]))))) (chk (capOk 88 (g_.2.1.length + ([y37.1] : List TPos).length)) <|
                chk (capOk 24 (g_.2.2.length + ([m_] : List TMv).length)) <|
                some (0, (g_.1, ((g_.2.1 ++ [y37.1]), (g_.2.2 ++ [m_])))))) (chk (capOk 88 (g_.2.1.length + ([y37.1] : List TPos).length)) <|
              chk (capOk 24 (g_.2.2.length + ([m_] : List TMv).length)) <|
              some (0, (g_.1, ((g_.2.1 ++ [y37.1]), (g_.2.2 ++ [m_]))))))) (bothK (bothK (chk (capOk 88 (g_.2.1.length + ([y37.1] : List TPos).length)) <|
              chk (capOk 24 (g_.2.2.length + ([m_] : List TMv).length)) <|
              some (0, (g_.1, ((g_.2.1 ++ [y37.1]), (g_.2.2 ++ [m_]))))) (bothK (bothK (chk (capOk 88 (g_.2.1.length + ([y37.1] : List TPos).length)) <|
                chk (capOk 24 (g_.2.2.length + ([m_] : List TMv).length)) <|
                some (0, (g_.1, ((g_.2.1 ++ [y37.1]), (g_.2.2 ++ [m_]))))) (chk (capOk 88 (g_.2.1.length + ([y37.1] : List TPos).length)) <|
                chk (capOk 24 (g_.2.2.length + ([m_] : List TMv).length)) <|
                some (0, (g_.1, ((g_.2.1 ++ [y37.1]), (g_.2.2 ++ [m_])))))) (bothK (chk (capOk 88 (g_.2.1.length + ([y37.1] : List TPos).length)) <|
                chk (capOk 24 (g_.2.2.length + ([m_] : List TMv).length)) <|
                some (0, (g_.1, ((g_.2.1 ++ [y37.1]), (g_.2.2 ++ [m_]))))) (chk (capOk 88 (g_.2.1.length + ([y37.1] : List TPos).length)) <|
                chk (capOk 24 (g_.2.2.length + ([m_] : List TMv).length)) <|
                some (0, (g_.1, ((g_.2.1 ++ [y37.1]), (g_.2.2 ++ [m_])))))))) (bothK (bothK (bothK (chk (capOk 88 (g_.2.1.length + ([y37.1] : List TPos).length)) <|
                chk (capOk 24 (g_.2.2.length + ([m_] : List TMv).length)) <|
                some (0, (g_.1, ((g_.2.1 ++ [y37.1]), (g_.2.2 ++ [m_]))))) (chk (capOk 88 (g_.2.1.length + ([y37.1] : List TPos).length)) <|
                chk (capOk 24 (g_.2.2.length + ([m_] : List TMv).length)) <|
                some (0, (g_.1, ((g_.2.1 ++ [y37.1]), (g_.2.2 ++ [m_])))))) (chk (capOk 88 (g_.2.1.length + ([y37.1] : List TPos).length)) <|
              chk (capOk 24 (g_.2.2.length + ([m_] : List TMv).length)) <|
              some (0, (g_.1, ((g_.2.1 ++ [y37.1]), (g_.2.2 ++ [m_])))))) (bothK (bothK (chk (capOk 88 (g_.2.1.length + ([y37.1] : List TPos).length)) <|
                chk (capOk 24 (g_.2.2.length + ([m_] : List TMv).length)) <|
                some (0, (g_.1, ((g_.2.1 ++ [y37.1]), (g_.2.2 ++ [m_]))))) (chk (capOk 88 (g_.2.1.length + ([y37.1] : List TPos).length)) <|
                chk (capOk 24 (g_.2.2.length + ([m_] : List TMv).length)) <|
                some (0, (g_.1, ((g_.2.1 ++ [y37.1]), (g_.2.2 ++ [m_])))))) (chk (capOk 88 (g_.2.1.length + ([y37.1] : List TPos).length)) <|
              chk (capOk 24 (g_.2.2.length + ([m_] : List TMv).length)) <|
              some (0, (g_.1, ((g_.2.1 ++ [y37.1]), (g_.2.2 ++ [m_]))))))))))) (bothK (let v39 : Int := (w64 ((g_.2.1.length : Int) - 1))
        chk ((leI 0 v39) && (ltI v39 (g_.2.1.length : Int))) <|
        (moves_After N g_.1 (gD (([] : LInt), ((([] : LInt), ([] : LInt)), ((0 : Int), (0 : Int)))) g_.2.1 v39) m_).bind fun y40 =>
        bif (!(eqI y40.2 0)) then (some (13, g_))
        else bif (eqI (g_.2.2.length : Int) 400) then (some (9, g_))
        else bothK (bothK (chk (capOk 88 (g_.2.1.length + ([y40.1] : List TPos).length)) <|
            chk (capOk 24 (g_.2.2.length + ([m_] : List TMv).length)) <|
            some (0, (g_.1, ((g_.2.1 ++ [y40.1]), (g_.2.2 ++ [m_]))))) (bothK (bothK (chk (capOk 88 (g_.2.1.length + ([y40.1] : List TPos).length)) <|
              chk (capOk 24 (g_.2.2.length + ([m_] : List TMv).length)) <|
              some (0, (g_.1, ((g_.2.1 ++ [y40.1]), (g_.2.2 ++ [m_]))))) (bothK (chk (capOk 88 (g_.2.1.length + ([y40.1] : List TPos).length)) <|
                chk (capOk 24 (g_.2.2.length + ([m_] : List TMv).length)) <|
                some (0, (g_.1, ((g_.2.1 ++ [y40.1]), (g_.2.2 ++ [m_]))))) (chk (capOk 88 (g_.2.1.length + ([y40.1] : List TPos).length)) <|
                chk (capOk 24 (g_.2.2.length + ([m_] : List TMv).length)) <|
                some (0, (g_.1, ((g_.2.1 ++ [y40.1]), (g_.2.2 ++ [m_]))))))) (bothK (chk (capOk 88 (g_.2.1.length + ([y40.1] : List TPos).length)) <|
              chk (capOk 24 (g_.2.2.length + ([m_] : List TMv).length)) <|
              some (0, (g_.1, ((g_.2.1 ++ [y40.1]), (g_.2.2 ++ [m_]))))) (bothK (bothK (chk (capOk 88 (g_.2.1.length + ([y40.1] : List TPos).length)) <|
                chk (capOk 24 (g_.2.2.length + ([m_] : List TMv).length)) <|
                some (0, (g_.1, ((g_.2.1 ++ [y40.1]), (g_.2.2 ++ [m_]))))) (chk (capOk 88 (g_.2.1.length + ([y40.1] : List TPos).length)) <|
                chk (capOk 24 (g_.2.2.length + ([m_] : List TMv).length)) <|
                some (0, (g_.1, ((g_.2.1 ++ [y40.1]), (g_.2.2 ++ [m_])))))) (bothK (chk (capOk 88 (g_.2.1.length + ([y40.1] : List TPos).length)) <|
                chk (capOk 24 (g_.2.2.length + ([m_] : List TMv).length)) <|
                some (0, (g_.1, ((g_.2.1 ++ [y40.1]), (g_.2.2 ++ [m_]))))) (chk (capOk 88 (g_.2.1.length + ([y40.1] : List TPos).length)) <|
                chk (capOk 24 (g_.2.2.length + ([m_] : List TMv).length)) <|
                some (0, (g_.1, ((g_.2.1 ++ [y40.1]), (g_.2.2 ++ [m_])))))))))) (bothK (bothK (bothK (chk (capOk 88 (g_.2.1.length + ([y40.1] : List TPos).length)) <|
              chk (capOk 24 (g_.2.2.length + ([m_] : List TMv).length)) <|
              some (0, (g_.1, ((g_.2.1 ++ [y40.1]), (g_.2.2 ++ [m_]))))) (bothK (chk (capOk 88 (g_.2.1.length + ([y40.1] : List TPos).length)) <|
                chk (capOk 24 (g_.2.2.length + ([m_] : List TMv).length)) <|
                some (0, (g_.1, ((g_.2.1 ++ [y40.1]), (g_.2.2 ++ [m_]))))) (chk (capOk 88 (g_.2.1.length + ([y40.1] : List TPos).length)) <|
                chk (capOk 24 (g_.2.2.length + ([m_] : List TMv).length)) <|
                some (0, (g_.1, ((g_.2.1 ++ [y40.1]), (g_.2.2 ++ [m_]))))))) (bothK (bothK (chk (capOk 88 (g_.2.1.length + ([y40.1] : List TPos).length)) <|
                chk (capOk 24 (g_.2.2.length + ([m_] : List TMv).length)) <|
                some (0, (g_.1, ((g_.2.1 ++ [y40.1]), (g_.2.2 ++ [m_]))))) (chk (capOk 88 (g_.2.1.length + ([y40.1] : List TPos).length)) <|
                chk (capOk 24 (g_.2.2.length + ([m_] : List TMv).length)) <|
                some (0, (g_.1, ((g_.2.1 ++ [y40.1]), (g_.2.2 ++ [m_])))))) (chk (capOk 88 (g_.2.1.length + ([y40.1] : List TPos).length)) <|
              chk (capOk 24 (g_.2.2.length + ([m_] : List TMv).length)) <|
              some (0, (g_.1, ((g_.2.1 ++ [y40.1]), (g_.2.2 ++ [m_]))))))) (bothK (bothK (chk (capOk 88 (g_.2.1.length + ([y40.1] : List TPos).length)) <|
              chk (capOk 24 (g_.2.2.length + ([m_] : List TMv).length)) <|
              some (0, (g_.1, ((g_.2.1 ++ [y40.1]), (g_.2.2 ++ [m_]))))) (bothK (bothK (chk (capOk 88 (g_.2.1.length + ([y40.1] : List TPos).length)) <|
                chk (capOk 24 (g_.2.2.length + ([m_] : List TMv).length)) <|
                some (0, (g_.1, ((g_.2.1 ++ [y40.1]), (g_.2.2 ++ [m_]))))) (chk (capOk 88 (g_.2.1.length + ([y40.1] : List TPos).length)) <|
                chk (capOk 24 (g_.2.2.length + ([m_] : List TMv).length)) <|
                some (0, (g_.1, ((g_.2.1 ++ [y40.1]), (g_.2.2 ++ [m_])))))) (bothK (chk (capOk 88 (g_.2.1.length + ([y40.1] : List TPos).length)) <|
                chk (capOk 24 (g_.2.2.length + ([m_] : List TMv).length)) <|
                some (0, (g_.1, ((g_.2.1 ++ [y40.1]), (g_.2.2 ++ [m_]))))) (chk (capOk 88 (g_.2.1.length + ([y40.1] : List TPos).length)) <|
                chk (capOk 24 (g_.2.2.length + ([m_] : List TMv).length)) <|
                some (0, (g_.1, ((g_.2.1 ++ [y40.1]), (g_.2.2 ++ [m_])))))))) (bothK (bothK (bothK (chk (capOk 88 (g_.2.1.length + ([y40.1] : List TPos).length)) <|
                chk (capOk 24 (g_.2.2.length + ([m_] : List TMv).length)) <|
                some (0, (g_.1, ((g_.2.1 ++ [y40.1]), (g_.2.2 ++ [m_]))))) (chk (capOk 88 (g_.2.1.length + ([y40.1] : List TPos).length)) <|
                chk (capOk 24 (g_.2.2.length + ([m_] : List TMv).length)) <|
                some (0, (g_.1, ((g_.2.1 ++ [y40.1]), (g_.2.2 ++ [m_])))))) (chk (capOk 88 (g_.2.1.length + ([y40.1] : List TPos).length)) <|
              chk (capOk 24 (g_.2.2.length + ([m_] : List TMv).length)) <|
              some (0, (g_.1, ((g_.2.1 ++ [y40.1]), (g_.2.2 ++ [m_])))))) (bothK (bothK (chk (capOk 88 (g_.2.1.length + ([y40.1] : List TPos).length)) <|
                chk (capOk 24 (g_.2.2.length + ([m_] : List TMv).length)) <|
                some (0, (g_.1, ((g_.2.1 ++ [y40.1]), (g_.2.2 ++ [m_]))))) (chk (capOk 88 (g_.2.1.length + ([y40.1] : List TPos).length)) <|
                chk (capOk 24 (g_.2.2.length + ([m_] : List TMv).length)) <|
                some (0, (g_.1, ((g_.2.1 ++ [y40.1]), (g_.2.2 ++ [m_])))))) (chk (capOk 88 (g_.2.1.length + ([y40.1] : List TPos).length)) <|
              chk (capOk 24 (g_.2.2.length + ([m_] : List TMv).length)) <|
              some (0, (g_.1, ((g_.2.1 ++ [y40.1]), (g_.2.2 ++ [m_])))))))))) (let v42 : Int := (w64 ((g_.2.1.length : Int) - 1))
        chk ((leI 0 v42) && (ltI v42 (g_.2.1.length : Int))) <|
        (moves_After N g_.1 (gD (([] : LInt), ((([] : LInt), ([] : LInt)), ((0 : Int), (0 : Int)))) g_.2.1 v42) m_).bind fun y43 =>
        bif (!(eqI y43.2 0)) then (some (13, g_))
        else bif (eqI (g_.2.2.length : Int) 400) then (some (9, g_))
        else bothK (bothK (chk (capOk 88 (g_.2.1.length + ([y43.1] : List TPos).length)) <|
            chk (capOk 24 (g_.2.2.length + ([m_] : List TMv).length)) <|
            some (0, (g_.1, ((g_.2.1 ++ [y43.1]), (g_.2.2 ++ [m_]))))) (bothK (bothK (chk (capOk 88 (g_.2.1.length + ([y43.1] : List TPos).length)) <|
              chk (capOk 24 (g_.2.2.length + ([m_] : List TMv).length)) <|
              some (0, (g_.1, ((g_.2.1 ++ [y43.1]), (g_.2.2 ++ [m_]))))) (bothK (chk (capOk 88 (g_.2.1.length + ([y43.1] : List TPos).length)) <|
                chk (capOk 24 (g_.2.2.length + ([m_] : List TMv).length)) <|
                some (0, (g_.1, ((g_.2.1 ++ [y43.1]), (g_.2.2 ++ [m_]))))) (chk (capOk 88 (g_.2.1.length + ([y43.1] : List TPos).length)) <|
                chk (capOk 24 (g_.2.2.length + ([m_] : List TMv).length)) <|
                some (0, (g_.1, ((g_.2.1 ++ [y43.1]), (g_.2.2 ++ [m_]))))))) (bothK (chk (capOk 88 (g_.2.1.length + ([y43.1] : List TPos).length)) <|
              chk (capOk 24 (g_.2.2.length + ([m_] : List TMv).length)) <|
              some (0, (g_.1, ((g_.2.1 ++ [y43.1]), (g_.2.2 ++ [m_]))))) (bothK (bothK (chk (capOk 88 (g_.2.1.length + ([y43.1] : List TPos).length)) <|
                chk (capOk 24 (g_.2.2.length + ([m_] : List TMv).length)) <|
                some (0, (g_.1, ((g_.2.1 ++ [y43.1]), (g_.2.2 ++ [m_]))))) (chk (capOk 88 (g_.2.1.length + ([y43.1] : List TPos).length)) <|
                chk (capOk 24 (g_.2.2.length + ([m_] : List TMv).length)) <|
                some (0, (g_.1, ((g_.2.1 ++ [y43.1]), (g_.2.2 ++ [m_])))))) (bothK (chk (capOk 88 (g_.2.1.length + ([y43.1] : List TPos).length)) <|
                chk (capOk 24 (g_.2.2.length + ([m_] : List TMv).length)) <|
                some (0, (g_.1, ((g_.2.1 ++ [y43.1]), (g_.2.2 ++ [m_]))))) (chk (capOk 88 (g_.2.1.length + ([y43.1] : List TPos).length)) <|
                chk (capOk 24 (g_.2.2.length + ([m_] : List TMv).length)) <|
                some (0, (g_.1, ((g_.2.1 ++ [y43.1]), (g_.2.2 ++ [m_])))))))))) (bothK (bothK (bothK (chk (capOk 88 (g_.2.1.length + ([y43.1] : List TPos).length)) <|
              chk (capOk 24 (g_.2.2.length + ([m_] : List TMv).length)) <|
              some (0, (g_.1, ((g_.2.1 ++ [y43.1]), (g_.2.2 ++ [m_]))))) (bothK (chk (capOk 88 (g_.2.1.length + ([y43.1] : List TPos).length)) <|
                chk (capOk 24 (g_.2.2.length + ([m_] : List TMv).length)) <|
                some (0, (g_.1, ((g_.2.1 ++ [y43.1]), (g_.2.2 ++ [m_]))))) (chk (capOk 88 (g_.2.1.length + ([y43.1] : List TPos).length)) <|
                chk (capOk 24 (g_.2.2.length + ([m_] : List TMv).length)) <|
                some (0, (g_.1, ((g_.2.1 ++ [y43.1]), (g_.2.2 ++ [m_]))))))) (bothK (bothK (chk (capOk 88 (g_.2.1.length + ([y43.1] : List TPos).length)) <|
                chk (capOk 24 (g_.2.2.length + ([m_] : List TMv).length)) <|
                some (0, (g_.1, ((g_.2.1 ++ [y43.1]), (g_.2.2 ++ [m_]))))) (chk (capOk 88 (g_.2.1.length + ([y43.1] : List TPos).length)) <|
                chk (capOk 24 (g_.2.2.length + ([m_] : List TMv).length)) <|
                some (0, (g_.1, ((g_.2.1 ++ [y43.1]), (g_.2.2 ++ [m_])))))) (chk (capOk 88 (g_.2.1.length + ([y43.1] : List TPos).length)) <|
              chk (capOk 24 (g_.2.2.length + ([m_] : List TMv).length)) <|
              some (0, (g_.1, ((g_.2.1 ++ [y43.1]), (g_.2.2 ++ [m_]))))))) (bothK (bothK (chk (capOk 88 (g_.2.1.length + ([y43.1] : List TPos).length)) <|
              chk (capOk 24 (g_.2.2.length + ([m_] : List TMv).length)) <|
              some (0, (g_.1, ((g_.2.1 ++ [y43.1]), (g_.2.2 ++ [m_]))))) (bothK (bothK (chk (capOk 88 (g_.2.1.length + ([y43.1] : List TPos).length)) <|
                chk (capOk 24 (g_.2.2.length + ([m_] : List TMv).length)) <|
                some (0, (g_.1, ((g_.2.1 ++ [y43.1]), (g_.2.2 ++ [m_]))))) (chk (capOk 88 (g_.2.1.length + ([y43.1] : List TPos).length)) <|
                chk (capOk 24 (g_.2.2.length + ([m_] : List TMv).length)) <|
                some (0, (g_.1, ((g_.2.1 ++ [y43.1]), (g_.2.2 ++ [m_])))))) (bothK (chk (capOk 88 (g_.2.1.length + ([y43.1] : List TPos).length)) <|
                chk (capOk 24 (g_.2.2.length + ([m_] : List TMv).length)) <|
                some (0, (g_.1, ((g_.2.1 ++ [y43.1]), (g_.2.2 ++ [m_]))))) (chk (capOk 88 (g_.2.1.length + ([y43.1] : List TPos).length)) <|
                chk (capOk 24 (g_.2.2.length + ([m_] : List TMv).length)) <|
                some (0, (g_.1, ((g_.2.1 ++ [y43.1]), (g_.2.2 ++ [m_])))))))) (bothK (bothK (bothK (chk (capOk 88 (g_.2.1.length + ([y43.1] : List TPos).length)) <|
                chk (capOk 24 (g_.2.2.length + ([m_] : List TMv).length)) <|
                some (0, (g_.1, ((g_.2.1 ++ [y43.1]), (g_.2.2 ++ [m_]))))) (chk (capOk 88 (g_.2.1.length + ([y43.1] : List TPos).length)) <|
                chk (capOk 24 (g_.2.2.length + ([m_] : List TMv).length)) <|
                some (0, (g_.1, ((g_.2.1 ++ [y43.1]), (g_.2.2 ++ [m_])))))) (chk (capOk 88 (g_.2.1.length + ([y43.1] : List TPos).length)) <|
              chk (capOk 24 (g_.2.2.length + ([m_] : List TMv).length)) <|
              some (0, (g_.1, ((g_.2.1 ++ [y43.1]), (g_.2.2 ++ [m_])))))) (bothK (bothK (chk (capOk 88 (g_.2.1.length + ([y43.1] : List TPos).length)) <|
                chk (capOk 24 (g_.2.2.length + ([m_] : List TMv).length)) <|
                some (0, (g_.1, ((g_.2.1 ++ [y43.1]), (g_.2.2 ++ [m_]))))) (chk (capOk 88 (g_.2.1.length + ([y43.1] : List TPos).length)) <|
                chk (capOk 24 (g_.2.2.length + ([m_] : List TMv).length)) <|
                some (0, (g_.1, ((g_.2.1 ++ [y43.1]), (g_.2.2 ++ [m_])))))) (chk (capOk 88 (g_.2.1.length + ([y43.1] : List TPos).length)) <|
              chk (capOk 24 (g_.2.2.length + ([m_] : List TMv).length)) <|
              some (0, (g_.1, ((g_.2.1 ++ [y43.1]), (g_.2.2 ++ [m_]))))))))))))) (bothK (bothK (let v45 : Int := (w64 ((g_.2.1.length : Int) - 1))
        chk ((leI 0 v45) && (ltI v45 (g_.2.1.length : Int))) <|
        (moves_After N g_.1 (gD (([] : LInt), ((([] : LInt), ([] : LInt)), ((0 : Int), (0 : Int)))) g_.2.1 v45) m_).bind fun y46 =>
        bif (!(eqI y46.2 0)) then (some (13, g_))
        else bif (eqI (g_.2.2.length : Int) 400) then (some (9, g_))
        else bothK (bothK (chk (capOk 88 (g_.2.1.length + ([y46.1] : List TPos).length)) <|
            chk (capOk 24 (g_.2.2.length + ([m_] : List TMv).length)) <|
            some (0, (g_.1, ((g_.2.1 ++ [y46.1]), (g_.2.2 ++ [m_]))))) (bothK (bothK (chk (capOk 88 (g_.2.1.length + ([y46.1] : List TPos).length)) <|
              chk (capOk 24 (g_.2.2.length + ([m_] : List TMv).length)) <|
              some (0, (g_.1, ((g_.2.1 ++ [y46.1]), (g_.2.2 ++ [m_]))))) (bothK (chk (capOk 88 (g_.2.1.length + ([y46.1] : List TPos).length)) <|
                chk (capOk 24 (g_.2.2.length + ([m_] : List TMv).length)) <|
                some (0, (g_.1, ((g_.2.1 ++ [y46.1]), (g_.2.2 ++ [m_]))))) (chk (capOk 88 (g_.2.1.length + ([y46.1] : List TPos).length)) <|
                chk (capOk 24 (g_.2.2.length + ([m_] : List TMv).length)) <|
                some (0, (g_.1, ((g_.2.1 ++ [y46.1]), (g_.2.2 ++ [m_]))))))) (bothK (chk (capOk 88 (g_.2.1.length + ([y46.1] : List TPos).length)) <|
              chk (capOk 24 (g_.2.2.length + ([m_] : List TMv).length)) <|
              some (0, (g_.1, ((g_.2.1 ++ [y46.1]), (g_.2.2 ++ [m_]))))) (bothK (bothK (chk (capOk 88 (g_.2.1.length + ([y46.1] : List TPos).length)) <|
                chk (capOk 24 (g_.2.2.length + ([m_] : List TMv).length)) <|
                some (0, (g_.1, ((g_.2.1 ++ [y46.1]), (g_.2.2 ++ [m_]))))) (chk (capOk 88 (g_.2.1.length + ([y46.1] : List TPos).length)) <|
                chk (capOk 24 (g_.2.2.length + ([m_] : List TMv).length)) <|
                some (0, (g_.1, ((g_.2.1 ++ [y46.1]), (g_.2.2 ++ [m_])))))) (bothK (chk (capOk 88 (g_.2.1.length + ([y46.1] : List TPos).length)) <|
                chk (capOk 24 (g_.2.2.length + ([m_] : List TMv).length)) <|
                some (0, (g_.1, ((g_.2.1 ++ [y46.1]), (g_.2.2 ++ [m_]))))) (chk (capOk 88 (g_.2.1.length + ([y46.1] : List TPos).length)) <|
                chk (capOk 24 (g_.2.2.length + ([m_] : List TMv).length)) <|
                some (0, (g_.1, ((g_.2.1 ++ [y46.1]), (g_.2.2 ++ [m_])))))))))) (bothK (bothK (bothK (chk (capOk 88 (g_.2.1.length + ([y46.1] : List TPos).length)) <|
              chk (capOk 24 (g_.2.2.length + ([m_] : List TMv).length)) <|
              some (0, (g_.1, ((g_.2.1 ++ [y46.1]), (g_.2.2 ++ [m_]))))) (bothK (chk (capOk 88 (g_.2.1.length + ([y46.1] : List TPos).length)) <|
                chk (capOk 24 (g_.2.2.length + ([m_] : List TMv).length)) <|
                some (0, (g_.1, ((g_.2.1 ++ [y46.1]), (g_.2.2 ++ [m_]))))) (chk (capOk 88 (g_.2.1.length + ([y46.1] : List TPos).length)) <|
                chk (capOk 24 (g_.2.2.length + ([m_] : List TMv).length)) <|
                some (0, (g_.1, ((g_.2.1 ++ [y46.1]), (g_.2.2 ++ [m_]))))))) (bothK (bothK (chk (capOk 88 (g_.2.1.length + ([y46.1] : List TPos).length)) <|
                chk (capOk 24 (g_.2.2.length + ([m_] : List TMv).length)) <|
                some (0, (g_.1, ((g_.2.1 ++ [y46.1]), (g_.2.2 ++ [m_]))))) (chk (capOk 88 (g_.2.1.length + ([y46.1] : List TPos).length)) <|
                chk (capOk 24 (g_.2.2.length + ([m_] : List TMv).length)) <|
                some (0, (g_.1, ((g_.2.1 ++ [y46.1]), (g_.2.2 ++ [m_])))))) (chk (capOk 88 (g_.2.1.length + ([y46.1] : List TPos).length)) <|
              chk (capOk 24 (g_.2.2.length + ([m_] : List TMv).length)) <|
              some (0, (g_.1, ((g_.2.1 ++ [y46.1]), (g_.2.2 ++ [m_]))))))) (bothK (bothK (chk (capOk 88 (g_.2.1.length + ([y46.1] : List TPos).length)) <|
              chk (capOk 24 (g_.2.2.length + ([m_] : List TMv).length)) <|
              some (0, (g_.1, ((g_.2.1 ++ [y46.1]), (g_.2.2 ++ [m_]))))) (bothK (bothK (chk (capOk 88 (g_.2.1.length + ([y46.1] : List TPos).length)) <|
                chk (capOk 24 (g_.2.2.length + ([m_] : List TMv).length)) <|
                some (0, (g_.1, ((g_.2.1 ++ [y46.1]), (g_.2.2 ++ [m_]))))) (chk (capOk 88 (g_.2.1.length + ([y46.1] : List TPos).length)) <|
                chk (capOk 24 (g_.2.2.length + ([m_] : List TMv).length)) <|
                some (0, (g_.1, ((g_.2.1 ++ [y46.1]), (g_.2.2 ++ [m_])))))) (bothK (chk (capOk 88 (g_.2.1.length + ([y46.1] : List TPos).length)) <|
                chk (capOk 24 (g_.2.2.length + ([m_] : List TMv).length)) <|
                some (0, (g_.1, ((g_.2.1 ++ [y46.1]), (g_.2.2 ++ [m_]))))) (chk (capOk 88 (g_.2.1.length + ([y46.1] : List TPos).length)) <|
                chk (capOk 24 (g_.2.2.length + ([m_] : List TMv).length)) <|
                some (0, (g_.1, ((g_.2.1 ++ [y46.1]), (g_.2.2 ++ [m_])))))))) (bothK (bothK (bothK (chk (capOk 88 (g_.2.1.length + ([y46.1] : List TPos).length)) <|
                chk (capOk 24 (g_.2.2.length + ([m_] : List TMv).length)) <|
                some (0, (g_.1, ((g_.2.1 ++ [y46.1]), (g_.2.2 ++ [m_]))))) (chk (capOk 88 (g_.2.1.length + ([y46.1] : List TPos).length)) <|
                chk (capOk 24 (g_.2.2.length + ([m_] : List TMv).length)) <|
                some (0, (g_.1, ((g_.2.1 ++ [y46.1]), (g_.2.2 ++ [m_])))))) (chk (capOk 88 (g_.2.1.length + ([y46.1] : List TPos).length)) <|
              chk (capOk 24 (g_.2.2.length + ([m_] : List TMv).length)) <|
              some (0, (g_.1, ((g_.2.1 ++ [y46.1]), (g_.2.2 ++ [m_])))))) (bothK (bothK (chk (capOk 88 (g_.2.1.length + ([y46.1] : List TPos).length)) <|
                chk (capOk 24 (g_.2.2.length + ([m_] : List TMv).length)) <|
                some (0, (g_.1, ((g_.2.1 ++ [y46.1]), (g_.2.2 ++ [m_]))))) (chk (capOk 88 (g_.2.1.length + ([y46.1] : List TPos).length)) <|
                chk (capOk 24 (g_.2.2.length + ([m_] : List TMv).length)) <|
                some (0, (g_.1, ((g_.2.1 ++ [y46.1]), (g_.2.2 ++ [m_])))))) (chk (capOk 88 (g_.2.1.length + ([y46.1] : List TPos).length)) <|
              chk (capOk 24 (g_.2.2.length + ([m_] : List TMv).length)) <|
              some (0, (g_.1, ((g_.2.1 ++ [y46.1]), (g_.2.2 ++ [m_])))))))))) (let v48 : Int := (w64 ((g_.2.1.length : Int) - 1))
        chk ((leI 0 v48) && (ltI v48 (g_.2.1.length : Int))) <|
        (moves_After N g_.1 (gD (([] : LInt), ((([] : LInt), ([] : LInt)), ((0 : Int), (0 : Int)))) g_.2.1 v48) m_).bind fun y49 =>
        bif (!(eqI y49.2 0)) then (some (13, g_))
        else bif (eqI (g_.2.2.length : Int) 400) then (some (9, g_))
        else bothK (bothK (chk (capOk 88 (g_.2.1.length + ([y49.1] : List TPos).length)) <|
            chk (capOk 24 (g_.2.2.length + ([m_] : List TMv).length)) <|
            some (0, (g_.1, ((g_.2.1 ++ [y49.1]), (g_.2.2 ++ [m_]))))) (bothK (bothK (chk (capOk 88 (g_.2.1.length + ([y49.1] : List TPos).length)) <|
              chk (capOk 24 (g_.2.2.length + ([m_] : List TMv).length)) <|
              some (0, (g_.1, ((g_.2.1 ++ [y49.1]), (g_.2.2 ++ [m_]))))) (bothK (chk (capOk 88 (g_.2.1.length + ([y49.1] : List TPos).length)) <|
                chk (capOk 24 (g_.2.2.length + ([m_] : List TMv).length)) <|
                some (0, (g_.1, ((g_.2.1 ++ [y49.1]), (g_.2.2 ++ [m_]))))) (chk (capOk 88 (g_.2.1.length + ([y49.1] : List TPos).length)) <|
                chk (capOk 24 (g_.2.2.length + ([m_] : List TMv).length)) <|
                some (0, (g_.1, ((g_.2.1 ++ [y49.1]), (g_.2.2 ++ [m_]))))))) (bothK (chk (capOk 88 (g_.2.1.length + ([y49.1] : List TPos).length)) <|
              chk (capOk 24 (g_.2.2.length + ([m_] : List TMv).length)) <|
              some (0, (g_.1, ((g_.2.1 ++ [y49.1]), (g_.2.2 ++ [m_]))))) (bothK (bothK (chk (capOk 88 (g_.2.1.length + ([y49.1] : List TPos).length)) <|
                chk (capOk 24 (g_.2.2.length + ([m_] : List TMv).length)) <|
                some (0, (g_.1, ((g_.2.1 ++ [y49.1]), (g_.2.2 ++ [m_]))))) (chk (capOk 88 (g_.2.1.length + ([y49.1] : List TPos).length)) <|
                chk (capOk 24 (g_.2.2.length + ([m_] : List TMv).length)) <|
                some (0, (g_.1, ((g_.2.1 ++ [y49.1]), (g_.2.2 ++ [m_])))))) (bothK (chk (capOk 88 (g_.2.1.length + ([y49.1] : List TPos).length)) <|
                chk (capOk 24 (g_.2.2.length + ([m_] : List TMv).length)) <|
                some (0, (g_.1, ((g_.2.1 ++ [y49.1]), (g_.2.2 ++ [m_]))))) (chk (capOk 88 (g_.2.1.length + ([y49.1] : List TPos).length)) <|
                chk (capOk 24 (g_.2.2.length + ([m_] : List TMv).length)) <|
                some (0, (g_.1, ((g_.2.1 ++ [y49.1]), (g_.2.2 ++ [m_])))))))))) (bothK (bothK (bothK (chk (capOk 88 (g_.2.1.length + ([y49.1] : List TPos).length)) <|
              chk (capOk 24 (g_.2.2.length + ([m_] : List TMv).length)) <|
              some (0, (g_.1, ((g_.2.1 ++ [y49.1]), (g_.2.2 ++ [m_]))))) (bothK (chk (capOk 88 (g_.2.1.length + ([y49.1] : List TPos).length)) <|
                chk (capOk 24 (g_.2.2.length + ([m_] : List TMv).length)) <|
                some (0, (g_.1, ((g_.2.1 ++ [y49.1]), (g_.2.2 ++ [m_]))))) (chk (capOk 88 (g_.2.1.length + ([y49.1] : List TPos).length)) <|
                chk (capOk 24 (g_.2.2.length + ([m_] : List TMv).length)) <|
                some (0, (g_.1, ((g_.2.1 ++ [y49.1]), (g_.2.2 ++ [m_]))))))) (bothK (bothK (chk (capOk 88 (g_.2.1.length + ([y49.1] : List TPos).length)) <|
                chk (capOk 24 (g_.2.2.length + ([m_] : List TMv).length)) <|
                some (0, (g_.1, ((g_.2.1 ++ [y49.1]), (g_.2.2 ++ [m_]))))) (chk (capOk 88 (g_.2.1.length + ([y49.1] : List TPos).length)) <|
                chk (capOk 24 (g_.2.2.length + ([m_] : List TMv).length)) <|
                some (0, (g_.1, ((g_.2.1 ++ [y49.1]), (g_.2.2 ++ [m_])))))) (chk (capOk 88 (g_.2.1.length + ([y49.1] : List TPos).length)) <|
              chk (capOk 24 (g_.2.2.length + ([m_] : List TMv).length)) <|
              some (0, (g_.1, ((g_.2.1 ++ [y49.1]), (g_.2.2 ++ [m_]))))))) (bothK (bothK (chk (capOk 88 (g_.2.1.length + ([y49.1] : List TPos).length)) <|
              chk (capOk 24 (g_.2.2.length + ([m_] : List TMv).length)) <|
              some (0, (g_.1, ((g_.2.1 ++ [y49.1]), (g_.2.2 ++ [m_]))))) (bothK (bothK (chk (capOk 88 (g_.2.1.length + ([y49.1] : List TPos).length)) <|
                chk (capOk 24 (g_.2.2.length + ([m_] : List TMv).length)) <|
                some (0, (g_.1, ((g_.2.1 ++ [y49.1]), (g_.2.2 ++ [m_]))))) (chk (capOk 88 (g_.2.1.length + ([y49.1] : List TPos).length)) <|
                chk (capOk 24 (g_.2.2.length + ([m_] : List TMv).length)) <|
                some (0, (g_.1, ((g_.2.1 ++ [y49.1]), (g_.2.2 ++ [m_])))))) (bothK (chk (capOk 88 (g_.2.1.length + ([y49.1] : List TPos).length)) <|
                chk (capOk 24 (g_.2.2.length + ([m_] : List TMv).length)) <|
                some (0, (g_.1, ((g_.2.1 ++ [y49.1]), (g_.2.2 ++ [m_]))))) (chk (capOk 88 (g_.2.1.length + ([y49.1] : List TPos).length)) <|
                chk (capOk 24 (g_.2.2.length + ([m_] : List TMv).length)) <|
                some (0, (g_.1, ((g_.2.1 ++ [y49.1]), (g_.2.2 ++ [m_])))))))) (bothK (bothK (bothK (chk (capOk 88 (g_.2.1.length + ([y49.1] : List TPos).length)) <|
                chk (capOk 24 (g_.2.2.length + ([m_] : List TMv).length)) <|
                some (0, (g_.1, ((g_.2.1 ++ [y49.1]), (g_.2.2 ++ [m_]))))) (chk (capOk 88 (g_.2.1.length + ([y49.1] : List TPos).length)) <|
                chk (capOk 24 (g_.2.2.length + ([m_] : List TMv).length)) <|
                some (0, (g_.1, ((g_.2.1 ++ [y49.1]), (g_.2.2 ++ [m_])))))) (chk (capOk 88 (g_.2.1.length + ([y49.1] : List TPos).length)) <|
              chk (capOk 24 (g_.2.2.length + ([m_] : List TMv).length)) <|
              some (0, (g_.1, ((g_.2.1 ++ [y49.1]), (g_.2.2 ++ [m_])))))) (bothK (bothK (chk (capOk 88 (g_.2.1.length + ([y49.1] : List TPos).length)) <|
                chk (capOk 24 (g_.2.2.length + ([m_] : List TMv).length)) <|
                some (0, (g_.1, ((g_.2.1 ++ [y49.1]), (g_.2.2 ++ [m_]))))) (chk (capOk 88 (g_.2.1.length + ([y49.1] : List TPos).length)) <|
                chk (capOk 24 (g_.2.2.length + ([m_] : List TMv).length)) <|
                some (0, (g_.1, ((g_.2.1 ++ [y49.1]), (g_.2.2 ++ [m_])))))) (chk (capOk 88 (g_.2.1.length + ([y49.1] : List TPos).length)) <|
              chk (capOk 24 (g_.2.2.length + ([m_] : List TMv).length)) <|
              some (0, (g_.1, ((g_.2.1 ++ [y49.1]), (g_.2.2 ++ [m_]))))))))))) (bothK (let v51 : Int := (w64 ((g_.2.1.length : Int) - 1))
      chk ((leI 0 v51) && (ltI v51 (g_.2.1.length : Int))) <|
      (moves_After N g_.1 (gD (([] : LInt), ((([] : LInt), ([] : LInt)), ((0 : Int), (0 : Int)))) g_.2.1 v51) m_).bind fun y52 =>
      bif (!(eqI y52.2 0)) then (some (13, g_))
      else bif (eqI (g_.2.2.length : Int) 400) then (some (9, g_))
      else bothK (bothK (chk (capOk 88 (g_.2.1.length + ([y52.1] : List TPos).length)) <|
          chk (capOk 24 (g_.2.2.length + ([m_] : List TMv).length)) <|
          some (0, (g_.1, ((g_.2.1 ++ [y52.1]), (g_.2.2 ++ [m_]))))) (bothK (bothK (chk (capOk 88 (g_.2.1.length + ([y52.1] : List TPos).length)) <|
            chk (capOk 24 (g_.2.2.length + ([m_] : List TMv).length)) <|
            some (0, (g_.1, ((g_.2.1 ++ [y52.1]), (g_.2.2 ++ [m_]))))) (bothK (chk (capOk 88 (g_.2.1.length + ([y52.1] : List TPos).length)) <|
              chk (capOk 24 (g_.2.2.length + ([m_] : List TMv).length)) <|
              some (0, (g_.1, ((g_.2.1 ++ [y52.1]), (g_.2.2 ++ [m_]))))) (chk (capOk 88 (g_.2.1.length + ([y52.1] : List TPos).length)) <|
              chk (capOk 24 (g_.2.2.length + ([m_] : List TMv).length)) <|
              some (0, (g_.1, ((g_.2.1 ++ [y52.1]), (g_.2.2 ++ [m_]))))))) (bothK (chk (capOk 88 (g_.2.1.length + ([y52.1] : List TPos).length)) <|
            chk (capOk 24 (g_.2.2.length + ([m_] : List TMv).length)) <|
            some (0, (g_.1, ((g_.2.1 ++ [y52.1]), (g_.2.2 ++ [m_]))))) (bothK (bothK (chk (capOk 88 (g_.2.1.length + ([y52.1] : List TPos).length)) <|
              chk (capOk 24 (g_.2.2.length + ([m_] : List TMv).length)) <|
              some (0, (g_.1, ((g_.2.1 ++ [y52.1]), (g_.2.2 ++ [m_]))))) (chk (capOk 88 (g_.2.1.length + ([y52.1] : List TPos).length)) <|
              chk (capOk 24 (g_.2.2.length + ([m_] : List TMv).length)) <|
              some (0, (g_.1, ((g_.2.1 ++ [y52.1]), (g_.2.2 ++ [m_])))))) (bothK (chk (capOk 88 (g_.2.1.length + ([y52.1] : List TPos).length)) <|
              chk (capOk 24 (g_.2.2.length + ([m_] : List TMv).length)) <|
              some (0, (g_.1, ((g_.2.1 ++ [y52.1]), (g_.2.2 ++ [m_]))))) (chk (capOk 88 (g_.2.1.length + ([y52.1] : List TPos).length)) <|
              chk (capOk 24 (g_.2.2.length + ([m_] : List TMv).length)) <|
              some (0, (g_.1, ((g_.2.1 ++ [y52.1]), (g_.2.2 ++ [m_])))))))))) (bothK (bothK (bothK (chk (capOk 88 (g_.2.1.length + ([y52.1] : List TPos).length)) <|
            chk (capOk 24 (g_.2.2.length + ([m_] : List TMv).length)) <|
            some (0, (g_.1, ((g_.2.1 ++ [y52.1]), (g_.2.2 ++ [m_]))))) (bothK (chk (capOk 88 (g_.2.1.length + ([y52.1] : List TPos).length)) <|
              chk (capOk 24 (g_.2.2.length + ([m_] : List TMv).length)) <|
              some (0, (g_.1, ((g_.2.1 ++ [y52.1]), (g_.2.2 ++ [m_]))))) (chk (capOk 88 (g_.2.1.length + ([y52.1] : List TPos).length)) <|
              chk (capOk 24 (g_.2.2.length + ([m_] : List TMv).length)) <|
              some (0, (g_.1, ((g_.2.1 ++ [y52.1]), (g_.2.2 ++ [m_]))))))) (bothK (bothK (chk (capOk 88 (g_.2.1.length + ([y52.1] : List TPos).length)) <|
              chk (capOk 24 (g_.2.2.length + ([m_] : List TMv).length)) <|
              some (0, (g_.1, ((g_.2.1 ++ [y52.1]), (g_.2.2 ++ [m_]))))) (chk (capOk 88 (g_.2.1.length + ([y52.1] : List TPos).length)) <|
              chk (capOk 24 (g_.2.2.length + ([m_] : List TMv).length)) <|
              some (0, (g_.1, ((g_.2.1 ++ [y52.1]), (g_.2.2 ++ [m_])))))) (chk (capOk 88 (g_.2.1.length + ([y52.1] : List TPos).length)) <|
            chk (capOk 24 (g_.2.2.length + ([m_] : List TMv).length)) <|
            some (0, (g_.1, ((g_.2.1 ++ [y52.1]), (g_.2.2 ++ [m_]))))))) (bothK (bothK (chk (capOk 88 (g_.2.1.length + ([y52.1] : List TPos).length)) <|
            chk (capOk 24 (g_.2.2.length + ([m_] : List TMv).length)) <|
            some (0, (g_.1, ((g_.2.1 ++ [y52.1]), (g_.2.2 ++ [m_]))))) (bothK (bothK (chk (capOk 88 (g_.2.1.length + ([y52.1] : List TPos).length)) <|
              chk (capOk 24 (g_.2.2.length + ([m_] : List TMv).length)) <|
              some (0, (g_.1, ((g_.2.1 ++ [y52.1]), (g_.2.2 ++ [m_]))))) (chk (capOk 88 (g_.2.1.length + ([y52.1] : List TPos).length)) <|
              chk (capOk 24 (g_.2.2.length + ([m_] : List TMv).length)) <|
              some (0, (g_.1, ((g_.2.1 ++ [y52.1]), (g_.2.2 ++ [m_])))))) (bothK (chk (capOk 88 (g_.2.1.length + ([y52.1] : List TPos).length)) <|
              chk (capOk 24 (g_.2.2.length + ([m_] : List TMv).length)) <|
              some (0, (g_.1, ((g_.2.1 ++ [y52.1]), (g_.2.2 ++ [m_]))))) (chk (capOk 88 (g_.2.1.length + ([y52.1] : List TPos).length)) <|
              chk (capOk 24 (g_.2.2.length + ([m_] : List TMv).length)) <|
              some (0, (g_.1, ((g_.2.1 ++ [y52.1]), (g_.2.2 ++ [m_])))))))) (bothK (bothK (bothK (chk (capOk 88 (g_.2.1.length + ([y52.1] : List TPos).length)) <|
              chk (capOk 24 (g_.2.2.length + ([m_] : List TMv).length)) <|
              some (0, (g_.1, ((g_.2.1 ++ [y52.1]), (g_.2.2 ++ [m_]))))) (chk (capOk 88 (g_.2.1.length + ([y52.1] : List TPos).length)) <|
              chk (capOk 24 (g_.2.2.length + ([m_] : List TMv).length)) <|
              some (0, (g_.1, ((g_.2.1 ++ [y52.1]), (g_.2.2 ++ [m_])))))) (chk (capOk 88 (g_.2.1.length + ([y52.1] : List TPos).length)) <|
            chk (capOk 24 (g_.2.2.length + ([m_] : List TMv).length)) <|
            some (0, (g_.1, ((g_.2.1 ++ [y52.1]), (g_.2.2 ++ [m_])))))) (bothK (bothK (chk (capOk 88 (g_.2.1.length + ([y52.1] : List TPos).length)) <|
              chk (capOk 24 (g_.2.2.length + ([m_] : List TMv).length)) <|
              some (0, (g_.1, ((g_.2.1 ++ [y52.1]), (g_.2.2 ++ [m_]))))) (chk (capOk 88 (g_.2.1.length + ([y52.1] : List TPos).length)) <|
              chk (capOk 24 (g_.2.2.length + ([m_] : List TMv).length)) <|
              some (0, (g_.1, ((g_.2.1 ++ [y52.1]), (g_.2.2 ++ [m_])))))) (chk (capOk 88 (g_.2.1.length + ([y52.1] : List TPos).length)) <|
            chk (capOk 24 (g_.2.2.length + ([m_] : List TMv).length)) <|
            some (0, (g_.1, ((g_.2.1 ++ [y52.1]), (g_.2.2 ++ [m_])))))))))) (bothK (let v54 : Int := (w64 ((g_.2.1.length : Int) - 1))
        chk ((leI 0 v54) && (ltI v54 (g_.2.1.length : Int))) <|
        (moves_After N g_.1 (gD (([] : LInt), ((([] : LInt), ([] : LInt)), ((0 : Int), (0 : Int)))) g_.2.1 v54) m_).bind fun y55 =>
        bif (!(eqI y55.2 0)) then (some (13, g_))
        else bif (eqI (g_.2.2.length : Int) 400) then (some (9, g_))
        else bothK (bothK (chk (capOk 88 (g_.2.1.length + ([y55.1] : List TPos).length)) <|
            chk (capOk 24 (g_.2.2.length + ([m_] : List TMv).length)) <|
            some (0, (g_.1, ((g_.2.1 ++ [y55.1]), (g_.2.2 ++ [m_]))))) (bothK (bothK (chk (capOk 88 (g_.2.1.length + ([y55.1] : List TPos).length)) <|
              chk (capOk 24 (g_.2.2.length + ([m_] : List TMv).length)) <|
              some (0, (g_.1, ((g_.2.1 ++ [y55.1]), (g_.2.2 ++ [m_]))))) (bothK (chk (capOk 88 (g_.2.1.length + ([y55.1] : List TPos).length)) <|
                chk (capOk 24 (g_.2.2.length + ([m_] : List TMv).length)) <|
                some (0, (g_.1, ((g_.2.1 ++ [y55.1]), (g_.2.2 ++ [m_]))))) (chk (capOk 88 (g_.2.1.length + ([y55.1] : List TPos).length)) <|
                chk (capOk 24 (g_.2.2.length + ([m_] : List TMv).length)) <|
                some (0, (g_.1, ((g_.2.1 ++ [y55.1]), (g_.2.2 ++ [m_]))))))) (bothK (chk (capOk 88 (g_.2.1.length + ([y55.1] : List TPos).length)) <|
              chk (capOk 24 (g_.2.2.length + ([m_] : List TMv).length)) <|
              some (0, (g_.1, ((g_.2.1 ++ [y55.1]), (g_.2.2 ++ [m_]))))) (bothK (bothK (chk (capOk 88 (g_.2.1.length + ([y55.1] : List TPos).length)) <|
                chk (capOk 24 (g_.2.2.length + ([m_] : List TMv).length)) <|
                some (0, (g_.1, ((g_.2.1 ++ [y55.1]), (g_.2.2 ++ [m_]))))) (chk (capOk 88 (g_.2.1.length + ([y55.1] : List TPos).length)) <|
                chk (capOk 24 (g_.2.2.length + ([m_] : List TMv).length)) <|
                some (0, (g_.1, ((g_.2.1 ++ [y55.1]), (g_.2.2 ++ [m_])))))) (bothK (chk (capOk 88 (g_.2.1.length + ([y55.1] : List TPos).length)) <|
                chk (capOk 24 (g_.2.2.length + ([m_] : List TMv).length)) <|
                some (0, (g_.1, ((g_.2.1 ++ [y55.1]), (g_.2.2 ++ [m_]))))) (chk (capOk 88 (g_.2.1.length + ([y55.1] : List TPos).length)) <|
                chk (capOk 24 (g_.2.2.length + ([m_] : List TMv).length)) <|
                some (0, (g_.1, ((g_.2.1 ++ [y55.1]), (g_.2.2 ++ [m_])))))))))) (bothK (bothK (bothK (chk (capOk 88 (g_.2.1.length + ([y55.1] : List TPos).length)) <|
              chk (capOk 24 (g_.2.2.length + ([m_] : List TMv).length)) <|
              some (0, (g_.1, ((g_.2.1 ++ [y55.1]), (g_.2.2 ++ [m_]))))) (bothK (chk (capOk 88 (g_.2.1.length + ([y55.1] : List TPos).length)) <|
                chk (capOk 24 (g_.2.2.length + ([m_] : List TMv).length)) <|
                some (0, (g_.1, ((g_.2.1 ++ [y55.1]), (g_.2.2 ++ [m_]))))) (chk (capOk 88 (g_.2.1.length + ([y55.1] : List TPos).length)) <|
                chk (capOk 24 (g_.2.2.length + ([m_] : List TMv).length)) <|
                some (0, (g_.1, ((g_.2.1 ++ [y55.1]), (g_.2.2 ++ [m_]))))))) (bothK (bothK (chk (capOk 88 (g_.2.1.length + ([y55.1] : List TPos).length)) <|
                chk (capOk 24 (g_.2.2.length + ([m_] : List TMv).length)) <|
                some (0, (g_.1, ((g_.2.1 ++ [y55.1]), (g_.2.2 ++ [m_]))))) (chk (capOk 88 (g_.2.1.length + ([y55.1] : List TPos).length)) <|
                chk (capOk 24 (g_.2.2.length + ([m_] : List TMv).length)) <|
                some (0, (g_.1, ((g_.2.1 ++ [y55.1]), (g_.2.2 ++ [m_])))))) (chk (capOk 88 (g_.2.1.length + ([y55.1] : List TPos).length)) <|
              chk (capOk 24 (g_.2.2.length + ([m_] : List TMv).length)) <|
              some (0, (g_.1, ((g_.2.1 ++ [y55.1]), (g_.2.2 ++ [m_]))))))) (bothK (bothK (chk (capOk 88 (g_.2.1.length + ([y55.1] : List TPos).length)) <|
              chk (capOk 24 (g_.2.2.length + ([m_] : List TMv).length)) <|
              some (0, (g_.1, ((g_.2.1 ++ [y55.1]), (g_.2.2 ++ [m_]))))) (bothK (bothK (chk (capOk 88 (g_.2.1.length + ([y55.1] : List TPos).length)) <|
                chk (capOk 24 (g_.2.2.length + ([m_] : List TMv).length)) <|
                some (0, (g_.1, ((g_.2.1 ++ [y55.1]), (g_.2.2 ++ [m_]))))) (chk (capOk 88 (g_.2.1.length + ([y55.1] : List TPos).length)) <|
                chk (capOk 24 (g_.2.2.length + ([m_] : List TMv).length)) <|
                some (0, (g_.1, ((g_.2.1 ++ [y55.1]), (g_.2.2 ++ [m_])))))) (bothK (chk (capOk 88 (g_.2.1.length + ([y55.1] : List TPos).length)) <|
                chk (capOk 24 (g_.2.2.length + ([m_] : List TMv).length)) <|
                some (0, (g_.1, ((g_.2.1 ++ [y55.1]), (g_.2.2 ++ [m_]))))) (chk (capOk 88 (g_.2.1.length + ([y55.1] : List TPos).length)) <|
                chk (capOk 24 (g_.2.2.length + ([m_] : List TMv).length)) <|
                some (0, (g_.1, ((g_.2.1 ++ [y55.1]), (g_.2.2 ++ [m_])))))))) (bothK (bothK (bothK (chk (capOk 88 (g_.2.1.length + ([y55.1] : List TPos).length)) <|
                chk (capOk 24 (g_.2.2.length + ([m_] : List TMv).length)) <|
                some (0, (g_.1, ((g_.2.1 ++ [y55.1]), (g_.2.2 ++ [m_]))))) (chk (capOk 88 (g_.2.1.length + ([y55.1] : List TPos).length)) <|
                chk (capOk 24 (g_.2.2.length + ([m_] : List TMv).length)) <|
                some (0, (g_.1, ((g_.2.1 ++ [y55.1]), (g_.2.2 ++ [m_])))))) (chk (capOk 88 (g_.2.1.length + ([y55.1] : List TPos).length)) <|
              chk (capOk 24 (g_.2.2.length + ([m_] : List TMv).length)) <|
              some (0, (g_.1, ((g_.2.1 ++ [y55.1]), (g_.2.2 ++ [m_])))))) (bothK (bothK (chk (capOk 88 (g_.2.1.length + ([y55.1] : List TPos).length)) <|
                chk (capOk 24 (g_.2.2.length + ([m_] : List TMv).length)) <|
                some (0, (g_.1, ((g_.2.1 ++ [y55.1]), (g_.2.2 ++ [m_]))))) (chk (capOk 88 (g_.2.1.length + ([y55.1] : List TPos).length)) <|
                chk (capOk 24 (g_.2.2.length + ([m_] : List TMv).length)) <|
                some (0, (g_.1, ((g_.2.1 ++ [y55.1]), (g_.2.2 ++ [m_])))))) (chk (capOk 88 (g_.2.1.length + ([y55.1] : List TPos).length)) <|
              chk (capOk 24 (g_.2.2.length + ([m_] : List TMv).length)) <|
              some (0, (g_.1, ((g_.2.1 ++ [y55.1]), (g_.2.2 ++ [m_])))))))))) (let v57 : Int := (w64 ((g_.2.1.length : Int) - 1))
        chk ((leI 0 v57) && (ltI v57 (g_.2.1.length : Int))) <|
        (moves_After N g_.1 (gD (([] : LInt), ((([] : LInt), ([] : LInt)), ((0 : Int), (0 : Int)))) g_.2.1 v57) m_).bind fun y58 =>
        bif (!(eqI y58.2 0)) then (some (13, g_))
        else bif (eqI (g_.2.2.length : Int) 400) then (some (9, g_))
        else bothK (bothK (chk (capOk 88 (g_.2.1.length + ([y58.1] : List TPos).length)) <|
            chk (capOk 24 (g_.2.2.length + ([m_] : List TMv).length)) <|
            some (0, (g_.1, ((g_.2.1 ++ [y58.1]), (g_.2.2 ++ [m_]))))) (bothK (bothK (chk (capOk 88 (g_.2.1.length + ([y58.1] : List TPos).length)) <|
              chk (capOk 24 (g_.2.2.length + ([m_] : List TMv).length)) <|
              some (0, (g_.1, ((g_.2.1 ++ [y58.1]), (g_.2.2 ++ [m_]))))) (bothK (chk (capOk 88 (g_.2.1.length + ([y58.1] : List TPos).length)) <|
                chk (capOk 24 (g_.2.2.length + ([m_] : List TMv).length)) <|
                some (0, (g_.1, ((g_.2.1 ++ [y58.1]), (g_.2.2 ++ [m_]))))) (chk (capOk 88 (g_.2.1.length + ([y58.1] : List TPos).length)) <|
                chk (capOk 24 (g_.2.2.length + ([m_] : List TMv).length)) <|
                some (0, (g_.1, ((g_.2.1 ++ [y58.1]), (g_.2.2 ++ [m_]))))))) (bothK (chk (capOk 88 (g_.2.1.length + ([y58.1] : List TPos).length)) <|
              chk (capOk 24 (g_.2.2.length + ([m_] : List TMv).length)) <|
              some (0, (g_.1, ((g_.2.1 ++ [y58.1]), (g_.2.2 ++ [m_]))))) (bothK (bothK (chk (capOk 88 (g_.2.1.length + ([y58.1] : List TPos).length)) <|
                chk (capOk 24 (g_.2.2.length + ([m_] : List TMv).length)) <|
                some (0, (g_.1, ((g_.2.1 ++ [y58.1]), (g_.2.2 ++ [m_]))))) (chk (capOk 88 (g_.2.1.length + ([y58.1] : List TPos).length)) <|
                chk (capOk 24 (g_.2.2.length + ([m_] : List TMv).length)) <|
                some (0, (g_.1, ((g_.2.1 ++ [y58.1]), (g_.2.2 ++ [m_])))))) (bothK (chk (capOk 88 (g_.2.1.length + ([y58.1] : List TPos).length)) <|
                chk (capOk 24 (g_.2.2.length + ([m_] : List TMv).length)) <|
                some (0, (g_.1, ((g_.2.1 ++ [y58.1]), (g_.2.2 ++ [m_]))))) (chk (capOk 88 (g_.2.1.length + ([y58.1] : List TPos).length)) <|
                chk (capOk 24 (g_.2.2.length + ([m_] : List TMv).length)) <|
                some (0, (g_.1, ((g_.2.1 ++ [y58.1]), (g_.2.2 ++ [m_])))))))))) (bothK (bothK (bothK (chk (capOk 88 (g_.2.1.length + ([y58.1] : List TPos).length)) <|
              chk (capOk 24 (g_.2.2.length + ([m_] : List TMv).length)) <|
              some (0, (g_.1, ((g_.2.1 ++ [y58.1]), (g_.2.2 ++ [m_]))))) (bothK (chk (capOk 88 (g_.2.1.length + ([y58.1] : List TPos).length)) <|
                chk (capOk 24 (g_.2.2.length + ([m_] : List TMv).length)) <|
                some (0, (g_.1, ((g_.2.1 ++ [y58.1]), (g_.2.2 ++ [m_]))))) (chk (capOk 88 (g_.2.1.length + ([y58.1] : List TPos).length)) <|
                chk (capOk 24 (g_.2.2.length + ([m_] : List TMv).length)) <|
                some (0, (g_.1, ((g_.2.1 ++ [y58.1]), (g_.2.2 ++ [m_]))))))) (bothK (bothK (chk (capOk 88 (g_.2.1.length + ([y58.1] : List TPos).length)) <|
                chk (capOk 24 (g_.2.2.length + ([m_] : List TMv).length)) <|
                some (0, (g_.1, ((g_.2.1 ++ [y58.1]), (g_.2.2 ++ [m_]))))) (chk (capOk 88 (g_.2.1.length + ([y58.1] : List TPos).length)) <|
                chk (capOk 24 (g_.2.2.length + ([m_] : List TMv).length)) <|
                some (0, (g_.1, ((g_.2.1 ++ [y58.1]), (g_.2.2 ++ [m_])))))) (chk (capOk 88 (g_.2.1.length + ([y58.1] : List TPos).length)) <|
              chk (capOk 24 (g_.2.2.length + ([m_] : List TMv).length)) <|
              some (0, (g_.1, ((g_.2.1 ++ [y58.1]), (g_.2.2 ++ [m_]))))))) (bothK (bothK (chk (capOk 88 (g_.2.1.length + ([y58.1] : List TPos).length)) <|
              chk (capOk 24 (g_.2.2.length + ([m_] : List TMv).length)) <|
              some (0, (g_.1, ((g_.2.1 ++ [y58.1]), (g_.2.2 ++ [m_]))))) (bothK (bothK (chk (capOk 88 (g_.2.1.length + ([y58.1] : List TPos).length)) <|
                chk (capOk 24 (g_.2.2.length + ([m_] : List TMv).length)) <|
                some (0, (g_.1, ((g_.2.1 ++ [y58.1]), (g_.2.2 ++ [m_]))))) (chk (capOk 88 (g_.2.1.length + ([y58.1] : List TPos).length)) <|
                chk (capOk 24 (g_.2.2.length + ([m_] : List TMv).length)) <|
                some (0, (g_.1, ((g_.2.1 ++ [y58.1]), (g_.2.2 ++ [m_])))))) (bothK (chk (capOk 88 (g_.2.1.length + ([y58.1] : List TPos).length)) <|
                chk (capOk 24 (g_.2.2.length + ([m_] : List TMv).length)) <|
                some (0, (g_.1, ((g_.2.1 ++ [y58.1]), (g_.2.2 ++ [m_]))))) (chk (capOk 88 (g_.2.1.length + ([y58.1] : List TPos).length)) <|
                chk (capOk 24 (g_.2.2.length + ([m_] : List TMv).length)) <|
                some (0, (g_.1, ((g_.2.1 ++ [y58.1]), (g_.2.2 ++ [m_])))))))) (bothK (bothK (bothK (chk (capOk 88 (g_.2.1.length + ([y58.1] : List TPos).length)) <|
                chk (capOk 24 (g_.2.2.length + ([m_] : List TMv).length)) <|
                some (0, (g_.1, ((g_.2.1 ++ [y58.1]), (g_.2.2 ++ [m_]))))) (chk (capOk 88 (g_.2.1.length + ([y58.1] : List TPos).length)) <|
                chk (capOk 24 (g_.2.2.length + ([m_] : List TMv).length)) <|
                some (0, (g_.1, ((g_.2.1 ++ [y58.1]), (g_.2.2 ++ [m_])))))) (chk (capOk 88 (g_.2.1.length + ([y58.1] : List TPos).length)) <|
              chk (capOk 24 (g_.2.2.length + ([m_] : List TMv).length)) <|
              some (0, (g_.1, ((g_.2.1 ++ [y58.1]), (g_.2.2 ++ [m_])))))) (bothK (bothK (chk (capOk 88 (g_.2.1.length + ([y58.1] : List TPos).length)) <|
                chk (capOk 24 (g_.2.2.length + ([m_] : List TMv).length)) <|
                some (0, (g_.1, ((g_.2.1 ++ [y58.1]), (g_.2.2 ++ [m_]))))) (chk (capOk 88 (g_.2.1.length + ([y58.1] : List TPos).length)) <|
                chk (capOk 24 (g_.2.2.length + ([m_] : List TMv).length)) <|
                some (0, (g_.1, ((g_.2.1 ++ [y58.1]), (g_.2.2 ++ [m_])))))) (chk (capOk 88 (g_.2.1.length + ([y58.1] : List TPos).length)) <|
              chk (capOk 24 (g_.2.2.length + ([m_] : List TMv).length)) <|
              some (0, (g_.1, ((g_.2.1 ++ [y58.1]), (g_.2.2 ++ [m_])))))))))))))))
def plain_Game_Play' (N : Nat) (g_ : (TRules × ((List TPos) × LMv))) (m_ : TMv) : Option (Int × (TRules × ((List TPos) × LMv))) := plain_Game_Play'.e N g_ m_
/-! ### f18: (*gamehall/plain.Game).Position -/
def plain_Game_Position.e (N : Nat) (g_ : (TRules × ((List TPos) × LMv))) : Option TPos :=
  let v1 : Int := (w64 ((g_.2.1.length : Int) - 1))
  chk ((leI 0 v1) && (ltI v1 (g_.2.1.length : Int))) <|
  (place_Copy N (gD (([] : LInt), ((([] : LInt), ([] : LInt)), ((0 : Int), (0 : Int)))) g_.2.1 v1)).bind fun y2 =>
  some y2
def plain_Game_Position (N : Nat) (g_ : (TRules × ((List TPos) × LMv))) : Option TPos := plain_Game_Position.e N g_
/-! ### f22: gamehall/plain.Run -/
def plain_Run.e (N : Nat) (r0 : Int → ByteArray → Int → Int → Bool → Bool → Int → Int → Int → (List TPiece) → LInt → (List TEnd) → (List TPos) → LMv → Option (TPos × Int × Int)) (r_ : TRules) (l_ : LMv) : Option (TPos × Int × Int) :=
  (plain_New N r_).bind fun y1 =>
  oCase y1.1 (bif (!(eqI y1.2 0)) then (some (([], (([], []), (0, 0))), (0, y1.2)))
    else none) fun b2 =>
  bif (!(eqI y1.2 0)) then (some (([], (([], []), (0, 0))), (0, y1.2)))
  else r0 0 b2.1.1 b2.1.2.1 b2.1.2.2.1 b2.1.2.2.2.2.2.1 b2.1.2.2.2.2.2.2.1 b2.1.2.2.2.2.2.2.2.2.1 b2.1.2.2.2.2.2.2.2.2.2.1 b2.1.2.2.2.2.2.2.2.2.2.2 b2.1.2.2.2.1 b2.1.2.2.2.2.1 b2.1.2.2.2.2.2.2.2.1 b2.2.1 b2.2.2
def plain_Run.s0 (N : Nat) (r_ : TRules) (l_ : LMv) (r0 : Int → ByteArray → Int → Int → Bool → Bool → Int → Int → Int → (List TPiece) → LInt → (List TEnd) → (List TPos) → LMv → Option (TPos × Int × Int)) (t23_ : Int) (g_ : ByteArray) (g_2 : Int) (g_3 : Int) (g_4 : Bool) (g_5 : Bool) (g_6 : Int) (g_7 : Int) (g_8 : Int) (m3_ : (List TPiece)) (m4_ : LInt) (m5_ : (List TEnd)) (m6_ : (List TPos)) (m7_ : LMv) : Option (TPos × Int × Int) :=
  bif (ltI t23_ (l_.length : Int)) then (chk ((leI 0 t23_) && (ltI t23_ (l_.length : Int))) <|
    (plain_Game_Play' N ((g_, (g_2, (g_3, (m3_, (m4_, (g_4, (g_5, (m5_, (g_6, (g_7, g_8)))))))))), (m6_, m7_)) (gD ((0 : Int), ((0 : Int), (0 : Int))) l_ t23_)).bind fun y4 =>
    bif (!(eqI y4.1 0)) then (some (([], (([], []), (0, 0))), (0, y4.1)))
    else r0 (w64 (t23_ + 1)) y4.2.1.1 y4.2.1.2.1 y4.2.1.2.2.1 y4.2.1.2.2.2.2.2.1 y4.2.1.2.2.2.2.2.2.1 y4.2.1.2.2.2.2.2.2.2.2.1 y4.2.1.2.2.2.2.2.2.2.2.2.1 y4.2.1.2.2.2.2.2.2.2.2.2.2 y4.2.1.2.2.2.1 y4.2.1.2.2.2.2.1 y4.2.1.2.2.2.2.2.2.2.1 y4.2.2.1 y4.2.2.2)
  else (plain_Game_Position N ((g_, (g_2, (g_3, (m3_, (m4_, (g_4, (g_5, (m5_, (g_6, (g_7, g_8)))))))))), (m6_, m7_))).bind fun y5 =>
  (plain_Game_Result N ((g_, (g_2, (g_3, (m3_, (m4_, (g_4, (g_5, (m5_, (g_6, (g_7, g_8)))))))))), (m6_, m7_))).bind fun y6 =>
  some (y5, (y6, 0))
def plain_Run.L (N : Nat) (r_ : TRules) (l_ : LMv) : Nat → (Int → ByteArray → Int → Int → Bool → Bool → Int → Int → Int → (List TPiece) → LInt → (List TEnd) → (List TPos) → LMv → Option (TPos × Int × Int))
  | 0 => fun _ _ _ _ _ _ _ _ _ _ _ _ _ _ => none
  | n + 1 => fun t23_ g_ g_2 g_3 g_4 g_5 g_6 g_7 g_8 m3_ m4_ m5_ m6_ m7_ => plain_Run.s0 N r_ l_ (plain_Run.L N r_ l_ n) t23_ g_ g_2 g_3 g_4 g_5 g_6 g_7 g_8 m3_ m4_ m5_ m6_ m7_
def plain_Run.l0 (N : Nat) (r_ : TRules) (l_ : LMv) (n : Nat) : Int → ByteArray → Int → Int → Bool → Bool → Int → Int → Int → (List TPiece) → LInt → (List TEnd) → (List TPos) → LMv → Option (TPos × Int × Int) := (plain_Run.L N r_ l_ n)
theorem plain_Run.l0_s (N : Nat) (r_ : TRules) (l_ : LMv) (n : Nat) (t23_ : Int) (g_ : ByteArray) (g_2 : Int) (g_3 : Int) (g_4 : Bool) (g_5 : Bool) (g_6 : Int) (g_7 : Int) (g_8 : Int) (m3_ : (List TPiece)) (m4_ : LInt) (m5_ : (List TEnd)) (m6_ : (List TPos)) (m7_ : LMv) : plain_Run.l0 N r_ l_ (n + 1) t23_ g_ g_2 g_3 g_4 g_5 g_6 g_7 g_8 m3_ m4_ m5_ m6_ m7_ = plain_Run.s0 N r_ l_ (plain_Run.l0 N r_ l_ n) t23_ g_ g_2 g_3 g_4 g_5 g_6 g_7 g_8 m3_ m4_ m5_ m6_ m7_ := rfl
def plain_Run (N : Nat) (r_ : TRules) (l_ : LMv) : Option (TPos × Int × Int) := plain_Run.e N (plain_Run.l0 N r_ l_ N) r_ l_
/-! ### f42: gamehall/gamehallkeep1.fine$1 -/
def gamehallkeep1_fine_1.e (N : Nat) (e_ : Int) : Option Bool :=
  some (!(eqI e_ 0))
def gamehallkeep1_fine_1 (N : Nat) (e_ : Int) : Option Bool := gamehallkeep1_fine_1.e N e_
/-! ### f68: slices.IndexFunc[[]gamehall/api.Errno,gamehall/api.Errno] -/
def slices_IndexFunc_api_Errno_api_Errno.e (N : Nat) (r0 : Int → Option Int) (s_ : LInt) : Option Int :=
  r0 0
def slices_IndexFunc_api_Errno_api_Errno.s0 (N : Nat) (s_ : LInt) (r0 : Int → Option Int) (t8_ : Int) : Option Int :=
  bif (ltI t8_ (s_.length : Int)) then (chk ((leI 0 t8_) && (ltI t8_ (s_.length : Int))) <|
    (gamehallkeep1_fine_1 N (gD (0 : Int) s_ t8_)).bind fun y2 =>
    bif y2 then some t8_
    else r0 (w64 (t8_ + 1)))
  else some (-1)
def slices_IndexFunc_api_Errno_api_Errno.L (N : Nat) (s_ : LInt) : Nat → (Int → Option Int)
  | 0 => fun _ => none
  | n + 1 => fun t8_ => slices_IndexFunc_api_Errno_api_Errno.s0 N s_ (slices_IndexFunc_api_Errno_api_Errno.L N s_ n) t8_
def slices_IndexFunc_api_Errno_api_Errno.l0 (N : Nat) (s_ : LInt) (n : Nat) : Int → Option Int := (slices_IndexFunc_api_Errno_api_Errno.L N s_ n)
theorem slices_IndexFunc_api_Errno_api_Errno.l0_s (N : Nat) (s_ : LInt) (n : Nat) (t8_ : Int) : slices_IndexFunc_api_Errno_api_Errno.l0 N s_ (n + 1) t8_ = slices_IndexFunc_api_Errno_api_Errno.s0 N s_ (slices_IndexFunc_api_Errno_api_Errno.l0 N s_ n) t8_ := rfl
def slices_IndexFunc_api_Errno_api_Errno (N : Nat) (s_ : LInt) : Option Int := slices_IndexFunc_api_Errno_api_Errno.e N (slices_IndexFunc_api_Errno_api_Errno.l0 N s_ N) s_
/-! ### f41: slices.ContainsFunc[[]gamehall/api.Errno,gamehall/api.Errno] -/
def slices_ContainsFunc_api_Errno_api_Errno.e (N : Nat) (s_ : LInt) : Option Bool :=
  (slices_IndexFunc_api_Errno_api_Errno N s_).bind fun y1 =>
  some (leI 0 y1)
def slices_ContainsFunc_api_Errno_api_Errno (N : Nat) (s_ : LInt) : Option Bool := slices_ContainsFunc_api_Errno_api_Errno.e N s_
/-! ### f12: gamehall/gamehallkeep1.fine -/
def gamehallkeep1_fine.e (N : Nat) (l_ : LInt) : Option Bool :=
  (slices_ContainsFunc_api_Errno_api_Errno N l_).bind fun y1 =>
  some (!y1)
def gamehallkeep1_fine (N : Nat) (l_ : LInt) : Option Bool := gamehallkeep1_fine.e N l_
/-! ### f17: (*gamehall/plain.Game).Back -/
def plain_Game_Back'.e (N : Nat) (g_ : (TRules × ((List TPos) × LMv))) : Option (Int × (TRules × ((List TPos) × LMv))) :=
  bif (eqI (g_.2.2.length : Int) 0) then (some (8, g_))
  else let v2 : Int := (w64 ((g_.2.1.length : Int) - 1))
  let v3 : Int := (w64 ((g_.2.2.length : Int) - 1))
  bothK (chk ((leI 0 v2) && (leI v2 (g_.2.1.length : Int))) <|
    bothK (chk ((leI 0 v3) && (leI v3 (g_.2.2.length : Int))) <|
      some (0, (g_.1, ((g_.2.1.take v2.toNat), (g_.2.2.take v3.toNat))))) (chk ((leI 0 v3) && (leI v3 (g_.2.2.length : Int))) <|
      some (0, (g_.1, ((g_.2.1.take v2.toNat), (g_.2.2.take v3.toNat)))))) (chk ((leI 0 v3) && (leI v3 (g_.2.2.length : Int))) <|
    chk ((leI 0 v2) && (leI v2 (g_.2.1.length : Int))) <|
    some (0, (g_.1, ((g_.2.1.take v2.toNat), (g_.2.2.take v3.toNat)))))
def plain_Game_Back' (N : Nat) (g_ : (TRules × ((List TPos) × LMv))) : Option (Int × (TRules × ((List TPos) × LMv))) := plain_Game_Back'.e N g_
/-! ### f23: (*gamehall/plain.Game).Moves -/
def plain_Game_Moves.e (N : Nat) (g_ : (TRules × ((List TPos) × LMv))) : Option LMv :=
  chk (capOk 24 g_.2.2.length) <|
  some g_.2.2
def plain_Game_Moves (N : Nat) (g_ : (TRules × ((List TPos) × LMv))) : Option LMv := plain_Game_Moves.e N g_
/-! ### f15: gamehall/gamehallkeep1.played -/
def gamehallkeep1_played.e (N : Nat) : Option Bool :=
  (gamehallkeep1_three N).bind fun y1 =>
  (gamehallkeep1_put N 0).bind fun y2 =>
  (gamehallkeep1_put N 3).bind fun y3 =>
  (gamehallkeep1_put N 1).bind fun y4 =>
  (gamehallkeep1_put N 4).bind fun y5 =>
  (gamehallkeep1_put N 2).bind fun y6 =>
  (plain_Run N y1 [y2, y3, y4, y5, y6]).bind fun y7 =>
  (gamehallkeep1_three N).bind fun y8 =>
  (plain_New N y8).bind fun y9 =>
  oCase y9.1 ((gamehallkeep1_fine N [y7.2.2, y9.2]).bind fun y11 =>
    bif y11 then (bif (eqI y7.2.1 1) then (bif (eqI (y7.1.1.length : Int) 9) then some false
        else some false)
      else some false)
    else some false) fun b10 =>
  (gamehallkeep1_fine N [y7.2.2, y9.2]).bind fun y13 =>
  bif y13 then (bif (eqI y7.2.1 1) then (bif (eqI (y7.1.1.length : Int) 9) then ((gamehallkeep1_put N 9).bind fun y15 =>
        (plain_Game_Play' N b10 y15).bind fun y16 =>
        bif (eqI y16.1 13) then ((gamehallkeep1_put N 4).bind fun y17 =>
          (plain_Game_Play' N y16.2 y17).bind fun y18 =>
          bif (eqI y18.1 0) then ((plain_Game_Count N y18.2).bind fun y19 =>
            bif (eqI y19 1) then ((plain_Game_Back' N y18.2).bind fun y20 =>
              bif (eqI y20.1 0) then ((plain_Game_Back' N y20.2).bind fun y21 =>
                bif (eqI y21.1 8) then ((plain_Game_Moves N y21.2).bind fun y22 =>
                  some (eqI (y22.length : Int) 0))
                else some false)
              else some false)
            else some false)
          else some false)
        else some false)
      else some false)
    else some false)
  else some false
def gamehallkeep1_played (N : Nat) : Option Bool := gamehallkeep1_played.e N
/-! ### f11: gamehall/moves.All -/
def moves_All.e (N : Nat) (r_ : TRules) (p_ : TPos) : Option (LMv × Int) :=
  (place_Check N r_ p_).bind fun y1 =>
  bif (!(eqI y1 0)) then (some ([], y1))
  else (moves_Gen N r_ p_).bind fun y2 =>
  some (y2, 0)
def moves_All (N : Nat) (r_ : TRules) (p_ : TPos) : Option (LMv × Int) := moves_All.e N r_ p_
/-! ### f10: gamehall/gamehallkeep1.plays -/
def gamehallkeep1_plays.e (N : Nat) : Option Bool :=
  (gamehallkeep1_three N).bind fun y1 =>
  (place_Begin N y1).bind fun y2 =>
  (gamehallkeep1_three N).bind fun y3 =>
  (moves_All N y3 y2.1).bind fun y4 =>
  (gamehallkeep1_three N).bind fun y5 =>
  (gamehallkeep1_put N 4).bind fun y6 =>
  (moves_After N y5 y2.1 y6).bind fun y7 =>
  (gamehallkeep1_three N).bind fun y8 =>
  (gamehallkeep1_put N 9).bind fun y9 =>
  (moves_Legal N y8 y2.1 y9).bind fun y10 =>
  (gamehallkeep1_fine N [y2.2, y4.2, y7.2, y10.2]).bind fun y12 =>
  bif y12 then (bif (eqI (y4.1.length : Int) 9) then (chk (true && (ltI 8 (y4.1.length : Int))) <|
      (gamehallkeep1_put N 8).bind fun y14 =>
      bif ((eqI (gD ((0 : Int), ((0 : Int), (0 : Int))) y4.1 8).1 y14.1) && ((eqI (gD ((0 : Int), ((0 : Int), (0 : Int))) y4.1 8).2.1 y14.2.1) && ((eqI (gD ((0 : Int), ((0 : Int), (0 : Int))) y4.1 8).2.2 y14.2.2) && true))) then (bif (eqI (y7.1.1.length : Int) 9) then (chk (true && (ltI 4 (y7.1.1.length : Int))) <|
          bif (eqI (gD (0 : Int) y7.1.1 4) 1) then (some (!y10.1))
          else some false)
        else some false)
      else some false)
    else some false)
  else some false
def gamehallkeep1_plays (N : Nat) : Option Bool := gamehallkeep1_plays.e N
/-! ### f21: gamehall/gamehallkeep1.some[gamehall/api.Move] -/
def gamehallkeep1_some_api_Move.e (N : Nat) (l_ : LMv) (n_ : Int) : Option TMv :=
  bif (eqI (l_.length : Int) 0) then none
  else bif (eqI (l_.length : Int) 0) then none
  else let v3 : Int := (Int.tmod (w64 ((Int.tmod n_ (l_.length : Int)) + (l_.length : Int))) (l_.length : Int))
  chk ((leI 0 v3) && (ltI v3 (l_.length : Int))) <|
  some (gD ((0 : Int), ((0 : Int), (0 : Int))) l_ v3)
def gamehallkeep1_some_api_Move (N : Nat) (l_ : LMv) (n_ : Int) : Option TMv := gamehallkeep1_some_api_Move.e N l_ n_
/-! ### f5: gamehall/gamehallkeep1.PlainRepeats -/
def gamehallkeep1_PlainRepeats.e (N : Nat) (r0 : LInt → Int → Int → ByteArray → Int → Int → Bool → Bool → Int → Int → Int → (List TPiece) → LInt → (List TEnd) → (List TPos) → LMv → Option Bool) (r_ : TRules) (picks : LInt) : Option Bool :=
  (gamehallkeep1_near N).bind fun y1 =>
  chk (true && (ltI 2 (y1.1.length : Int))) <|
  (gamehallkeep1_three N).bind fun y3 =>
  (ends_Of N y3 ((y1.1.set (2 : Int).toNat 1), (y1.2.1, (1, y1.2.2.2)))).bind fun y4 =>
  bif (!(eqI y4.2 0)) then some false
  else bif (!(eqI y4.1 1)) then some false
  else (gamehallkeep1_played N).bind fun y5 =>
  bif (!y5) then some false
  else (gamehallkeep1_plays N).bind fun y6 =>
  bif (!y6) then some false
  else (plain_New N r_).bind fun y7 =>
  oCase y7.1 (bif (!(eqI y7.2 0)) then (some (!(eqI y7.2 0)))
    else some (!(eqI y7.2 0))) fun b8 =>
  bif (!(eqI y7.2 0)) then (some (!(eqI y7.2 0)))
  else let v9 : Int := (bif (ltI 30 (picks.length : Int)) then 30 else (picks.length : Int))
  chk (true && ((leI 0 v9) && (leI v9 (picks.length : Int)))) <|
  r0 ((picks.take v9.toNat).drop (0 : Int).toNat) (((picks.take v9.toNat).drop (0 : Int).toNat).length : Int) 0 b8.1.1 b8.1.2.1 b8.1.2.2.1 b8.1.2.2.2.2.2.1 b8.1.2.2.2.2.2.2.1 b8.1.2.2.2.2.2.2.2.2.1 b8.1.2.2.2.2.2.2.2.2.2.1 b8.1.2.2.2.2.2.2.2.2.2.2 b8.1.2.2.2.1 b8.1.2.2.2.2.1 b8.1.2.2.2.2.2.2.2.1 b8.2.1 b8.2.2
def gamehallkeep1_PlainRepeats.s0 (N : Nat) (r_ : TRules) (picks : LInt) (r0 : LInt → Int → Int → ByteArray → Int → Int → Bool → Bool → Int → Int → Int → (List TPiece) → LInt → (List TEnd) → (List TPos) → LMv → Option Bool) (t59_ : LInt) (t60_ : Int) (t61_ : Int) (g_ : ByteArray) (g_2 : Int) (g_3 : Int) (g_4 : Bool) (g_5 : Bool) (g_6 : Int) (g_7 : Int) (g_8 : Int) (m9_ : (List TPiece)) (m10_ : LInt) (m11_ : (List TEnd)) (m12_ : (List TPos)) (m13_ : LMv) : Option Bool :=
  bif (ltI t61_ t60_) then (chk ((leI 0 t61_) && (ltI t61_ (t59_.length : Int))) <|
    (plain_Game_Position N ((g_, (g_2, (g_3, (m9_, (m10_, (g_4, (g_5, (m11_, (g_6, (g_7, g_8)))))))))), (m12_, m13_))).bind fun y11 =>
    (ends_Of N r_ y11).bind fun y12 =>
    bif (eqI y12.1 0) then (bif (ltI 0 r_.2.2.2.2.2.2.2.2.2.2) then ((plain_Game_Count N ((g_, (g_2, (g_3, (m9_, (m10_, (g_4, (g_5, (m11_, (g_6, (g_7, g_8)))))))))), (m12_, m13_))).bind fun y14 =>
        bif (leI r_.2.2.2.2.2.2.2.2.2.2 y14) then (bif (!(eqI y12.2 0)) then some false
          else (plain_Game_Result N ((g_, (g_2, (g_3, (m9_, (m10_, (g_4, (g_5, (m11_, (g_6, (g_7, g_8)))))))))), (m12_, m13_))).bind fun y16 =>
          bif (!(eqI y16 3)) then some false
          else (plain_Game_Count N ((g_, (g_2, (g_3, (m9_, (m10_, (g_4, (g_5, (m11_, (g_6, (g_7, g_8)))))))))), (m12_, m13_))).bind fun y17 =>
          bif (ltI y17 1) then some false
          else (plain_Game_Count N ((g_, (g_2, (g_3, (m9_, (m10_, (g_4, (g_5, (m11_, (g_6, (g_7, g_8)))))))))), (m12_, m13_))).bind fun y18 =>
          (plain_Game_Moves N ((g_, (g_2, (g_3, (m9_, (m10_, (g_4, (g_5, (m11_, (g_6, (g_7, g_8)))))))))), (m12_, m13_))).bind fun y19 =>
          bif (ltI (w64 ((y19.length : Int) + 1)) y18) then some false
          else (plain_Game_Position N ((g_, (g_2, (g_3, (m9_, (m10_, (g_4, (g_5, (m11_, (g_6, (g_7, g_8)))))))))), (m12_, m13_))).bind fun y21 =>
          (moves_All N r_ y21).bind fun y22 =>
          bif (!(eqI y22.2 0)) then (some (eqI y22.2 0))
          else some (eqI y22.2 0))
        else bif (!(eqI y12.2 0)) then some false
        else (plain_Game_Result N ((g_, (g_2, (g_3, (m9_, (m10_, (g_4, (g_5, (m11_, (g_6, (g_7, g_8)))))))))), (m12_, m13_))).bind fun y23 =>
        bif (!(eqI y23 y12.1)) then some false
        else (plain_Game_Count N ((g_, (g_2, (g_3, (m9_, (m10_, (g_4, (g_5, (m11_, (g_6, (g_7, g_8)))))))))), (m12_, m13_))).bind fun y24 =>
        bif (ltI y24 1) then some false
        else (plain_Game_Count N ((g_, (g_2, (g_3, (m9_, (m10_, (g_4, (g_5, (m11_, (g_6, (g_7, g_8)))))))))), (m12_, m13_))).bind fun y25 =>
        (plain_Game_Moves N ((g_, (g_2, (g_3, (m9_, (m10_, (g_4, (g_5, (m11_, (g_6, (g_7, g_8)))))))))), (m12_, m13_))).bind fun y26 =>
        bif (ltI (w64 ((y26.length : Int) + 1)) y25) then some false
        else (plain_Game_Position N ((g_, (g_2, (g_3, (m9_, (m10_, (g_4, (g_5, (m11_, (g_6, (g_7, g_8)))))))))), (m12_, m13_))).bind fun y28 =>
        (moves_All N r_ y28).bind fun y29 =>
        bif (!(eqI y29.2 0)) then (some (eqI y29.2 0))
        else bif (!(eqI y12.1 0)) then (some (eqI y29.2 0))
        else (gamehallkeep1_some_api_Move N y29.1 (gD (0 : Int) t59_ t61_)).bind fun y30 =>
        (plain_Game_Play' N ((g_, (g_2, (g_3, (m9_, (m10_, (g_4, (g_5, (m11_, (g_6, (g_7, g_8)))))))))), (m12_, m13_)) y30).bind fun y31 =>
        bif (!(eqI y31.1 0)) then some false
        else r0 t59_ t60_ (w64 (t61_ + 1)) y31.2.1.1 y31.2.1.2.1 y31.2.1.2.2.1 y31.2.1.2.2.2.2.2.1 y31.2.1.2.2.2.2.2.2.1 y31.2.1.2.2.2.2.2.2.2.2.1 y31.2.1.2.2.2.2.2.2.2.2.2.1 y31.2.1.2.2.2.2.2.2.2.2.2.2 y31.2.1.2.2.2.1 y31.2.1.2.2.2.2.1 y31.2.1.2.2.2.2.2.2.2.1 y31.2.2.1 y31.2.2.2)
      else bif (!(eqI y12.2 0)) then some false
      else (plain_Game_Result N ((g_, (g_2, (g_3, (m9_, (m10_, (g_4, (g_5, (m11_, (g_6, (g_7, g_8)))))))))), (m12_, m13_))).bind fun y32 =>
      bif (!(eqI y32 y12.1)) then some false
      else (plain_Game_Count N ((g_, (g_2, (g_3, (m9_, (m10_, (g_4, (g_5, (m11_, (g_6, (g_7, g_8)))))))))), (m12_, m13_))).bind fun y33 =>
      bif (ltI y33 1) then some false
      else (plain_Game_Count N ((g_, (g_2, (g_3, (m9_, (m10_, (g_4, (g_5, (m11_, (g_6, (g_7, g_8)))))))))), (m12_, m13_))).bind fun y34 =>
      (plain_Game_Moves N ((g_, (g_2, (g_3, (m9_, (m10_, (g_4, (g_5, (m11_, (g_6, (g_7, g_8)))))))))), (m12_, m13_))).bind fun y35 =>
      bif (ltI (w64 ((y35.length : Int) + 1)) y34) then some false
      else (plain_Game_Position N ((g_, (g_2, (g_3, (m9_, (m10_, (g_4, (g_5, (m11_, (g_6, (g_7, g_8)))))))))), (m12_, m13_))).bind fun y37 =>
      (moves_All N r_ y37).bind fun y38 =>
      bif (!(eqI y38.2 0)) then (some (eqI y38.2 0))
      else bif (!(eqI y12.1 0)) then (some (eqI y38.2 0))
      else (gamehallkeep1_some_api_Move N y38.1 (gD (0 : Int) t59_ t61_)).bind fun y39 =>
      (plain_Game_Play' N ((g_, (g_2, (g_3, (m9_, (m10_, (g_4, (g_5, (m11_, (g_6, (g_7, g_8)))))))))), (m12_, m13_)) y39).bind fun y40 =>
      bif (!(eqI y40.1 0)) then some false
      else r0 t59_ t60_ (w64 (t61_ + 1)) y40.2.1.1 y40.2.1.2.1 y40.2.1.2.2.1 y40.2.1.2.2.2.2.2.1 y40.2.1.2.2.2.2.2.2.1 y40.2.1.2.2.2.2.2.2.2.2.1 y40.2.1.2.2.2.2.2.2.2.2.2.1 y40.2.1.2.2.2.2.2.2.2.2.2.2 y40.2.1.2.2.2.1 y40.2.1.2.2.2.2.1 y40.2.1.2.2.2.2.2.2.2.1 y40.2.2.1 y40.2.2.2)
    else bif (!(eqI y12.2 0)) then some false
    else (plain_Game_Result N ((g_, (g_2, (g_3, (m9_, (m10_, (g_4, (g_5, (m11_, (g_6, (g_7, g_8)))))))))), (m12_, m13_))).bind fun y41 =>
    bif (!(eqI y41 y12.1)) then some false
    else (plain_Game_Count N ((g_, (g_2, (g_3, (m9_, (m10_, (g_4, (g_5, (m11_, (g_6, (g_7, g_8)))))))))), (m12_, m13_))).bind fun y42 =>
    bif (ltI y42 1) then some false
    else (plain_Game_Count N ((g_, (g_2, (g_3, (m9_, (m10_, (g_4, (g_5, (m11_, (g_6, (g_7, g_8)))))))))), (m12_, m13_))).bind fun y43 =>
    (plain_Game_Moves N ((g_, (g_2, (g_3, (m9_, (m10_, (g_4, (g_5, (m11_, (g_6, (g_7, g_8)))))))))), (m12_, m13_))).bind fun y44 =>
    bif (ltI (w64 ((y44.length : Int) + 1)) y43) then some false
    else (plain_Game_Position N ((g_, (g_2, (g_3, (m9_, (m10_, (g_4, (g_5, (m11_, (g_6, (g_7, g_8)))))))))), (m12_, m13_))).bind fun y46 =>
    (moves_All N r_ y46).bind fun y47 =>
    bif (!(eqI y47.2 0)) then (some (eqI y47.2 0))
    else bif (!(eqI y12.1 0)) then (some (eqI y47.2 0))
    else (gamehallkeep1_some_api_Move N y47.1 (gD (0 : Int) t59_ t61_)).bind fun y48 =>
    (plain_Game_Play' N ((g_, (g_2, (g_3, (m9_, (m10_, (g_4, (g_5, (m11_, (g_6, (g_7, g_8)))))))))), (m12_, m13_)) y48).bind fun y49 =>
    bif (!(eqI y49.1 0)) then some false
    else r0 t59_ t60_ (w64 (t61_ + 1)) y49.2.1.1 y49.2.1.2.1 y49.2.1.2.2.1 y49.2.1.2.2.2.2.2.1 y49.2.1.2.2.2.2.2.2.1 y49.2.1.2.2.2.2.2.2.2.2.1 y49.2.1.2.2.2.2.2.2.2.2.2.1 y49.2.1.2.2.2.2.2.2.2.2.2.2 y49.2.1.2.2.2.1 y49.2.1.2.2.2.2.1 y49.2.1.2.2.2.2.2.2.2.1 y49.2.2.1 y49.2.2.2)
  else some true
def gamehallkeep1_PlainRepeats.L (N : Nat) (r_ : TRules) (picks : LInt) : Nat → (LInt → Int → Int → ByteArray → Int → Int → Bool → Bool → Int → Int → Int → (List TPiece) → LInt → (List TEnd) → (List TPos) → LMv → Option Bool)
  | 0 => fun _ _ _ _ _ _ _ _ _ _ _ _ _ _ _ _ => none
  | n + 1 => fun t59_ t60_ t61_ g_ g_2 g_3 g_4 g_5 g_6 g_7 g_8 m9_ m10_ m11_ m12_ m13_ => gamehallkeep1_PlainRepeats.s0 N r_ picks (gamehallkeep1_PlainRepeats.L N r_ picks n) t59_ t60_ t61_ g_ g_2 g_3 g_4 g_5 g_6 g_7 g_8 m9_ m10_ m11_ m12_ m13_
def gamehallkeep1_PlainRepeats.l0 (N : Nat) (r_ : TRules) (picks : LInt) (n : Nat) : LInt → Int → Int → ByteArray → Int → Int → Bool → Bool → Int → Int → Int → (List TPiece) → LInt → (List TEnd) → (List TPos) → LMv → Option Bool := (gamehallkeep1_PlainRepeats.L N r_ picks n)
theorem gamehallkeep1_PlainRepeats.l0_s (N : Nat) (r_ : TRules) (picks : LInt) (n : Nat) (t59_ : LInt) (t60_ : Int) (t61_ : Int) (g_ : ByteArray) (g_2 : Int) (g_3 : Int) (g_4 : Bool) (g_5 : Bool) (g_6 : Int) (g_7 : Int) (g_8 : Int) (m9_ : (List TPiece)) (m10_ : LInt) (m11_ : (List TEnd)) (m12_ : (List TPos)) (m13_ : LMv) : gamehallkeep1_PlainRepeats.l0 N r_ picks (n + 1) t59_ t60_ t61_ g_ g_2 g_3 g_4 g_5 g_6 g_7 g_8 m9_ m10_ m11_ m12_ m13_ = gamehallkeep1_PlainRepeats.s0 N r_ picks (gamehallkeep1_PlainRepeats.l0 N r_ picks n) t59_ t60_ t61_ g_ g_2 g_3 g_4 g_5 g_6 g_7 g_8 m9_ m10_ m11_ m12_ m13_ := rfl
def gamehallkeep1_PlainRepeats (N : Nat) (r_ : TRules) (picks : LInt) : Option Bool := gamehallkeep1_PlainRepeats.e N (gamehallkeep1_PlainRepeats.l0 N r_ picks N) r_ picks
end
end Go.Proofs.Ytiacnffpgdikoaa.Am
