/- Plain: a board to which so many moves have led, and an element of a list. -/
import Derived.Test.YthhojealnaiehaaLawContainsk
import Derived.Test.YthhojealnaiehaaLawUndok
set_option linter.unusedVariables false
set_option linter.unusedSimpArgs false
set_option linter.unusedSectionVars false
namespace Go.Proofs.Ythhojealnaiehaa.Am
open Go

/-- an element of a list that is not empty -/
theorem someM_ret (N : Nat) {l : List MvT} (h0 : 0 < l.length) (h1 : l.length ≤ 100000) (n : Int) : Ret (gamehallkeep1_some_api_Move N l n) fun m => m ∈ l := by
  unfold gamehallkeep1_some_api_Move gamehallkeep1_some_api_Move.e
  have b1 := Int.tmod_lt_of_pos n (show (0 : Int) < l.length by omega)
  have b2 : -(l.length : Int) < Int.tmod n l.length := by
    have := Int.tmod_lt_of_pos (-n) (show (0 : Int) < l.length by omega)
    rw [Int.neg_tmod] at this
    omega
  rw [bif_f (eqI_f (by omega)), bif_f (eqI_f (by omega)), w64_id (by omega) (by omega)]
  have c1 := Int.tmod_lt_of_pos (Int.tmod n l.length + l.length) (show (0 : Int) < l.length by omega)
  have c2 := Int.tmod_nonneg (l.length : Int) (show 0 ≤ Int.tmod n l.length + l.length by omega)
  dsimp only
  rw [chk_idx c2 c1]
  obtain ⟨i, hi⟩ : ∃ i : Nat, Int.tmod (Int.tmod n l.length + l.length) l.length = i := ⟨_, (Int.toNat_of_nonneg c2).symm⟩
  rw [hi] at c1 ⊢
  rw [gD_nat (by omega)]
  exact Ret.ret (List.getElem_mem _)
/-- a board to which so many moves have led -/
inductive Chain (b0 : BoardT) : BoardT → Nat → Prop
  | nil : Chain b0 b0 0
  | step {b : BoardT} {n : Nat} {m : MvT} : Chain b0 b n → BOk b → MoveOk b.1 b.2.1 m → Chain b0 (makeB b m) (n + 1)
theorem Chain.ok {b0 b : BoardT} {n : Nat} (h0 : BOk b0) (hd : b0.2.2.2 = []) (h : Chain b0 b n) : BOk b ∧ b.2.2.2.length = n ∧ b.1 = b0.1 := by
  induction h with
  | nil => exact ⟨h0, by rw [hd]; rfl, rfl⟩
  | @step b n m h1 h2 h3 ih =>
    refine ⟨?_, ?_, ih.2.2⟩
    · exact ⟨h2.r, do_ok h2.r h2.p h3, by
        show nextI b.1 b.2.1 m b.2.2.1 = U (keyS (doI b.1 b.2.1 m))
        rw [key_do h2.r h2.p h3, h2.key]⟩
    · show (b.2.2.2 ++ [undoI b m]).length = n + 1
      rw [List.length_append, ih.2.1]; rfl
theorem len_eq (N : Nat) (b : BoardT) : board_Board_Len N b = some (b.2.2.2.length : Int) := rfl
theorem key_eq (N : Nat) (b : BoardT) : board_Board_Key N b = some b.2.2.1 := rfl
theorem pos_eq (N : Nat) {b : BoardT} (hb : BOk b) : board_Board_Position N b = some b.2.1 := by
  unfold board_Board_Position board_Board_Position.e
  rw [copy_eq hb.r hb.p, Option.bind_some]
end Go.Proofs.Ythhojealnaiehaa.Am
