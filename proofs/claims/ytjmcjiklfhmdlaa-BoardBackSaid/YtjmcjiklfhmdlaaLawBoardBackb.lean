/- The plain law BoardBack: the plain function says true at every input. -/
import Derived.Test.YtjmcjiklfhmdlaaLawUndob
set_option linter.unusedVariables false
set_option linter.unusedSimpArgs false
set_option linter.unusedSectionVars false
namespace Go.Proofs.Ytjmcjiklfhmdlaa.Am
open Go

theorem boarded_true : gamehallkeep1_boarded 200000000 = some true := by decide +kernel
/-- an element of a list that is not empty -/
theorem someM_ret (N : Nat) {l : List MvT} (h0 : 0 < l.length) (h1 : l.length ≤ 100000) (n : Int) : Ret (gamehallkeep1_some_api_Move N l n) fun m => m ∈ l := by
  unfold gamehallkeep1_some_api_Move gamehallkeep1_some_api_Move.e
  have b1 := Int.tmod_lt_of_pos n (show (0 : Int) < l.length by omega)
  have b2 : -(l.length : Int) < Int.tmod n l.length := by
    have := Int.tmod_lt_of_pos (-n) (show (0 : Int) < l.length by omega)
    rw [Int.neg_tmod] at this
    omega
  rw [bif_f (eqI_f (by omega)), bif_f (eqI_f (by omega)), w64_id (by omega) (by omega)]
  have c1 := Int.tmod_lt_of_pos (Int.tmod n l.length + l.length) (show (0 : Int) < l.length by omega)
  have c2 := Int.tmod_nonneg (l.length : Int) (show 0 ≤ Int.tmod n l.length + l.length by omega)
  dsimp only
  rw [chk_idx c2 c1]
  obtain ⟨i, hi⟩ : ∃ i : Nat, Int.tmod (Int.tmod n l.length + l.length) l.length = i := ⟨_, (Int.toNat_of_nonneg c2).symm⟩
  rw [hi] at c1 ⊢
  rw [gD_nat (by omega)]
  exact Ret.ret (List.getElem_mem _)
/-- a board to which so many moves have led -/
inductive Chain (b0 : BoardT) : BoardT → Nat → Prop
  | nil : Chain b0 b0 0
  | step {b : BoardT} {n : Nat} {m : MvT} : Chain b0 b n → BOk b → MoveOk b.1 b.2.1 m → Chain b0 (makeB b m) (n + 1)
theorem Chain.ok {b0 b : BoardT} {n : Nat} (h0 : BOk b0) (hd : b0.2.2.2 = []) (h : Chain b0 b n) : BOk b ∧ b.2.2.2.length = n ∧ b.1 = b0.1 := by
  induction h with
  | nil => exact ⟨h0, by rw [hd]; rfl, rfl⟩
  | @step b n m h1 h2 h3 ih =>
    refine ⟨?_, ?_, ih.2.2⟩
    · exact ⟨h2.r, do_ok h2.r h2.p h3, by
        show nextI b.1 b.2.1 m b.2.2.1 = U (keyS (doI b.1 b.2.1 m))
        rw [key_do h2.r h2.p h3, h2.key]⟩
    · show (b.2.2.2 ++ [undoI b m]).length = n + 1
      rw [List.length_append, ih.2.1]; rfl
def bb0 (N : Nat) (r : RulesT) (p : PosT) (picks : List Int) (n : Nat) (k : Int) (l : List Int) (len j : Int) (b : BoardT) : Option Bool :=
  gamehallkeep1_BoardBack.l0 N r p picks n k l len j b.1.1 b.1.2.1 b.1.2.2.1 b.1.2.2.2.2.2.1 b.1.2.2.2.2.2.2.1 b.1.2.2.2.2.2.2.2.2.1 b.1.2.2.2.2.2.2.2.2.2.1 b.1.2.2.2.2.2.2.2.2.2.2 b.2.1.2.2.1 b.2.1.2.2.2 b.2.2.1 b.1.2.2.2.1 b.1.2.2.2.2.1 b.1.2.2.2.2.2.2.2.1 b.2.1.1 b.2.1.2.1.1 b.2.1.2.1.2 b.2.2.2
def bb1 (N : Nat) (r : RulesT) (p : PosT) (picks : List Int) (n : Nat) (k m : Int) (b : BoardT) : Option Bool :=
  gamehallkeep1_BoardBack.l1 N r p picks n k m b.1.1 b.1.2.1 b.1.2.2.1 b.1.2.2.2.2.2.1 b.1.2.2.2.2.2.2.1 b.1.2.2.2.2.2.2.2.2.1 b.1.2.2.2.2.2.2.2.2.2.1 b.1.2.2.2.2.2.2.2.2.2.2 b.2.1.2.2.1 b.2.1.2.2.2 b.2.2.1 b.1.2.2.2.1 b.1.2.2.2.2.1 b.1.2.2.2.2.2.2.2.1 b.2.1.1 b.2.1.2.1.1 b.2.1.2.1.2 b.2.2.2
theorem bb0_s (N : Nat) (r : RulesT) (p : PosT) (picks : List Int) (n : Nat) (k : Int) (l : List Int) (len j : Int) (b : BoardT) : bb0 N r p picks (n + 1) k l len j b =
    bif ltI j len then (chk (leI 0 j && ltI j (l.length : Int)) <|
      (board_Board_Moves N b).bind fun y7 =>
      bif (eqI (y7.length : Int) 0) then ((board_Board_Len N b).bind fun y9 => bb1 N r p picks n k y9 b)
      else (gamehallkeep1_some_api_Move N y7 (gD (0 : Int) l j)).bind fun y10 =>
      (board_Board_Do' N b y10).bind fun y11 =>
      bif (!(eqI y11.1 0)) then some false
      else bb0 N r p picks n k l len (w64 (j + 1)) y11.2)
    else (board_Board_Len N b).bind fun y12 => bb1 N r p picks n k y12 b := rfl
theorem bb1_s (N : Nat) (r : RulesT) (p : PosT) (picks : List Int) (n : Nat) (k m : Int) (b : BoardT) : bb1 N r p picks (n + 1) k m b =
    bif ltI 0 m then ((board_Board_Len N b).bind fun y13 =>
      bif (!(eqI y13 m)) then some false
      else (board_Board_Undo' N b).bind fun y14 =>
      bif (!(eqI y14.1 0)) then some false
      else bb1 N r p picks n k (w64 (m - 1)) y14.2)
    else (board_Board_Key N b).bind fun y15 =>
    bif (eqI y15 k) then ((board_Board_Position N b).bind fun y16 =>
      (gamehallkeep1_same N y16 p).bind fun y17 =>
      bif y17 then ((board_Board_Undo' N b).bind fun y18 => some (eqI y18.1 8))
      else some false)
    else some false := rfl
theorem len_eq (N : Nat) (b : BoardT) : board_Board_Len N b = some (b.2.2.2.length : Int) := rfl
theorem key_eq (N : Nat) (b : BoardT) : board_Board_Key N b = some b.2.2.1 := rfl
theorem same_self {N : Nat} (hN : 1000 ≤ N) {r : RulesT} (hr : ROk r) {p : PosT} (hp : POk r p) : gamehallkeep1_same N p p = some true := by
  have hll := len_le hr hp
  have h0 := hp.h0
  have h1 := hp.h1
  unfold gamehallkeep1_same gamehallkeep1_same.e
  rw [bif_t (eqI_self _), bif_t (eqI_self _), equal_eq (by omega) (by omega) (by omega), Option.bind_some, bif_t (by simp), equal_eq (by omega) (by omega) (by omega), Option.bind_some, bif_t (by simp), equal_eq (by omega) (by omega) (by omega), Option.bind_some]
  simp
section
variable {N : Nat} (hN : 200000000 ≤ N) {r : RulesT} (hr : ROk r) {p : PosT} (hp : POk r p) (picks : List Int)
include hN hr hp
theorem back_l1 (b0 : BoardT) (hb0 : b0 = (r, (p, (U (keyS p), [])))) : ∀ (k n : Nat) (b : BoardT), Chain b0 b k → k ≤ 1000 → k < n → bb1 N r p picks n (U (keyS p)) (k : Int) b = some true
  | 0, n, b, hc, hk, hn => by
    obtain ⟨n, rfl⟩ := nxt (n := n) (by omega)
    cases hc
    subst hb0
    have hpos : board_Board_Position N (r, (p, (U (keyS p), []))) = some p := by
      unfold board_Board_Position board_Board_Position.e
      rw [copy_eq hr hp, Option.bind_some]
    have hun : board_Board_Undo' N (r, (p, (U (keyS p), []))) = some (8, (r, (p, (U (keyS p), [])))) := rfl
    rw [bb1_s, bif_f (ltI_f (by omega)), key_eq, Option.bind_some, bif_t (eqI_self _), hpos, Option.bind_some, same_self (by omega) hr hp, Option.bind_some, bif_t rfl, hun, Option.bind_some]
    rfl
  | k + 1, n, b, hc, hk, hn => by
    obtain ⟨n, rfl⟩ := nxt (n := n) (by omega)
    have hok0 : BOk b0 := by subst hb0; exact ⟨hr, hp, rfl⟩
    have hd0 : b0.2.2.2 = [] := by subst hb0; rfl
    cases hc with
    | @step b n' m h1 h2 h3 =>
      have hlen := (h1.ok hok0 hd0).2.1
      have hlen2 : (makeB b m).2.2.2.length = k + 1 := by
        show (b.2.2.2 ++ [undoI b m]).length = k + 1
        rw [List.length_append, hlen]; rfl
      rw [bb1_s, bif_t (ltI_t (by omega)), len_eq, Option.bind_some, hlen2, bif_f (by rw [eqI_self]; rfl), undo_make h2 (by omega) h3, Option.bind_some, bif_f (by rfl), w64_id (by omega) (by omega), show ((k + 1 : Nat) : Int) - 1 = (k : Int) by omega]
      exact back_l1 b0 hb0 k n b h1 (by omega) (by omega)
theorem back_l0 (b0 : BoardT) (hb0 : b0 = (r, (p, (U (keyS p), [])))) (l : List Int) (hl : l.length ≤ 20) : ∀ (k j n c : Nat) (b : BoardT), j + k = l.length → Chain b0 b c → c ≤ j → k + 100 ≤ n → bb0 N r p picks n (U (keyS p)) l (l.length : Int) (j : Int) b = some true
  | 0, j, n, c, b, hk, hc, hcj, hn => by
    obtain ⟨n, rfl⟩ := nxt (n := n) (by omega)
    have hok0 : BOk b0 := by subst hb0; exact ⟨hr, hp, rfl⟩
    have hd0 : b0.2.2.2 = [] := by subst hb0; rfl
    have hlen := (hc.ok hok0 hd0).2.1
    rw [bb0_s, bif_f (ltI_f (by omega)), len_eq, Option.bind_some, hlen]
    exact back_l1 hN hr hp picks b0 hb0 c n b hc (by omega) (by omega)
  | k + 1, j, n, c, b, hk, hc, hcj, hn => by
    obtain ⟨n, rfl⟩ := nxt (n := n) (by omega)
    have hok0 : BOk b0 := by subst hb0; exact ⟨hr, hp, rfl⟩
    have hd0 : b0.2.2.2 = [] := by subst hb0; rfl
    obtain ⟨hbk, hlen, hbr⟩ := hc.ok hok0 hd0
    have hj : j < l.length := by omega
    obtain ⟨g, hg, hgg⟩ := gen_ret hbk.r hbk.p (N := N) hN
    have hgl := hgg.len
    have hres := result_eq hbk.r hbk.p (N := N) (by omega) hg
    have stop : (board_Board_Len N b).bind (fun y9 => bb1 N r p picks n (U (keyS p)) y9 b) = some true := by
      rw [len_eq, Option.bind_some, hlen]
      exact back_l1 hN hr hp picks b0 hb0 c n b hc (by omega) (by omega)
    have hrb : board_Board_Result N b = some (resI b.1 b.2.1 (ltI 0 (g.length : Int)) b.1.2.2.2.2.2.2.2.1) := by
      unfold board_Board_Result board_Board_Result.e
      rw [hres, Option.bind_some]
    rw [bb0_s, bif_t (ltI_t (by omega)), chk_of (idx_ok hj)]
    unfold board_Board_Moves board_Board_Moves.e
    rw [hrb, Option.bind_some]
    by_cases h0 : resI b.1 b.2.1 (ltI 0 (g.length : Int)) b.1.2.2.2.2.2.2.2.1 = 0
    · rw [bif_f (by rw [eqI_t h0]; rfl), hg, Option.bind_some, Option.bind_some]
      by_cases hz : g.length = 0
      · rw [bif_t (eqI_t (by omega))]; exact stop
      · rw [bif_f (eqI_f (by omega))]
        obtain ⟨m, hm, hmem⟩ := someM_ret N (l := g) (by omega) (by omega) (gD 0 l j)
        have hmo := cand_ok hbk.r hbk.p ((hgg.mem m).1 hmem)
        have hdo : board_Board_Do' N b m = some (0, makeB b m) := by
          unfold board_Board_Do' board_Board_Do'.e
          rw [hres, Option.bind_some, bif_f (by rw [eqI_t h0]; rfl), hg, Option.bind_some, contains_eq g m (by omega) (by omega), Option.bind_some, bif_f (by simp [hmem]), bif_f (eqI_f (by omega)), make_eq hbk (by omega) hmo, Option.bind_some]
        rw [hm, Option.bind_some, hdo, Option.bind_some, bif_f (by rfl), w64_id (by omega) (by omega), show ((j : Int) + 1) = ((j + 1 : Nat) : Int) by omega]
        exact back_l0 b0 hb0 l hl k (j + 1) n (c + 1) (makeB b m) (by omega) (.step hc hbk hmo) (by omega) (by omega)
    · rw [bif_t (by rw [eqI_f h0]; rfl), Option.bind_some]
      rw [bif_t (by rfl)]
      exact stop
end
theorem boardBack_at (r : RulesT) (p : PosT) (picks : List Int) : gamehallkeep1_BoardBack 200000000 r p picks = some true := by
  have hbd := boarded_true
  obtain ⟨v, hv, hv0⟩ := pcheck (N := 200000000) (by decide) r p
  unfold gamehallkeep1_BoardBack gamehallkeep1_BoardBack.e
  rw [hbd, Option.bind_some, bif_f (by rfl)]
  by_cases h0 : v = 0
  · obtain ⟨hr, hp⟩ := hv0.1 h0
    rw [new_good (by decide) hr hp, Option.bind_some]
    show (bif (!(eqI 0 0)) then (some (!(eqI 0 0)))
      else (board_Board_Key 200000000 (r, (p, (U (keyS p), [])))).bind fun y4 => _) = _
    rw [bif_f (by rfl), key_eq, Option.bind_some]
    have h20 : 0 ≤ (bif (ltI 20 (picks.length : Int)) then 20 else (picks.length : Int)) ∧ (bif (ltI 20 (picks.length : Int)) then 20 else (picks.length : Int)) ≤ 20 ∧ (bif (ltI 20 (picks.length : Int)) then 20 else (picks.length : Int)) ≤ picks.length := by
      by_cases c : 20 < (picks.length : Int)
      · rw [bif_t (ltI_t c)]; omega
      · rw [bif_f (ltI_f (by omega))]; omega
    dsimp only
    generalize (bif (ltI 20 (picks.length : Int)) then 20 else (picks.length : Int)) = v5 at *
    rw [Option.bind_some, chk_t1 h20.1 h20.2.2]
    have hl : ((picks.take v5.toNat).drop (0 : Int).toNat).length ≤ 20 := by simp; omega
    exact back_l0 (Nat.le_refl _) hr hp picks (r, (p, (U (keyS p), []))) rfl _ hl ((picks.take v5.toNat).drop (0 : Int).toNat).length 0 200000000 0 (r, (p, (U (keyS p), []))) (by omega) .nil (by omega) (by omega)
  · rw [new_bad hv h0, Option.bind_some]
    show (bif (!(eqI v 0)) then (some (!(eqI v 0))) else some (!(eqI v 0))) = _
    rw [eqI_f h0]
    rfl
end Go.Proofs.Ytjmcjiklfhmdlaa.Am
