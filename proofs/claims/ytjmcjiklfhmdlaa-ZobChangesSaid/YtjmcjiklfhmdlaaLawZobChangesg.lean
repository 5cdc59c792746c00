/- The plain law ZobChanges: the plain function says true at every input. -/
import Derived.Test.YtjmcjiklfhmdlaaLawZobg
import Derived.Test.YtjmcjiklfhmdlaaLawFineg
import Derived.Test.YtjmcjiklfhmdlaaFng1
set_option linter.unusedVariables false
set_option linter.unusedSimpArgs false
set_option linter.unusedSectionVars false
namespace Go.Proofs.Ytjmcjiklfhmdlaa.Am
open Go

theorem keyed_true : gamehallkeep1_keyed 200000000 = some true := by decide +kernel
theorem plays_trueZ : gamehallkeep1_plays 200000000 = some true := by decide +kernel
/-- an element of a list that is not empty -/
theorem someM_ret (N : Nat) {l : List MvT} (h0 : 0 < l.length) (h1 : l.length ≤ 100000) (n : Int) : Ret (gamehallkeep1_some_api_Move N l n) fun m => m ∈ l := by
  unfold gamehallkeep1_some_api_Move gamehallkeep1_some_api_Move.e
  have b1 := Int.tmod_lt_of_pos n (show (0 : Int) < l.length by omega)
  have b2 : -(l.length : Int) < Int.tmod n l.length := by
    have := Int.tmod_lt_of_pos (-n) (show (0 : Int) < l.length by omega)
    rw [Int.neg_tmod] at this
    omega
  rw [bif_f (eqI_f (by omega)), bif_f (eqI_f (by omega)), w64_id (by omega) (by omega)]
  have c1 := Int.tmod_lt_of_pos (Int.tmod n l.length + l.length) (show (0 : Int) < l.length by omega)
  have c2 := Int.tmod_nonneg (l.length : Int) (show 0 ≤ Int.tmod n l.length + l.length by omega)
  dsimp only
  rw [chk_idx c2 c1]
  obtain ⟨i, hi⟩ : ∃ i : Nat, Int.tmod (Int.tmod n l.length + l.length) l.length = i := ⟨_, (Int.toNat_of_nonneg c2).symm⟩
  rw [hi] at c1 ⊢
  rw [gD_nat (by omega)]
  exact Ret.ret (List.getElem_mem _)
theorem zobChanges_at (r : RulesT) (p : PosT) (n : Int) : gamehallkeep1_ZobChanges 200000000 r p n = some true := by
  have hky := keyed_true
  have hpl := plays_trueZ
  obtain ⟨v, hv, hv0⟩ := pcheck (N := 200000000) (by decide) r p
  unfold gamehallkeep1_ZobChanges gamehallkeep1_ZobChanges.e
  rw [hky, Option.bind_some, bif_f (by rfl), hpl, Option.bind_some, bif_f (by rfl)]
  by_cases h0 : v = 0
  · obtain ⟨hr, hp⟩ := hv0.1 h0
    obtain ⟨l, hl, hg⟩ := gen_ret hr hp (N := 200000000) (Nat.le_refl _)
    have hlen := hg.len
    rw [all_good (by decide) hr hp hl hg, Option.bind_some, bif_f (by rfl)]
    dsimp only
    by_cases hz : l.length = 0
    · rw [hz]; rfl
    · rw [bif_f (eqI_f (by omega))]
      obtain ⟨m, hm, hmem⟩ := someM_ret 200000000 (l := l) (by omega) (by omega) n
      have hmo := cand_ok hr hp ((hg.mem m).1 hmem)
      have hdo := do_ok hr hp hmo
      rw [hm, Option.bind_some, after_good (by decide) hr hp hl hg hmem, Option.bind_some]
      have hkey : zob_Key 200000000 r (doI r p m) = some (U (keyS (doI r p m)), 0) := by
        unfold zob_Key zob_Key.e
        rw [pcheck_ok (by decide) hr hdo, Option.bind_some, bif_f (by rfl), of_eq hr hdo (by decide), Option.bind_some]
      have hchg : zob_Change 200000000 r p m = some (nextI r p m (U (keyS p)), 0) := by
        unfold zob_Change zob_Change.e
        rw [pcheck_ok (by decide) hr hp, Option.bind_some, bif_f (by rfl), hl, Option.bind_some, contains_eq l m (by omega) (by decide), Option.bind_some, bif_f (by simp [hmem]), of_eq hr hp (by decide), Option.bind_some, next_eq hr hp _ hmo, Option.bind_some]
      rw [hkey, Option.bind_some, hchg, Option.bind_some, fine_eq (by simp) (by simp), Option.bind_some, bif_t (by simp), key_do hr hp hmo, eqI_self]
  · rw [all_bad hv h0, Option.bind_some, bif_t (by simp [eqI, h0])]
    rfl
end Go.Proofs.Ytjmcjiklfhmdlaa.Am
