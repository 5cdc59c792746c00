/- The plain law ZobQuiet: the plain function says true at every input. -/
import Derived.Test.YtjmcjiklfhmdlaaLawPlacez
set_option linter.unusedVariables false
set_option linter.unusedSimpArgs false
namespace Go.Proofs.Ytjmcjiklfhmdlaa.Am
open Go

abbrev U (x : Int) : Int := IntKind.wrap .u64 x
theorem U_eq (x : Int) : U x = x % 18446744073709551616 := by
  unfold U IntKind.wrap
  have e : (2 : Int) ^ IntKind.bits .u64 = 18446744073709551616 := by decide
  simp only [e]
  simp [IntKind.signed]
theorem U_add (a b : Int) : U (U a + b) = U (a + b) := by simp only [U_eq]; omega
theorem mix_ex (N : Nat) (n : Int) : ∃ m, zob_Mix N n = some m := ⟨_, rfl⟩
theorem square_ex (N : Nat) (s c : Int) : ∃ m, zob_square N s c = some m := by
  unfold zob_square zob_square.e
  cases eqI c 0
  · obtain ⟨m, hm⟩ := mix_ex N (w64 (w64 (16 * s) + c))
    rw [cond_false, hm]; exact ⟨_, rfl⟩
  · exact ⟨_, rfl⟩
theorem held_ex (N : Nat) (p k n : Int) : ∃ m, zob_held N p k n = some m := by
  unfold zob_held zob_held.e
  obtain ⟨m, hm⟩ := mix_ex N (w64 (w64 (2000 + w64 (8 * p)) + k))
  rw [hm]; exact ⟨_, rfl⟩
section
variable (N : Nat) (p : PosT)
/-- a function of the key so far that adds a number -/
def Adds (f : Int → Option Int) : Prop := ∃ S : Int, ∀ k, f (U k) = some (U (k + S))
theorem of_l1_end : ∀ n, 1 ≤ n → ∀ k, zob_Of.l1 N p n k 2 = some k := by
  intro n hn k
  obtain ⟨n, rfl⟩ : ∃ m, n = m + 1 := ⟨n - 1, by omega⟩
  rw [zob_Of.l1_s, zob_Of.s1, bif_f (by rfl)]
theorem of_l2 (o t : Int) (l : List Int) (hl : l.length ≤ 6) (B : Nat) (S : Int) (hB : ∀ n, B ≤ n → ∀ k, zob_Of.l1 N p n (U k) (w64 (t + 1)) = some (U (k + S))) : ∀ (m j : Nat), j + m = l.length → ∃ S', ∀ n, B + m + 1 ≤ n → ∀ k, zob_Of.l2 N p n (U k) o t l (l.length : Int) (j : Int) = some (U (k + S'))
  | 0, j, hm => ⟨S, fun n hn k => by
    obtain ⟨n, rfl⟩ : ∃ m, n = m + 1 := ⟨n - 1, by omega⟩
    rw [zob_Of.l2_s, zob_Of.s2, bif_f (ltI_f (by omega)), hB n (by omega)]⟩
  | m + 1, j, hm => by
    obtain ⟨S', h'⟩ := of_l2 o t l hl B S hB m (j + 1) (by omega)
    have hj : j < l.length := by omega
    obtain ⟨y, hy⟩ := held_ex N o j l[j]
    refine ⟨y + S', fun n hn k => ?_⟩
    obtain ⟨n, rfl⟩ : ∃ m, n = m + 1 := ⟨n - 1, by omega⟩
    rw [zob_Of.l2_s, zob_Of.s2, bif_t (ltI_t (by omega)), chk_of (idx_ok hj), gD_nat hj, hy, Option.bind_some, w64_id (by omega) (by omega), show ((j : Int) + 1) = ((j + 1 : Nat) : Int) by omega]
    show zob_Of.l2 N p n (U (U k + y)) o t l (l.length : Int) ((j + 1 : Nat) : Int) = _
    rw [U_add, h' n (by omega), Int.add_assoc]
theorem of_l1 (h0 : p.2.1.1.length ≤ 6) (h1 : p.2.1.2.length ≤ 6) : ∃ S', ∀ n, 30 ≤ n → ∀ k, zob_Of.l1 N p n (U k) 0 = some (U (k + S')) := by
  obtain ⟨S1, k1⟩ := of_l2 N p 1 1 p.2.1.2 h1 1 0 (fun n hn k => by rw [show w64 ((1 : Int) + 1) = 2 by decide, of_l1_end N p n hn, Int.add_zero]) p.2.1.2.length 0 (by omega)
  have k1' : ∀ n, 9 ≤ n → ∀ k, zob_Of.l1 N p n (U k) (w64 (0 + 1)) = some (U (k + S1)) := fun n hn k => by
    obtain ⟨n, rfl⟩ : ∃ m, n = m + 1 := ⟨n - 1, by omega⟩
    rw [show w64 ((0 : Int) + 1) = 1 by decide, zob_Of.l1_s, zob_Of.s1, bif_t (by rfl), bif_f (by rfl), bif_t (by rfl)]
    exact k1 n (by omega) k
  obtain ⟨S0, k0⟩ := of_l2 N p 0 0 p.2.1.1 h0 9 S1 k1' p.2.1.1.length 0 (by omega)
  refine ⟨S0, fun n hn k => ?_⟩
  obtain ⟨n, rfl⟩ : ∃ m, n = m + 1 := ⟨n - 1, by omega⟩
  rw [zob_Of.l1_s, zob_Of.s1, bif_t (by rfl), bif_t (by rfl)]
  exact k0 n (by omega) k
theorem of_l0 (hl : p.1.length ≤ 64) (S : Int) (hS : ∀ n, 30 ≤ n → ∀ k, zob_Of.l1 N p n (U k) 0 = some (U (k + S))) : ∀ (m j : Nat), j + m = p.1.length → ∃ S', ∀ n, 31 + m ≤ n → ∀ k, zob_Of.l0 N p n (U k) (j : Int) = some (U (k + S'))
  | 0, j, hm => ⟨S, fun n hn k => by
    obtain ⟨n, rfl⟩ : ∃ m, n = m + 1 := ⟨n - 1, by omega⟩
    rw [zob_Of.l0_s, zob_Of.s0, bif_f (ltI_f (by omega)), hS n (by omega)]⟩
  | m + 1, j, hm => by
    obtain ⟨S', h'⟩ := of_l0 hl S hS m (j + 1) (by omega)
    have hj : j < p.1.length := by omega
    obtain ⟨y, hy⟩ := square_ex N j p.1[j]
    refine ⟨y + S', fun n hn k => ?_⟩
    obtain ⟨n, rfl⟩ : ∃ m, n = m + 1 := ⟨n - 1, by omega⟩
    rw [zob_Of.l0_s, zob_Of.s0, bif_t (ltI_t (by omega)), chk_of (idx_ok hj), gD_nat hj, hy, Option.bind_some, w64_id (by omega) (by omega), show ((j : Int) + 1) = ((j + 1 : Nat) : Int) by omega]
    show zob_Of.l0 N p n (U (U k + y)) ((j + 1 : Nat) : Int) = _
    rw [U_add, h' n (by omega), Int.add_assoc]
end
/-- all positions with these cells and hands -/
theorem of_eq (cs : List Int) (hs : List Int × List Int) (h0 : hs.1.length ≤ 6) (h1 : hs.2.length ≤ 6) (hl : cs.length ≤ 64) (t q : Int) : ∃ S', ∀ k, zob_Of.l0 1000 (cs, (hs, (t, q))) 1000 (U k) 0 = some (U (k + S')) := by
  obtain ⟨S, hS⟩ := of_l1 1000 (cs, (hs, (t, q))) h0 h1
  obtain ⟨S', h⟩ := of_l0 1000 (cs, (hs, (t, q))) hl S hS cs.length 0 (by simp)
  exact ⟨S', fun k => h 1000 (by omega) k⟩
/-- the loops do not look at the turn -/
theorem of_indep (cs : List Int) (hs : List Int × List Int) (t q t' q' : Int) : ∀ n, zob_Of.L 1000 (cs, (hs, (t, q))) n = zob_Of.L 1000 (cs, (hs, (t', q'))) n
  | 0 => rfl
  | n + 1 => by
    unfold zob_Of.L
    rw [of_indep cs hs t q t' q' n]
    rfl
def mixOk : Bool := match zob_Mix 1000 3000 with | some m => eqI (U m) m | none => false
theorem mixOk_true : mixOk = true := by decide +kernel
theorem mix3000 : ∃ m, zob_Mix 1000 3000 = some m ∧ U m = m := by
  have h := mixOk_true
  unfold mixOk at h
  split at h
  · rename_i m hm
    exact ⟨m, hm, by simpa [eqI] using h⟩
  · cases h
theorem turn_key {M : Nat} {m : Int} (hm : zob_Mix M 3000 = some m) (hu : U m = m) : zob_turn M 0 = some (U 0) ∧ zob_turn M 1 = some (U m) := by
  unfold zob_turn zob_turn.e
  rw [hm]
  constructor
  · show some (U (U 0 * m)) = _
    rw [show U 0 = 0 by decide, Int.zero_mul]
    rfl
  · show some (U (U 1 * m)) = _
    rw [show U 1 = 1 by decide, Int.one_mul]
theorem keyed_true : gamehallkeep1_keyed 1000 = some true := by decide +kernel
theorem zobQuiet_at (r : RulesT) (p : PosT) : gamehallkeep1_ZobQuiet 1000 r p = some true := by
  obtain ⟨m, hm, hu⟩ := mix3000
  have hkey := keyed_true
  obtain ⟨nm, w, h, ps, st, fa, ke, en, bl, qu, re⟩ := r
  obtain ⟨v, hck, hv0⟩ := check_cases nm w h ps st fa ke en bl qu re
  by_cases h0 : v = 0
  rotate_left
  · have hp := pcheck_bad (p := p) hck h0
    generalize 1000 = M at *
    unfold gamehallkeep1_ZobQuiet gamehallkeep1_ZobQuiet.e
    rw [hkey, Option.bind_some, bif_f (by rfl)]
    unfold zob_Key zob_Key.e
    rw [hp, Option.bind_some, bif_t (by rw [eqI_f h0]; rfl), Option.bind_some, bif_t (by dsimp only; rw [eqI_f h0]; rfl)]
    rfl
  subst h0
  obtain ⟨w, h, rfl, rfl, ho, _⟩ := hv0 rfl
  obtain ⟨u, hu1, hu0⟩ := place_check hck ho p
  by_cases hp : PosOk (w * h) ps.length p
  rotate_left
  · have hne : u ≠ 0 := fun e => hp (hu0.1 e)
    generalize 1000 = M at *
    unfold gamehallkeep1_ZobQuiet gamehallkeep1_ZobQuiet.e
    rw [hkey, Option.bind_some, bif_f (by rfl)]
    unfold zob_Key zob_Key.e
    rw [hu1, Option.bind_some, bif_t (by rw [eqI_f hne]; rfl), Option.bind_some, bif_t (by dsimp only; rw [eqI_f hne]; rfl)]
    rfl
  have := hu0.2 hp
  subst this
  obtain ⟨cs, hs, t, q⟩ := p
  have he := hp.e
  unfold placeEnd at he
  split at he
  rotate_left
  · cases he
  rename_i hq
  dsimp only at hq
  have hp2 : PosOk (w * h) ps.length (cs, (hs, (w64 (1 - t), 0))) := by
    refine ⟨hp.len, hp.h0, hp.h1, hp.cells, hp.o0, hp.o1, ?_⟩
    unfold placeEnd
    dsimp only
    rw [w64_id (by omega) (by omega), if_pos (by omega)]
  obtain ⟨u2, hu2, hu3⟩ := place_check hck ho (cs, (hs, (w64 (1 - t), 0)))
  have := hu3.2 hp2
  subst this
  have ha := area_le ho.b
  have e1 := hp.len
  have e2 := hp.h0
  have e3 := hp.h1
  have hps := ho.np
  dsimp only at e1 e2 e3
  obtain ⟨S, hS⟩ := of_eq cs hs (by omega) (by omega) (by omega) t q
  have hS2 : ∀ k, zob_Of.l0 1000 (cs, (hs, (w64 (1 - t), 0))) 1000 (U k) 0 = some (U (k + S)) := by
    intro k
    rw [← hS k]
    unfold zob_Of.l0
    rw [of_indep cs hs (w64 (1 - t)) 0 t q 1000]
  obtain ⟨t0, t1⟩ := turn_key hm hu
  generalize 1000 = M at *
  unfold gamehallkeep1_ZobQuiet gamehallkeep1_ZobQuiet.e
  rw [hkey, Option.bind_some, bif_f (by rfl)]
  unfold zob_Key zob_Key.e
  rw [hu1, Option.bind_some, bif_f (by rfl)]
  dsimp only
  rw [hu2, Option.bind_some, bif_f (by rfl)]
  unfold zob_Of zob_Of.e
  dsimp only
  rcases hq.1 with ht | ht
  · subst ht
    rw [show w64 (1 - 0) = 1 by decide] at hS2 ⊢
    rw [t0, Option.bind_some, hS, Option.bind_some, Option.bind_some, bif_f (by rfl), t1, Option.bind_some, hS2, Option.bind_some, Option.bind_some, hm, Option.bind_some, bif_f (by rfl), bif_t (by rfl)]
    congr 1
    apply eqI_t
    show U (U (m + S) - U (0 + S)) = m
    conv => rhs; rw [← hu]
    simp only [U_eq]
    omega
  · subst ht
    rw [show w64 (1 - 1) = 0 by decide] at hS2 ⊢
    rw [t1, Option.bind_some, hS, Option.bind_some, Option.bind_some, bif_f (by rfl), t0, Option.bind_some, hS2, Option.bind_some, Option.bind_some, hm, Option.bind_some, bif_t (by rfl), bif_t (by rfl)]
    congr 1
    apply eqI_t
    show U (U (0 + S) - U (m + S)) = U (0 - m)
    simp only [U_eq]
    omega
end Go.Proofs.Ytjmcjiklfhmdlaa.Am
