/- The plain law BitsSubsets: the plain function says true at every input. -/
import Derived.Test.YtbnpbnghpbgjiaaDoorLawBitsL
set_option linter.unusedVariables false
set_option linter.unusedSimpArgs false
namespace Go.Proofs.YtbnpbnghpbgjiaaDoor.Am
open Go

/-- the subset of b with a number -/
def dep : Nat → Nat → Nat → Nat
  | 0, _, _ => 0
  | f + 1, b, n => if b % 2 = 1 then 2 * dep f (b / 2) (n / 2) + n % 2 else 2 * dep f (b / 2) n
/-- the subset behind s, in width f -/
def nxs (f b s : Nat) : Nat := (2 ^ f + s - b) % 2 ^ f &&& b
theorem and_two (x y r t : Nat) (hr : r < 2) (ht : t < 2) : (2 * x + r) &&& (2 * y + t) = 2 * (x &&& y) + (r * t) := by
  have h2 : r * t < 2 := by
    have : r = 0 ∨ r = 1 := by omega
    rcases this with rfl | rfl <;> simp <;> omega
  apply Nat.eq_of_testBit_eq
  intro i
  cases i with
  | zero =>
    rw [Nat.testBit_and, Nat.testBit_zero, Nat.testBit_zero, Nat.testBit_zero]
    have h3 : r = 0 ∨ r = 1 := by omega
    have h4 : t = 0 ∨ t = 1 := by omega
    rcases h3 with rfl | rfl <;> rcases h4 with rfl | rfl <;> simp
  | succ i =>
    rw [Nat.testBit_and, Nat.testBit_add_one, Nat.testBit_add_one, Nat.testBit_add_one, show (2 * x + r) / 2 = x by omega, show (2 * y + t) / 2 = y by omega, show (2 * (x &&& y) + r * t) / 2 = x &&& y by omega, Nat.testBit_and]
structure DepOk (f b : Nat) : Prop where
  le : ∀ n, n < 2 ^ pcF f b → dep f b n ≤ b
  sub : ∀ n, n < 2 ^ pcF f b → dep f b n &&& b = dep f b n
  comp : ∀ n, n < 2 ^ pcF f b → (2 ^ f - 1 - (b - dep f b n)) &&& b = dep f b n
  last : dep f b (2 ^ pcF f b - 1) = b
  first : dep f b 0 = 0
  nxt : ∀ n, n + 1 < 2 ^ pcF f b → nxs f b (dep f b n) = dep f b (n + 1) ∧ dep f b n < dep f b (n + 1) ∧ dep f b n ≠ b
theorem dep_ok : ∀ (f b : Nat), b < 2 ^ f → DepOk f b
  | 0, b, h => by
    have : b = 0 := by omega
    subst this
    exact ⟨fun n _ => Nat.le_refl _, fun n _ => Nat.and_zero _, fun n _ => Nat.and_zero _, rfl, rfl, fun n hn => by simp [pcF] at hn⟩
  | f + 1, b, h => by
    have ih := dep_ok f (b / 2) (by rw [Nat.pow_succ] at h; omega)
    have hP : 0 < 2 ^ f := Nat.two_pow_pos f
    have hb2 : b / 2 < 2 ^ f := by rw [Nat.pow_succ] at h; omega
    have hpow : 2 ^ (f + 1) = 2 * 2 ^ f := by rw [Nat.pow_succ, Nat.mul_comm]
    have hq : 0 < 2 ^ pcF f (b / 2) := Nat.two_pow_pos _
    by_cases h1 : b % 2 = 1
    · have hpc : pcF (f + 1) b = pcF f (b / 2) + 1 := by rw [pcF, h1]; omega
      have hpp : 2 ^ pcF (f + 1) b = 2 * 2 ^ pcF f (b / 2) := by rw [hpc, Nat.pow_succ, Nat.mul_comm]
      have hd : ∀ n, dep (f + 1) b n = 2 * dep f (b / 2) (n / 2) + n % 2 := fun n => by rw [dep, if_pos h1]
      have hbe : b = 2 * (b / 2) + 1 := by omega
      have hb1 : ∀ x r, r < 2 → (2 * x + r) &&& b = 2 * (x &&& (b / 2)) + r := by
        intro x r hr
        have := and_two x (b / 2) r 1 hr (by decide)
        rw [← hbe, Nat.mul_one] at this
        exact this
      refine ⟨fun n hn => ?_, fun n hn => ?_, fun n hn => ?_, ?_, ?_, fun n hn => ?_⟩
      · have := ih.le (n / 2) (by omega)
        rw [hd]; omega
      · rw [hd, hb1 _ _ (by omega), ih.sub (n / 2) (by omega)]
      · have k1 := ih.le (n / 2) (by omega)
        have k2 := ih.comp (n / 2) (by omega)
        rw [hd]
        generalize dep f (b / 2) (n / 2) = s at *
        rw [show 2 ^ (f + 1) - 1 - (b - (2 * s + n % 2)) = 2 * (2 ^ f - 1 - (b / 2 - s)) + n % 2 by omega, hb1 _ _ (by omega), k2]
      · rw [hd, hpp, show (2 * 2 ^ pcF f (b / 2) - 1) / 2 = 2 ^ pcF f (b / 2) - 1 by omega, ih.last, show (2 * 2 ^ pcF f (b / 2) - 1) % 2 = 1 by omega]
        omega
      · rw [hd, show 0 / 2 = 0 from rfl, ih.first]
      · have k1 := ih.le (n / 2) (by omega)
        rw [hd, hd]
        by_cases hn2 : n % 2 = 0
        · have k2 := ih.comp (n / 2) (by omega)
          rw [show (n + 1) / 2 = n / 2 by omega, show (n + 1) % 2 = 1 by omega, hn2]
          refine ⟨?_, by omega, by omega⟩
          generalize dep f (b / 2) (n / 2) = s at *
          unfold nxs
          have e : (2 ^ (f + 1) + (2 * s + 0) - b) % 2 ^ (f + 1) = 2 * (2 ^ f - 1 - (b / 2 - s)) + 1 := by
            rw [Nat.mod_eq_of_lt (by omega)]
            omega
          rw [e, hb1 _ _ (by decide), k2]
        · obtain ⟨k2, k3, k4⟩ := ih.nxt (n / 2) (by omega)
          rw [show (n + 1) / 2 = n / 2 + 1 by omega, show (n + 1) % 2 = 0 by omega, show n % 2 = 1 by omega]
          refine ⟨?_, by omega, by omega⟩
          rw [← k2]
          generalize dep f (b / 2) (n / 2) = s at *
          unfold nxs
          have e : (2 ^ (f + 1) + (2 * s + 1) - b) % 2 ^ (f + 1) = 2 * ((2 ^ f + s - b / 2) % 2 ^ f) + 0 := by
            rw [hpow, show 2 * 2 ^ f + (2 * s + 1) - b = 2 * (2 ^ f + s - b / 2) by omega, Nat.mul_mod_mul_left]
            rfl
          rw [e, hb1 _ _ (by decide)]
    · have hpc : pcF (f + 1) b = pcF f (b / 2) := by rw [pcF, show b % 2 = 0 by omega]; omega
      have hd : ∀ n, dep (f + 1) b n = 2 * dep f (b / 2) n := fun n => by rw [dep, if_neg h1]
      have hbe : b = 2 * (b / 2) + 0 := by omega
      have hb1 : ∀ x r, r < 2 → (2 * x + r) &&& b = 2 * (x &&& (b / 2)) := by
        intro x r hr
        have := and_two x (b / 2) r 0 hr (by decide)
        rw [← hbe, Nat.mul_zero] at this
        exact this
      refine ⟨fun n hn => ?_, fun n hn => ?_, fun n hn => ?_, ?_, ?_, fun n hn => ?_⟩
      · rw [hpc] at hn
        have := ih.le n hn
        rw [hd]; omega
      · rw [hpc] at hn
        have := hb1 (dep f (b / 2) n) 0 (by decide)
        rw [Nat.add_zero, ih.sub n hn] at this
        rw [hd]; exact this
      · rw [hpc] at hn
        have k1 := ih.le n hn
        have k2 := ih.comp n hn
        rw [hd]
        generalize dep f (b / 2) n = s at *
        rw [show 2 ^ (f + 1) - 1 - (b - 2 * s) = 2 * (2 ^ f - 1 - (b / 2 - s)) + 1 by omega, hb1 _ _ (by decide), k2]
      · rw [hpc, hd, ih.last]; omega
      · rw [hd, ih.first]
      · rw [hpc] at hn
        obtain ⟨k2, k3, k4⟩ := ih.nxt n hn
        have k1 := ih.le n (by omega)
        rw [hd, hd]
        refine ⟨?_, by omega, by omega⟩
        rw [← k2]
        generalize dep f (b / 2) n = s at *
        unfold nxs
        have e : (2 ^ (f + 1) + 2 * s - b) % 2 ^ (f + 1) = 2 * ((2 ^ f + s - b / 2) % 2 ^ f) + 0 := by
          rw [hpow, show 2 * 2 ^ f + 2 * s - b = 2 * (2 ^ f + s - b / 2) by omega, Nat.mul_mod_mul_left]
          rfl
        rw [e, hb1 _ _ (by decide)]
theorem sub_l1 {N : Nat} {bb : Int} {b : Nat} (hb : b < 2 ^ 64) (hp : pc b ≤ 8) (hN : 1000 < N) : ∀ (k n fuel : Nat) (last : Int), n + k + 1 = 2 ^ pc b → k + 1 < fuel → (0 < n → last < ((dep 64 b n : Nat) : Int)) →
    gamehallkeep1_BitsSubsets.l1 N bb fuel (b : Int) ((dep 64 b n : Nat) : Int) (b : Int) (n : Int) last = some true := by
  have hD := dep_ok 64 b hb
  have hpow : 2 ^ pc b ≤ 256 := by
    have : 2 ^ pc b ≤ 2 ^ 8 := Nat.pow_le_pow_right (by decide) hp
    omega
  intro k
  induction k with
  | zero =>
    intro n fuel last hn hf hl
    obtain ⟨fuel, rfl⟩ := nxtS hf
    obtain ⟨fuel, rfl⟩ := nxtS (k := 0) (n := fuel) (by omega)
    have hlast : dep 64 b n = b := by
      have := hD.last
      rw [show n = 2 ^ pcF 64 b - 1 from by show n = 2 ^ pc b - 1; omega]
      exact this
    rw [hlast] at hl ⊢
    have hnn : nn b b = 0 := by
      apply Nat.eq_of_testBit_eq
      intro j
      rw [nn_bit hb hb, Nat.zero_testBit]
      cases b.testBit j <;> rfl
    have hend : gamehallkeep1_BitsSubsets.l2 N bb (fuel + 1) (b : Int) (w64 ((n : Int) + 1)) = some true := by
      rw [gamehallkeep1_BitsSubsets.l2_s, gamehallkeep1_BitsSubsets.s2, count_eq (by omega) hb, Option.bind_some, bif_f (ltI_f (by omega)), Int.toNat_natCast, show min (pc b) 64 = pc b by omega, Int.one_mul]
      have e : ((2 : Int) ^ pc b) = ((2 ^ pc b : Nat) : Int) := by rw [Int.natCast_pow]; rfl
      rw [e, w64_id (by omega) (by omega), w64_id (by omega) (by omega), eqI_t (by omega)]
    rw [gamehallkeep1_BitsSubsets.l1_s, gamehallkeep1_BitsSubsets.s1, bNot hb hb, hnn, show (!(eqI ((0 : Nat) : Int) 0)) = false from rfl, bif_f rfl, eqI_t (show (b : Int) = b from rfl)]
    by_cases h0 : 0 < n
    · rw [bif_t (ltI_t (by omega)), bif_f (leI_f (hl h0)), bif_f (ltI_f (by omega)), bif_t rfl]
      exact hend
    · rw [bif_f (ltI_f (by omega)), bif_f (ltI_f (by omega)), bif_t rfl]
      exact hend
  | succ k ih =>
    intro n fuel last hn hf hl
    obtain ⟨fuel, rfl⟩ := nxtS hf
    have hn1 : n < 2 ^ pcF 64 b := by show n < 2 ^ pc b; omega
    obtain ⟨k1, k2, k3⟩ := hD.nxt n (by show n + 1 < 2 ^ pc b; omega)
    have hle := hD.le n hn1
    have hsub := hD.sub n hn1
    have hdl : dep 64 b n < 2 ^ 64 := by omega
    have hnn : nn (dep 64 b n) b = 0 := by
      apply Nat.eq_of_testBit_eq
      intro j
      rw [nn_bit hdl hb, Nat.zero_testBit]
      have := congrArg (fun x => x.testBit j) hsub
      simp only [Nat.testBit_and] at this
      cases h1 : (dep 64 b n).testBit j <;> cases h2 : b.testBit j <;> simp_all
    have hw : IntKind.wrap .u64 (((dep 64 b n : Nat) : Int) - (b : Int)) = (((2 ^ 64 + dep 64 b n - b) % 2 ^ 64 : Nat) : Int) := by
      show (((dep 64 b n : Nat) : Int) - (b : Int)) % 18446744073709551616 = _
      omega
    have hx : Go.bits .and .u64 (IntKind.wrap .u64 (((dep 64 b n : Nat) : Int) - (b : Int))) (b : Int) = ((dep 64 b (n + 1) : Nat) : Int) := by
      rw [hw, bAnd (Nat.mod_lt _ (by decide)) hb, ← k1]
      rfl
    have hw1 : w64 ((n : Int) + 1) = ((n + 1 : Nat) : Int) := by rw [w64_id (by omega) (by omega)]; omega
    have h := ih (n + 1) fuel ((dep 64 b n : Nat) : Int) (by omega) (by omega) (fun _ => by omega)
    have hne : eqI ((dep 64 b n : Nat) : Int) (b : Int) = false := eqI_f (by omega)
    rw [gamehallkeep1_BitsSubsets.l1_s, gamehallkeep1_BitsSubsets.s1, bNot hdl hb, hnn, show (!(eqI ((0 : Nat) : Int) 0)) = false from rfl, bif_f rfl, hne, hx, hw1]
    by_cases h0 : 0 < n
    · rw [bif_t (ltI_t (by omega)), bif_f (leI_f (hl h0)), bif_f (ltI_f (by omega)), bif_f rfl]
      exact h
    · rw [bif_f (ltI_f (by omega)), bif_f (ltI_f (by omega)), bif_f rfl]
      exact h
theorem sub_l0 {N : Nat} {bb : Int} (hN : 1000 < N) : ∀ (p b fuel : Nat), pc b = p → b < 2 ^ 64 → p + 400 < fuel → gamehallkeep1_BitsSubsets.l0 N bb fuel (b : Int) = some true := by
  intro p
  induction p using Nat.strongRecOn with
  | _ p ih =>
    intro b fuel hpb hb hf
    obtain ⟨fuel, rfl⟩ := nxtS (k := 0) (n := fuel) (by omega)
    rw [gamehallkeep1_BitsSubsets.l0_s, gamehallkeep1_BitsSubsets.s0, count_eq (by omega) hb, Option.bind_some]
    by_cases h8 : 8 < pc b
    · have h0 : b ≠ 0 := fun e => by subst e; rw [pc_zero] at h8; omega
      obtain ⟨h1, h2, h3, h4, h5, _⟩ := low_facts h0 hb
      rw [bif_t (ltI_t (by omega)), h4]
      exact ih (pc (clr b)) (by omega) (clr b) fuel rfl (by omega) (by omega)
    · have hD := dep_ok 64 b hb
      have hpow : 2 ^ pc b ≤ 256 := by
        have : 2 ^ pc b ≤ 2 ^ 8 := Nat.pow_le_pow_right (by decide) (by omega)
        omega
      have hpp : 0 < 2 ^ pc b := Nat.two_pow_pos _
      have h := sub_l1 (N := N) (bb := bb) hb (by omega) hN (2 ^ pc b - 1) 0 fuel 0 (by omega) (by omega) (fun h => absurd h (Nat.lt_irrefl 0))
      rw [hD.first] at h
      rw [bif_f (ltI_f (by omega))]
      exact h
theorem bitsSubsets_at (b : Int) (hb0 : 0 ≤ b) (hb1 : b ≤ 18446744073709551615) : gamehallkeep1_BitsSubsets 300000000 b = some true := by
  obtain ⟨m, rfl⟩ : ∃ m : Nat, b = m := ⟨b.toNat, by omega⟩
  have hm : m < 2 ^ 64 := by omega
  have hp := pc_le m
  unfold gamehallkeep1_BitsSubsets gamehallkeep1_BitsSubsets.e
  rw [count513, Option.bind_some, bif_f (by rw [eqI_t rfl]; rfl)]
  exact sub_l0 (by omega) (pc m) m 300000000 rfl hm (by omega)
end Go.Proofs.YtbnpbnghpbgjiaaDoor.Am
