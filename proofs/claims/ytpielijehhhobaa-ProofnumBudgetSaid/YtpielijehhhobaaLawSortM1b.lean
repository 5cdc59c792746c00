/- Plain: the sort of moves: it ends, and what it leaves is a permutation (first part: the small functions). -/
import Derived.Test.YtpielijehhhobaaFnb1
import Derived.Test.YtpielijehhhobaaLawRetb
set_option linter.unusedVariables false
set_option linter.unusedSimpArgs false
namespace Go.Proofs.Ytpielijehhhobaa.Am
open Go
def cmpI (x y : Int) : Int := bif ltI x y then -1 else bif ltI y x then 1 else 0
def cmpM (a b : MvT) : Int := bif !(eqI (cmpI a.1 b.1) 0) then cmpI a.1 b.1 else bif !(eqI (cmpI a.2.1 b.2.1) 0) then cmpI a.2.1 b.2.1 else cmpI a.2.2 b.2.2
theorem cmpI_eq (N : Nat) (x y : Int) : Q91 N x y = some (cmpI x y) := by
 unfold Q91 Q91.e Q105 Q105.e cmpI
 rw [eqI_self, eqI_self, Option.bind_some, Option.bind_some]
 cases ltI x y <;> cases ltI y x <;> rfl
theorem cmpOr_eq {N : Nat} (hN : 4 ≤ N) (x y z : Int) : Q90 N [x, y, z] = some (bif !(eqI x 0) then x else bif !(eqI y 0) then y else z) := by
 obtain ⟨N, rfl⟩ : ∃ m, N = m + 4 := ⟨N - 4, by omega⟩
 unfold Q90 Q90.e
 have e0 : w64 ((0 : Int) + 1) = 1 := by decide
 have e1 : w64 ((1 : Int) + 1) = 2 := by decide
 have e2 : w64 ((2 : Int) + 1) = 3 := by decide
 simp only [Q90.l0_s, Q90.s0, e0, e1, e2]
 show (bif !eqI x 0 then some x else bif !eqI y 0 then some y else bif !eqI z 0 then some z else some 0) = _
 cases hx : eqI x 0 <;> cases hy : eqI y 0 <;> cases hz : eqI z 0 <;> simp
 all_goals (rw [eqI_iff] at hz; rw [hz])
theorem cmpM_eq {N : Nat} (hN : 4 ≤ N) (a b : MvT) : Q66 N a b = some (cmpM a b) := by
 unfold Q66 Q66.e cmpM
 rw [cmpI_eq, Option.bind_some, cmpI_eq, Option.bind_some, cmpI_eq, Option.bind_some, cmpOr_eq hN, Option.bind_some]
theorem swp_perm {d : List MvT} {i j : Int} (hi : 0 ≤ i) (hi' : i < d.length) (hj : 0 ≤ j) (hj' : j < d.length) : ((d.set i.toNat (gD z0 d j)).set j.toNat (gD z0 d i)).Perm d := by
 obtain ⟨i, rfl⟩ : ∃ k : Nat, i = k := ⟨i.toNat, by omega⟩
 obtain ⟨j, rfl⟩ : ∃ k : Nat, j = k := ⟨j.toNat, by omega⟩
 rw [Int.toNat_natCast, Int.toNat_natCast, gD_nat (by omega), gD_nat (by omega)]
 exact List.set_set_perm (by omega) (by omega)
abbrev Pm (d : List MvT) (d' : List MvT) : Prop := d'.Perm d
theorem Pm.swp {d d' : List MvT} (h : Pm d d') {i j : Int} (hi : 0 ≤ i) (hi' : i < d.length) (hj : 0 ≤ j) (hj' : j < d.length) : Pm d ((d'.set i.toNat (gD z0 d' j)).set j.toNat (gD z0 d' i)) := by
 have := h.length_eq
 exact (swp_perm hi (by omega) hj (by omega)).trans h
section
variable {N : Nat} (hN : 4 ≤ N) (d : List MvT) (hd : d.length ≤ 1000000)
include hN hd
theorem insM_l1 {d0 : List MvT} {a b : Int} (ha : 0 ≤ a) (hb : b ≤ d.length) {i : Int} {B : Nat} (hB : ∀ n d', B ≤ n → Pm d d' → Ret (Q95.l0 N d0 a b n (w64 (i + 1)) d') (Pm d)) :
  ∀ (k n : Nat) (j : Int) (d' : List MvT), j - a ≤ k → a ≤ j → j < b → B + k + 1 ≤ n → Pm d d' → Ret (Q95.l1 N d0 a b n i j d') (Pm d) := by
 intro k
 induction k with
 | zero =>
  intro n j d' hk h1 h2 hn hp
  obtain ⟨n, rfl⟩ : ∃ m, n = m + 1 := ⟨n - 1, by omega⟩
  rw [Q95.l1_s, Q95.s1, bif_f (ltI_f (by omega))]
  exact hB n d' (by omega) hp
 | succ k ih =>
  intro n j d' hk h1 h2 hn hp
  have hl := hp.length_eq
  obtain ⟨n, rfl⟩ : ∃ m, n = m + 1 := ⟨n - 1, by omega⟩
  rw [Q95.l1_s, Q95.s1]
  refine Ret.bif (fun c => ?_) (fun _ => hB n d' (by omega) hp)
  rw [ltI_iff] at c
  simp (disch := omega) only [w64_id, chk_idx, List.length_set, cmpM_eq hN, Option.bind_some]
  refine Ret.bif (fun _ => ?_) (fun _ => by simpa (disch := omega) only [w64_id] using hB n d' (by omega) hp)
  exact ih n (j - 1) _ (by omega) (by omega) (by omega) (by omega) (hp.swp (by omega) (by omega) (by omega) (by omega))
theorem insM_l0 {d0 : List MvT} {a b : Int} (ha : 0 ≤ a) (hb : b ≤ d.length) (hab : b - a ≤ 12) : ∀ (k n : Nat) (i : Int) (d' : List MvT), b - i ≤ k → a ≤ i → 20 * k + 1 ≤ n → Pm d d' → Ret (Q95.l0 N d0 a b n i d') (Pm d) := by
 intro k
 induction k with
 | zero =>
  intro n i d' hk h1 hn hp
  obtain ⟨n, rfl⟩ : ∃ m, n = m + 1 := ⟨n - 1, by omega⟩
  rw [Q95.l0_s, Q95.s0, bif_f (ltI_f (by omega))]
  exact Ret.ret hp
 | succ k ih =>
  intro n i d' hk h1 hn hp
  obtain ⟨n, rfl⟩ : ∃ m, n = m + 1 := ⟨n - 1, by omega⟩
  rw [Q95.l0_s, Q95.s0]
  refine Ret.bif (fun c => ?_) (fun _ => Ret.ret hp)
  rw [ltI_iff] at c
  refine insM_l1 hN d hd ha hb (B := 20 * k + 1) (fun n' d'' hn' hp' => ?_) 12 n i d' (by omega) h1 c (by omega) hp
  simpa (disch := omega) only [w64_id] using ih n' (i + 1) d'' (by omega) (by omega) hn' hp'
theorem insM {a b : Int} (ha : 0 ≤ a) (hab0 : a ≤ b) (hb : b ≤ d.length) (hab : b - a ≤ 12) (hN' : 300 ≤ N) {d0 : List MvT} (hp : Pm d d0) : Ret (Q95 N d0 a b) (Pm d) := by
 unfold Q95 Q95.e
 simpa (disch := omega) only [w64_id] using insM_l0 hN d hd ha hb hab 12 N (a + 1) d0 (by omega) (by omega) (by omega) hp
end
end Go.Proofs.Ytpielijehhhobaa.Am
