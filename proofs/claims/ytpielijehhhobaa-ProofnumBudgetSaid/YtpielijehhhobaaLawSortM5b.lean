/- Plain: the sort of moves, fifth part: the whole ends, and what it leaves is a permutation. -/
import Derived.Test.YtpielijehhhobaaLawSortM4b
set_option linter.unusedVariables false
set_option linter.unusedSimpArgs false
set_option linter.unusedSectionVars false
namespace Go.Proofs.Ytpielijehhhobaa.Am
open Go
section
variable {N : Nat} (hN : 100000000 ≤ N) (d : List MvT) (hd : d.length ≤ 8192)
include hN hd
theorem pdqM_l0 {d0 : List MvT} {a0 b0 l0 : Int} {self : List MvT → Int → Int → Int → Option (List MvT)} {K : Int}
  (hs : ∀ (a' b' l : Int) (d' : List MvT), 0 ≤ a' → a' ≤ b' → b' ≤ d.length → b' - a' < K → Pm d d' → Ret (self d' a' b' l) (Pm d)) :
  ∀ (m n : Nat) (a b lim : Int) (wB wP : Bool) (d' : List MvT), b - a ≤ m → b - a ≤ K → 0 ≤ a → a ≤ b → b ≤ d.length → m + 1 ≤ n → Pm d d' → Ret (Q88.l0 N self d0 a0 b0 l0 n a b lim wB wP d') (Pm d) := by
 intro m
 induction m using Nat.strongRecOn with
 | _ m ih =>
 intro n a b lim wB wP d' hm hK ha hab hb hn hp
 obtain ⟨n, rfl⟩ : ∃ q, n = q + 1 := ⟨n - 1, by omega⟩
 have hl := hp.length_eq
 rw [Q88.l0_s, Q88.s0]
 refine Ret.bif (fun c => Ret.bnd (insM (by omega) d (by omega) ha hab hb (by rw [leI_iff, w64_id (by omega) (by omega)] at c; exact c) (by omega) hp) fun y hy => Ret.ret hy) (fun c => ?_)
 rw [leI_iff', w64_id (by omega) (by omega)] at c
 have hab' : a < b := by omega
 refine Ret.bif (fun _ => Ret.bnd (heapM (by omega) d (by omega) ha hab' hb hp) fun y hy => Ret.ret hy) (fun _ => ?_)
 have hs' : ∀ a' b' l d', a ≤ a' → a' ≤ b' → b' ≤ b → b' - a' < b - a → Pm d d' → Ret (self d' a' b' l) (Pm d) := fun a' b' l d' h1 h2 h3 h4 h5 => hs a' b' l d' (by omega) h2 (by omega) (by omega) h5
 have hr' : ∀ a' b' l wB wP d', a ≤ a' → a' ≤ b' → b' ≤ b → b' - a' < b - a → Pm d d' → Ret (Q88.l0 N self d0 a0 b0 l0 n a' b' l wB wP d') (Pm d) := fun a' b' l wB wP d' h1 h2 h3 h4 h5 =>
  ih (b' - a').toNat (by omega) n a' b' l wB wP d' (by omega) (by omega) (by omega) h2 (by omega) (by omega) h5
 have tail : ∀ (lim : Int) (wB wP : Bool) {y : List MvT}, Pm d y → ∀ {p : Int}, (a ≤ p ∧ p < b) → Ret (pdTail N self (Q88.l0 N self d0 a0 b0 l0 n) a b lim wB wP y p) (Pm d) := fun lim wB wP y hy p hpv => pdTail_ok hN d hd ha hab' hb hs' hr' lim wB wP hy hpv
 have piv : ∀ {y : List MvT}, Pm d y → Ret (Q98 N y a b) fun z => a ≤ z.1 ∧ z.1 < b := fun hy => pivotM (by omega) d (by omega) hy.length_eq ha (by omega) hb
 have rev : ∀ {y : List MvT}, Pm d y → Ret (Q99 N y a b) (Pm d) := fun hy => reverseM (by omega) d (by omega) ha hab' hb hy
 have prt : ∀ {y : List MvT}, Pm d y → Ret (Q100 N y a b) (PmB d) := fun hy => partM hN d (by omega) ha hab' hb hy
 have v7 : ∀ z : Int, a ≤ z ∧ z < b → w64 (w64 (b - 1) - w64 (z - a)) = b - 1 - (z - a) := fun z hz => by
  rw [w64_id (x := b - 1) (by omega) (by omega), w64_id (x := z - a) (by omega) (by omega), w64_id (by omega) (by omega)]
 refine Ret.bif (fun _ => ?_) (fun _ => ?_)
 ·refine Ret.bnd (breakM hN d hd ha hab hb hp) fun y4 h4 => ?_
  refine Ret.bnd (piv h4) fun y5 h5 => ?_
  refine Ret.bif (fun _ => ?_) (fun _ => ?_)
  ·refine Ret.bnd (rev h4) fun y6 h6 => ?_
   simp only [v7 y5.1 h5]
   refine Ret.bif (fun _ => Ret.bif (fun _ => Ret.bnd (prt h6) fun y8 h8 => Ret.bif (fun _ => Ret.ret h8) (fun _ => ?_)) (fun _ => ?_)) (fun _ => ?_)
   ·exact tail _ _ _ h8 (by omega)
   ·exact tail _ _ _ h6 (by omega)
   ·exact tail _ _ _ h6 (by omega)
  ·refine Ret.bif (fun _ => Ret.bif (fun _ => Ret.bif (fun _ => Ret.bnd (prt h4) fun y8 h8 => Ret.bif (fun _ => Ret.ret h8) (fun _ => ?_)) (fun _ => ?_)) (fun _ => ?_)) (fun _ => ?_)
   ·exact tail _ _ _ h8 h5
   ·exact tail _ _ _ h4 h5
   ·exact tail _ _ _ h4 h5
   ·exact tail _ _ _ h4 h5
 ·refine Ret.bnd (piv hp) fun y5 h5 => ?_
  refine Ret.bif (fun _ => ?_) (fun _ => ?_)
  ·refine Ret.bnd (rev hp) fun y6 h6 => ?_
   simp only [v7 y5.1 h5]
   refine Ret.bif (fun _ => Ret.bif (fun _ => Ret.bnd (prt h6) fun y8 h8 => Ret.bif (fun _ => Ret.ret h8) (fun _ => ?_)) (fun _ => ?_)) (fun _ => ?_)
   ·exact tail _ _ _ h8 (by omega)
   ·exact tail _ _ _ h6 (by omega)
   ·exact tail _ _ _ h6 (by omega)
  ·refine Ret.bif (fun _ => Ret.bif (fun _ => Ret.bif (fun _ => Ret.bnd (prt hp) fun y8 h8 => Ret.bif (fun _ => Ret.ret h8) (fun _ => ?_)) (fun _ => ?_)) (fun _ => ?_)) (fun _ => ?_)
   ·exact tail _ _ _ h8 h5
   ·exact tail _ _ _ hp h5
   ·exact tail _ _ _ hp h5
   ·exact tail _ _ _ hp h5
end
theorem pdqM (d : List MvT) (hd : d.length ≤ 8192) : ∀ (k N : Nat) (d0 : List MvT) (a b lim : Int), b - a ≤ k → 100000000 + k < N → 0 ≤ a → a ≤ b → b ≤ d.length → Pm d d0 → Ret (Q88 N d0 a b lim) (Pm d) := by
 intro k
 induction k using Nat.strongRecOn with
 | _ k ih =>
 intro N d0 a b lim hk hN ha hab hb hp
 obtain ⟨N, rfl⟩ : ∃ q, N = q + 1 := ⟨N - 1, by omega⟩
 rw [Q88_s, Q88.e]
 refine pdqM_l0 (by omega) d hd (K := b - a) (fun a' b' l d' h1 h2 h3 h4 h5 => ?_) (b - a).toNat N a b lim true true d0 (by omega) (Int.le_refl _) ha hab hb (by omega) hp
 exact ih (b' - a').toNat (by omega) N d' a' b' l (by omega) (by omega) h1 h2 h3 h5
theorem sortM {N : Nat} (hN : 200000000 ≤ N) (d : List MvT) (hd : d.length ≤ 8192) : Ret (Q65 N d) (Pm d) := by
 unfold Q65 Q65.e
 by_cases h0 : d.length = 0
 ·obtain rfl := List.length_eq_zero_iff.1 h0
  obtain ⟨v, hv⟩ : ∃ v, Q89 N (IntKind.wrap .u64 (([] : List MvT).length : Int)) = some v := ⟨0, by kernel_rfl⟩
  rw [hv, Option.bind_some]
  exact Ret.bnd (pdqM [] (by simp) 0 N [] 0 _ v (by simp) (by omega) (by omega) (by simp) (by simp) (List.Perm.refl _)) fun y hy => Ret.ret hy
 ·obtain ⟨v, hv, _⟩ := bitsLen_le N (k := d.length) (by omega) hd
  rw [hv, Option.bind_some]
  exact Ret.bnd (pdqM d hd d.length N d 0 _ v (by omega) (by omega) (by omega) (by omega) (Int.le_refl _) (List.Perm.refl _)) fun y hy => Ret.ret hy
end Go.Proofs.Ytpielijehhhobaa.Am
