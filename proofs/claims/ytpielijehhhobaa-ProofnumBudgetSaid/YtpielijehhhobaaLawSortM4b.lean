/- Plain: the sort of moves, fourth part: patterns broken, and the whole. -/
import Derived.Test.YtpielijehhhobaaLawSortM3b
import Derived.Test.YtpielijehhhobaaLawBoardsb
set_option linter.unusedVariables false
set_option linter.unusedSimpArgs false
set_option linter.unusedSectionVars false
namespace Go.Proofs.Ytpielijehhhobaa.Am
open Go
theorem wrapU (y : Int) : IntKind.wrap .u64 y = y % 18446744073709551616 := by
 unfold IntKind.wrap
 have e : (2 : Int) ^ IntKind.bits .u64 = 18446744073709551616 := by decide
 simp only [e]
 simp [IntKind.signed]
theorem and_le (x : Int) (m : Nat) (hm : m < 18446744073709551616) : 0 ≤ Go.bits .and .u64 x (m : Int) ∧ Go.bits .and .u64 x (m : Int) ≤ m := by
 have h1 : ((BitVec.ofInt 64 x &&& BitVec.ofInt 64 (m : Int)).toNat) ≤ m := by
  rw [BitVec.toNat_and]
  refine Nat.le_trans Nat.and_le_right ?_
  rw [BitVec.ofInt_natCast, BitVec.toNat_ofNat]
  exact Nat.mod_le _ _
 have h2 : Go.bits .and .u64 x (m : Int) = (((BitVec.ofInt 64 x &&& BitVec.ofInt 64 (m : Int)).toNat : Nat) : Int) := by
  have hw : ∀ y : Int, IntKind.u64.wrap y = y % 18446744073709551616 := fun y => by
   unfold IntKind.wrap
   have e : (2 : Int) ^ IntKind.bits .u64 = 18446744073709551616 := by decide
   simp only [e]
   simp [IntKind.signed]
  show IntKind.u64.wrap (((BitVec.ofInt 64 x &&& BitVec.ofInt 64 (m : Int)).toNat : Nat) : Int) = _
  rw [hw]
  exact Int.emod_eq_of_lt (by omega) (by omega)
 rw [h2]
 omega
def lenOk (k : Nat) : Bool := match Q89 0 (IntKind.wrap .u64 (k : Int)) with
 | some v => leI 0 v && (ltI v 20 && Nat.ble (2 ^ v.toNat) (2 * k))
 | none => false
theorem lenOk_all : (upto 8192 fun k => lenOk (k + 1)) = true := by decide +kernel
theorem bitsLen_le (N : Nat) {k : Nat} (h1 : 1 ≤ k) (h2 : k ≤ 8192) : ∃ v : Int, Q89 N (IntKind.wrap .u64 (k : Int)) = some v ∧ 0 ≤ v ∧ v < 20 ∧ 2 ^ v.toNat ≤ 2 * k := by
 have := upto_at lenOk_all (i := k - 1) (by omega)
 rw [show k - 1 + 1 = k by omega] at this
 unfold lenOk at this
 split at this
 ·rename_i v hv
  simp only [Bool.and_eq_true, leI_iff, ltI_iff] at this
  exact ⟨v, hv, this.1, this.2.1, Nat.le_of_ble_eq_true this.2.2⟩
 ·cases this
section
variable {N : Nat} (hN : 100000000 ≤ N) (d : List MvT) (hd : d.length ≤ 8192)
include hN hd
theorem breakM_l0 {d0 : List MvT} {a b : Int} (ha : 0 ≤ a) (hab : 8 ≤ b - a) (hb : b ≤ d.length) {m : Nat} (hm1 : 1 ≤ m) (hm : m ≤ 2 * (b - a)) : ∀ (k n : Nat) (idx : Int) (d' : List MvT) (rnd : Int), a + (b - a) / 4 * 2 + 2 - idx ≤ k → a ≤ idx → k + 1 ≤ n → Pm d d' → Ret (Q97.l0 N d0 a b n (m : Int) idx d' rnd) (Pm d) := by
 have ht : Int.tdiv (b - a) 4 = (b - a) / 4 := Int.tdiv_eq_ediv_of_nonneg (by omega)
 intro k
 induction k with
 | zero =>
  intro n idx d' rnd hk h1 hn hp
  obtain ⟨n, rfl⟩ : ∃ m, n = m + 1 := ⟨n - 1, by omega⟩
  rw [Q97.l0_s, Q97.s0]
  rw [w64_id (x := b - a) (by omega) (by omega), ht]
  simp (disch := omega) only [w64_id]
  rw [bif_f (leI_f (by omega))]
  exact Ret.ret hp
 | succ k ih =>
  intro n idx d' rnd hk h1 hn hp
  have hl := hp.length_eq
  obtain ⟨n, rfl⟩ : ∃ m, n = m + 1 := ⟨n - 1, by omega⟩
  rw [Q97.l0_s, Q97.s0]
  rw [w64_id (x := b - a) (by omega) (by omega), ht]
  simp (disch := omega) only [w64_id]
  refine Ret.bif (fun c => ?_) (fun _ => Ret.ret hp)
  rw [leI_iff] at c
  obtain ⟨y, hy⟩ : ∃ y, Q108 N rnd = some y := ⟨_, rfl⟩
  rw [hy, Option.bind_some]
  have hmm : IntKind.wrap .u64 ((m : Int) - 1) = ((m - 1 : Nat) : Int) := by
   unfold IntKind.wrap
   have e : (2 : Int) ^ IntKind.bits .u64 = 18446744073709551616 := by decide
   simp only [e]
   have : ((m : Int) - 1) % 18446744073709551616 = ((m - 1 : Nat) : Int) := by omega
   simp [IntKind.signed, this]
  rw [hmm]
  obtain ⟨q1, q2⟩ := and_le y.1 (m - 1) (by omega)
  generalize Go.bits .and .u64 y.1 ((m - 1 : Nat) : Int) = v at q1 q2
  simp (disch := omega) only [w64_id]
  refine Ret.bif (fun c2 => ?_) (fun c2 => ?_)
  ·rw [leI_iff] at c2
   simp (disch := omega) only [w64_id, chk_idx, List.length_set]
   exact ih n (idx + 1) _ _ (by omega) (by omega) (by omega) (hp.swp (by omega) (by omega) (by omega) (by omega))
  ·rw [leI_iff'] at c2
   simp (disch := omega) only [w64_id, chk_idx, List.length_set]
   exact ih n (idx + 1) _ _ (by omega) (by omega) (by omega) (hp.swp (by omega) (by omega) (by omega) (by omega))
theorem breakM {d0 : List MvT} {a b : Int} (ha : 0 ≤ a) (hab : a ≤ b) (hb : b ≤ d.length) (hp : Pm d d0) : Ret (Q97 N d0 a b) (Pm d) := by
 unfold Q97 Q97.e
 have ht : Int.tdiv (b - a) 4 = (b - a) / 4 := Int.tdiv_eq_ediv_of_nonneg (by omega)
 rw [w64_id (x := b - a) (by omega) (by omega), ht]
 simp (disch := omega) only [w64_id]
 refine Ret.bif (fun c => ?_) (fun _ => Ret.ret hp)
 rw [leI_iff] at c
 obtain ⟨l, hl⟩ : ∃ l : Nat, b - a = l := ⟨(b - a).toNat, by omega⟩
 obtain ⟨v, v1, v2, v3, v4⟩ := bitsLen_le N (k := l) (by omega) (by omega)
 unfold Q107 Q107.e
 rw [hl, v1, Option.bind_some, bif_f (ltI_f v2), Option.bind_some]
 have hpw : (1 : Nat) ≤ 2 ^ v.toNat := Nat.one_le_two_pow
 have hw : IntKind.wrap .u64 (1 * 2 ^ (min v.toNat 64)) = ((2 ^ v.toNat : Nat) : Int) := by
  rw [Nat.min_eq_left (by omega), wrapU]
  have e2 : (1 : Int) * 2 ^ v.toNat = ((2 ^ v.toNat : Nat) : Int) := by simp
  rw [e2]
  exact Int.emod_eq_of_lt (by omega) (by omega)
 rw [hw, ← hl]
 exact breakM_l0 hN d hd ha c hb hpw (by omega) 10000 N _ d0 _ (by omega) (by omega) (by omega) hp
end
def pdTail (N : Nat) (self : List MvT → Int → Int → Int → Option (List MvT)) (r0 : Int → Int → Int → Bool → Bool → List MvT → Option (List MvT)) (a b lim : Int) (wB wP : Bool) (y : List MvT) (p : Int) : Option (List MvT) :=
 let part := (Q102 N y a b p).bind fun y11 =>
  let v12 : Int := (w64 (Int.tdiv (w64 (b - a)) 8))
  bif (ltI (w64 (y11.1 - a)) (w64 (b - y11.1))) then ((self y11.2.2 a y11.1 lim).bind fun y15 =>
   r0 (w64 (y11.1 + 1)) b lim (leI v12 (w64 (y11.1 - a))) y11.2.1 y15)
  else (self y11.2.2 (w64 (y11.1 + 1)) b lim).bind fun y17 =>
  r0 a y11.1 lim (leI v12 (w64 (b - y11.1))) y11.2.1 y17
 bif (ltI 0 a) then (chk ((leI 0 (w64 (a - 1))) && (ltI (w64 (a - 1)) (y.length : Int))) <|
  chk ((leI 0 p) && (ltI p (y.length : Int))) <|
  (Q66 N (gD z0 y (w64 (a - 1))) (gD z0 y p)).bind fun y9 =>
  bif (!(ltI y9 0)) then ((Q101 N y a b p).bind fun y10 =>
   r0 y10.1 b lim wB wP y10.2)
  else part)
 else part
section
variable {N : Nat} (hN : 100000000 ≤ N) (d : List MvT) (hd : d.length ≤ 8192)
include hN hd
theorem pdTail_ok {self : List MvT → Int → Int → Int → Option (List MvT)} {r0 : Int → Int → Int → Bool → Bool → List MvT → Option (List MvT)} {a b : Int} (ha : 0 ≤ a) (hab : a < b) (hb : b ≤ d.length)
  (hs : ∀ a' b' l d', a ≤ a' → a' ≤ b' → b' ≤ b → b' - a' < b - a → Pm d d' → Ret (self d' a' b' l) (Pm d))
  (hr : ∀ a' b' l wB wP d', a ≤ a' → a' ≤ b' → b' ≤ b → b' - a' < b - a → Pm d d' → Ret (r0 a' b' l wB wP d') (Pm d))
  (lim : Int) (wB wP : Bool) {y : List MvT} (hp : Pm d y) {p : Int} (hpv : a ≤ p ∧ p < b) : Ret (pdTail N self r0 a b lim wB wP y p) (Pm d) := by
 have hl := hp.length_eq
 have hpart : Ret ((Q102 N y a b p).bind fun y11 =>
  let v12 : Int := (w64 (Int.tdiv (w64 (b - a)) 8))
  bif (ltI (w64 (y11.1 - a)) (w64 (b - y11.1))) then ((self y11.2.2 a y11.1 lim).bind fun y15 =>
   r0 (w64 (y11.1 + 1)) b lim (leI v12 (w64 (y11.1 - a))) y11.2.1 y15)
  else (self y11.2.2 (w64 (y11.1 + 1)) b lim).bind fun y17 =>
  r0 a y11.1 lim (leI v12 (w64 (b - y11.1))) y11.2.1 y17) (Pm d) := by
  refine Ret.bnd (parM hN d (by omega) ha hab hb hpv hp) fun y11 h11 => ?_
  obtain ⟨⟨g1, g2⟩, g3⟩ := h11
  have e : w64 (y11.1 + 1) = y11.1 + 1 := w64_id (by omega) (by omega)
  simp only [e]
  refine Ret.bif (fun _ => ?_) (fun _ => ?_)
  ·exact Ret.bnd (hs _ _ _ _ (by omega) g1 (by omega) (by omega) g3) fun y15 h15 => hr _ _ _ _ _ _ (by omega) (by omega) (by omega) (by omega) h15
  ·exact Ret.bnd (hs _ _ _ _ (by omega) (by omega) (by omega) (by omega) g3) fun y15 h15 => hr _ _ _ _ _ _ (by omega) g1 (by omega) (by omega) h15
 unfold pdTail
 refine Ret.bif (fun c => ?_) (fun _ => hpart)
 rw [ltI_iff] at c
 simp (disch := omega) only [w64_id, chk_idx, cmpM_eq (show 4 ≤ N by omega), Option.bind_some]
 refine Ret.bif (fun _ => ?_) (fun _ => ?_)
 ·refine Ret.bnd (equM hN d (by omega) ha hab hb hpv hp) fun y10 h10 => ?_
  exact hr _ _ _ _ _ _ (by omega) (by omega) (by omega) (by omega) h10.2
 ·have := hpart
  simpa (disch := omega) only [w64_id] using this
end
end Go.Proofs.Ytpielijehhhobaa.Am
