/- Plain: a random play gives the board back, a node's best kid, the root of a number. -/
import Derived.Test.YtpielijehhhobaaLawMvPe
import Derived.Test.YtpielijehhhobaaLawWalkAe
set_option linter.unusedVariables false
set_option linter.unusedSimpArgs false
set_option linter.unusedSectionVars false
namespace Go.Proofs.Ytpielijehhhobaa.Am
open Go
noncomputable section
theorem bmix_ok (N : Nat) (x : Int) : ∃ y, Q15 N x = some y ∧ 0 ≤ y ∧ y < 18446744073709551616 := by
 unfold Q15 Q15.e
 refine ⟨_, rfl, ?_⟩
 exact ⟨Int.emod_nonneg _ (by decide), Int.emod_lt_of_pos _ (by decide)⟩
theorem below_ret (N : Nat) {s : Int} {n : Int} (h0 : 0 ≤ s) (h1 : s ≤ 1000000000000) (hn : 1 ≤ n) (hn2 : n ≤ 8192) : ∃ k : Int, 0 ≤ k ∧ k < n ∧ Q14 N s n = some (k, (0, s + 1)) := by
 unfold Q14 Q14.e
 rw [bif_f (ltI_f (by omega)), bif_f (ltI_f (by omega)), w64_id (x := s + 1) (by omega) (by omega)]
 obtain ⟨y, e, y0, y1⟩ := bmix_ok N (s + 1)
 rw [e]
 simp only [Option.bind_some]
 have hw : IntKind.wrap .u64 n = n := Int.emod_eq_of_lt (by omega) (by show n < 18446744073709551616; omega)
 rw [hw, bif_f (eqI_f (by omega))]
 have hz : 0 ≤ Int.fdiv y (2 ^ (min (1 : Int).toNat 64)) := by
  have e2 : (2 : Int) ^ (min (1 : Int).toNat 64) = 2 := by decide
  rw [e2, Int.fdiv_eq_ediv_of_nonneg _ (by decide)]
  omega
 generalize Int.fdiv y (2 ^ (min (1 : Int).toNat 64)) = z at hz
 rw [Int.tmod_eq_emod_of_nonneg hz]
 have h2 := Int.emod_nonneg z (show n ≠ 0 by omega)
 have h3 := Int.emod_lt_of_pos z (show 0 < n by omega)
 exact ⟨z % n, h2, h3, by rw [w64_id (by omega) (by omega)]⟩
def playA (N : Nat) (x : TBoard × Int) (n : Nat) (k : Int) (b : TBoard) (s : Int) : Option (Int × (TBoard × Int)) :=
 Q55.l0 N x n k b.1.1 b.1.2.1 b.1.2.2.1 b.1.2.2.2.2.2.1 b.1.2.2.2.2.2.2.1 b.1.2.2.2.2.2.2.2.2.1 b.1.2.2.2.2.2.2.2.2.2.1 b.1.2.2.2.2.2.2.2.2.2.2 b.2.1.2.2.1 b.2.1.2.2.2 b.2.2.1 s b.1.2.2.2.1 b.1.2.2.2.2.1 b.1.2.2.2.2.2.2.2.1 b.2.1.1 b.2.1.2.1.1 b.2.1.2.1.2 b.2.2.2
def playB (N : Nat) (x : TBoard × Int) (n : Nat) (k out : Int) (b : TBoard) (s : Int) : Option (Int × (TBoard × Int)) :=
 Q55.l1 N x n k out b.1.1 b.1.2.1 b.1.2.2.1 b.1.2.2.2.2.2.1 b.1.2.2.2.2.2.2.1 b.1.2.2.2.2.2.2.2.2.1 b.1.2.2.2.2.2.2.2.2.2.1 b.1.2.2.2.2.2.2.2.2.2.2 b.2.1.2.2.1 b.2.1.2.2.2 b.2.2.1 s b.1.2.2.2.1 b.1.2.2.2.2.1 b.1.2.2.2.2.2.2.2.1 b.2.1.1 b.2.1.2.1.1 b.2.1.2.1.2 b.2.2.2
theorem play_e (N : Nat) (x : TBoard × Int) : Q55 N x = playA N x N 0 x.1 x.2 := rfl
theorem playA_s (N : Nat) (x : TBoard × Int) (n : Nat) (k : Int) (b : TBoard) (s : Int) : playA N x (n + 1) k b s =
  bif (ltI k 200) then ((Q34 N b).bind fun y1 =>
   bif (eqI (y1.length : Int) 0) then ((Q32 N b).bind fun y3 => playB N x n k y3 b s)
   else (Q14 N s (y1.length : Int)).bind fun y4 =>
   chk ((leI 0 y4.1) && (ltI y4.1 (y1.length : Int))) <|
   (Q50 N b (gD z0 y1 y4.1)).bind fun y5 => playA N x n (w64 (k + 1)) y5 y4.2.2)
  else (Q32 N b).bind fun y6 => playB N x n k y6 b s := rfl
theorem playB_s (N : Nat) (x : TBoard × Int) (n : Nat) (k out : Int) (b : TBoard) (s : Int) : playB N x (n + 1) k out b s =
  bif (ltI 0 k) then ((Q51 N b).bind fun y7 => playB N x n (w64 (k - 1)) out y7.2 s) else some (out, (b, s)) := rfl
inductive Ch (b0 : BoardT) : Nat → BoardT → Prop
 | z : Ch b0 0 b0
 | s {k : Nat} {b : BoardT} {m : MvT} : Ch b0 k b → BOk b → b.2.2.2.length ≤ 100000 → MoveOk b.1 b.2.1 m → Ch b0 (k + 1) (makeB b m)
theorem playB_ok (N : Nat) (x : TBoard × Int) {b0 : BoardT} (out s : Int) : ∀ (n k : Nat) (b : BoardT), k < n → k ≤ 1000 → Ch b0 k b → playB N x n k out b s = some (out, (b0, s))
 | 0, _, _, h, _, _ => by omega
 | n + 1, 0, b, h, h2, hc => by
  cases hc
  rw [playB_s, bif_f (ltI_f (by omega))]
 | n + 1, k + 1, b, h, h2, hc => by
  cases hc with
  | s hc hb hl hm =>
   rw [playB_s, bif_t (ltI_t (by omega)), undo_make hb hl hm, Option.bind_some, w64_id (by omega) (by omega), show (((k + 1 : Nat) : Int) - 1) = (k : Int) by omega]
   exact playB_ok N x out s n k _ (by omega) (by omega) hc
theorem makeB_len (b : BoardT) (m : MvT) : (makeB b m).2.2.2.length = b.2.2.2.length + 1 := by
 unfold makeB
 simp
theorem playA_ok {N : Nat} (hN : 200000000 ≤ N) (x : TBoard × Int) {b0 : BoardT} : ∀ (j n k : Nat) (b : BoardT) (s : Int), j + k = 200 → 1000 ≤ n + k → Ch b0 k b → BOk b → b.2.2.2.length + j ≤ 99000 → 0 ≤ s → s + j ≤ 1000000000000 →
  ∃ out s', playA N x n k b s = some (out, (b0, s')) ∧ s ≤ s' ∧ s' ≤ s + j
 | 0, n, k, b, s, hj, hn, hc, hb, hl, h0, h1 => by
  obtain ⟨n, rfl⟩ := nxt (n := n) (by omega)
  rw [playA_s, bif_f (ltI_f (by omega)), bresult_eq hN hb, Option.bind_some, playB_ok N x _ s n k b (by omega) (by omega) hc]
  exact ⟨_, s, rfl, by omega, by omega⟩
 | j + 1, n, k, b, s, hj, hn, hc, hb, hl, h0, h1 => by
  obtain ⟨n, rfl⟩ := nxt (n := n) (by omega)
  rw [playA_s, bif_t (ltI_t (by omega)), bmoves_mvP hN hb, Option.bind_some]
  obtain ⟨hm1, hm2⟩ := mvP_spec hb.r hb.p
  generalize mvP b.1 b.2.1 = l at hm1 hm2
  by_cases hz : l.length = 0
  ·rw [bif_t (eqI_t (by omega)), bresult_eq hN hb, Option.bind_some, playB_ok N x _ s n k b (by omega) (by omega) hc]
   exact ⟨_, s, rfl, by omega, by omega⟩
  ·obtain ⟨i, i0, i1, e⟩ := below_ret N (s := s) (n := (l.length : Int)) h0 (by omega) (by omega) (by omega)
   rw [bif_f (eqI_f (by omega)), e, Option.bind_some, chk_idx i0 i1]
   obtain ⟨i, rfl⟩ : ∃ a : Nat, i = a := ⟨i.toNat, by omega⟩
   have hm : MoveOk b.1 b.2.1 (gD z0 l (i : Int)) := by
    rw [gD_nat (by omega)]
    exact (hm2 _ (List.getElem_mem _)).1
   have hbl : b.2.2.2.length ≤ 100000 := by omega
   rw [make_eq hb hbl hm, Option.bind_some, w64_id (by omega) (by omega), show ((k : Int) + 1) = ((k + 1 : Nat) : Int) by omega]
   obtain ⟨out, s', e, h3, h4⟩ := playA_ok hN x j n (k + 1) (makeB b (gD z0 l (i : Int))) (s + 1) (by omega) (by omega) (.s hc hb hbl hm) (make_ok hb hbl hm) (by rw [makeB_len]; omega) (by omega) (by omega)
   exact ⟨out, s', e, by omega, by omega⟩
theorem play_ok {N : Nat} (hN : 200000000 ≤ N) {b : BoardT} {s : Int} (hb : BOk b) (hl : b.2.2.2.length ≤ 98000) (h0 : 0 ≤ s) (h1 : s ≤ 900000000000) :
  ∃ out s', Q55 N (b, s) = some (out, (b, s')) ∧ s ≤ s' ∧ s' ≤ s + 200 := by
 rw [play_e]
 exact playA_ok hN _ 200 N 0 b s (by omega) (by omega) .z hb (by omega) h0 (by omega)
theorem gain_ok (N : Nat) (o t : Int) : ∃ g, Q57 N o t = some g ∧ 0 ≤ g ∧ g ≤ 2 := by
 unfold Q57 Q57.e
 cases eqI o (w64 (1 + t))
 ·cases eqI o (w64 (2 - t))
  ·exact ⟨1, rfl, by omega, by omega⟩
  ·exact ⟨0, rfl, by omega, by omega⟩
 ·exact ⟨2, rfl, by omega, by omega⟩
theorem rootL (N : Nat) (m : Int) : ∀ (n : Nat) (lo hi : Int), 0 ≤ lo → lo ≤ hi → hi ≤ 1048576 → hi - lo < n → ∃ y, Q82.l0 N m n lo hi = some y
 | 0, lo, hi, _, _, _, h => by omega
 | n + 1, lo, hi, h0, h1, h2, h => by
  rw [Q82.l0_s]
  unfold Q82.s0
  by_cases hlt : lo < hi
  ·rw [bif_t (ltI_t hlt)]
   rw [w64_id (x := lo + hi) (by omega) (by omega), w64_id (x := lo + hi + 1) (by omega) (by omega)]
   have ht : Int.tdiv (lo + hi + 1) 2 = (lo + hi + 1) / 2 := Int.tdiv_eq_ediv_of_nonneg (by omega)
   dsimp only
   rw [ht, w64_id (x := (lo + hi + 1) / 2) (by omega) (by omega)]
   cases leI (w64 ((lo + hi + 1) / 2 * ((lo + hi + 1) / 2))) m
   ·rw [cond_false, w64_id (by omega) (by omega)]
    exact rootL N m n lo _ (by omega) (by omega) (by omega) (by omega)
   ·rw [cond_true]
    exact rootL N m n _ hi (by omega) (by omega) (by omega) (by omega)
  ·rw [bif_f (ltI_f (by omega))]
   exact ⟨_, rfl⟩
theorem root_ok {N : Nat} (hN : 200000000 ≤ N) (m : Int) : ∃ y, Q82 N m = some y := by
 unfold Q82 Q82.e
 exact rootL N m N 0 1048576 (by omega) (by omega) (by omega) (by omega)
def nd (ns : LNode) (i : Int) : TNode := gD zN ns i
def wpickL (N : Nat) (n_ : LNode × Int) (n : Nat) (best bonus : Int) (i : Int) : Option (Int × (LNode × Int)) := Q56.l0 N n_ n best bonus ((nd n_.1 n_.2).2.1.length : Int) i
theorem pick_e (N : Nat) (n_ : LNode × Int) : Q56 N n_ = chk (leI 0 n_.2) ((Q82 N (w64 (100 * (nd n_.1 n_.2).2.2.1))).bind fun y2 => chk (leI 0 n_.2) (wpickL N n_ N (-1) y2 0)) := rfl
theorem wpickL_s (N : Nat) (n_ : LNode × Int) (n : Nat) (best bonus : Int) (i : Int) : wpickL N n_ (n + 1) best bonus i =
  bif (ltI i ((nd n_.1 n_.2).2.1.length : Int)) then (chk ((leI 0 i) && (ltI i ((nd n_.1 n_.2).2.1.length : Int))) <|
   chk (eqI ((nd n_.1 n_.2).2.1.length : Int) ((nd n_.1 n_.2).2.1.length : Int)) <|
   chk (leI 0 (gD (-1 : Int) (nd n_.1 n_.2).2.1 i)) <|
   bif (eqI (nd n_.1 (gD (-1 : Int) (nd n_.1 n_.2).2.1 i)).2.2.1 0) then (some (i, n_))
   else bif (ltI best 0) then (wpickL N n_ n i bonus (w64 (i + 1)))
   else chk (leI 0 (gD (-1 : Int) (nd n_.1 n_.2).2.1 i)) <|
   chk (leI 0 n_.2) <|
   chk ((leI 0 best) && (ltI best ((nd n_.1 n_.2).2.1.length : Int))) <|
   chk (eqI ((nd n_.1 n_.2).2.1.length : Int) ((nd n_.1 n_.2).2.1.length : Int)) <|
   chk (leI 0 (gD (-1 : Int) (nd n_.1 n_.2).2.1 best)) <|
   chk (leI 0 n_.2) <|
   chk ((leI 0 best) && (ltI best ((nd n_.1 n_.2).2.1.length : Int))) <|
   chk (eqI ((nd n_.1 n_.2).2.1.length : Int) ((nd n_.1 n_.2).2.1.length : Int)) <|
   chk (leI 0 (gD (-1 : Int) (nd n_.1 n_.2).2.1 best)) <|
   chk (leI 0 (gD (-1 : Int) (nd n_.1 n_.2).2.1 i)) <|
   bif (ltI (w64 ((w64 ((w64 (10 * (nd n_.1 (gD (-1 : Int) (nd n_.1 n_.2).2.1 best)).2.2.2)) + bonus)) * (nd n_.1 (gD (-1 : Int) (nd n_.1 n_.2).2.1 i)).2.2.1)) (w64 ((w64 ((w64 (10 * (nd n_.1 (gD (-1 : Int) (nd n_.1 n_.2).2.1 i)).2.2.2)) + bonus)) * (nd n_.1 (gD (-1 : Int) (nd n_.1 n_.2).2.1 best)).2.2.1))) then (wpickL N n_ n i bonus (w64 (i + 1)))
   else wpickL N n_ n best bonus (w64 (i + 1)))
  else some (best, n_) := rfl
def ks (ns : LNode) (n : Int) : List Int := (nd ns n).2.1
def kz (ns : LNode) (n i : Int) : Int := (nd ns (gD (-1 : Int) (ks ns n) i)).2.2.1
theorem wpickL_ok (N : Nat) (ns : LNode) (m : Int) (hm : 0 ≤ m) (hk : ∀ i : Int, 0 ≤ i → i < (ks ns m).length → 0 ≤ gD (-1 : Int) (ks ns m) i) (hlen : (ks ns m).length ≤ 8192) (bonus : Int) : ∀ (j n : Nat) (best i : Int), i + j = (ks ns m).length → 0 ≤ i → j < n → -1 ≤ best → best < (ks ns m).length →
  (0 < i → 0 ≤ best) → 0 < (ks ns m).length → (∀ a : Int, 0 ≤ a → a < i → kz ns m a ≠ 0) →
  ∃ k, wpickL N (ns, m) n best bonus i = some (k, (ns, m)) ∧ 0 ≤ k ∧ k < (ks ns m).length ∧ ((kz ns m k = 0 ∧ ∀ a : Int, 0 ≤ a → a < k → kz ns m a ≠ 0) ∨ (∀ a : Int, 0 ≤ a → a < (ks ns m).length → kz ns m a ≠ 0))
 | 0, n, best, i, hi, h0, hn, hb0, hb1, hb2, hl, ha => by
  obtain ⟨n, rfl⟩ := nxt (n := n) (by omega)
  rw [wpickL_s]
  dsimp only
  rw [bif_f (ltI_f (show ((nd ns m).2.1.length : Int) ≤ i by unfold ks at hi; omega))]
  exact ⟨best, rfl, hb2 (by omega), hb1, .inr fun a a0 a1 => ha a a0 (by omega)⟩
 | j + 1, n, best, i, hi, h0, hn, hb0, hb1, hb2, hl, ha => by
  obtain ⟨n, rfl⟩ := nxt (n := n) (by omega)
  rw [wpickL_s]
  dsimp only
  have hk' := hk i h0 (by omega)
  unfold ks at hk'
  have hlt : i < ((nd ns m).2.1.length : Int) := by show i < ((ks ns m).length : Int); omega
  rw [bif_t (ltI_t hlt), chk_idx h0 hlt, eqI_self, chk_true, leI_t hk', chk_true]
  have ih := wpickL_ok N ns m hm hk hlen bonus j n
  rw [w64_id (x := i + 1) (by omega) (by omega)]
  by_cases hz : kz ns m i = 0
  ·rw [bif_t (eqI_t (show (nd ns (gD (-1) (nd ns m).2.1 i)).2.2.1 = 0 from hz))]
   exact ⟨i, rfl, h0, by omega, .inl ⟨hz, ha⟩⟩
  ·have ha' : ∀ a : Int, 0 ≤ a → a < i + 1 → kz ns m a ≠ 0 := fun a a0 a1 => by
    by_cases e : a = i
    ·subst e; exact hz
    ·exact ha a a0 (by omega)
   rw [bif_f (eqI_f (show (nd ns (gD (-1) (nd ns m).2.1 i)).2.2.1 ≠ 0 from hz))]
   by_cases hb : best < 0
   ·rw [bif_t (ltI_t hb)]
    exact ih i (i + 1) (by omega) (by omega) (by omega) (by omega) (by omega) (fun _ => h0) hl ha'
   ·have hbl : best < ((nd ns m).2.1.length : Int) := hb1
    have hkb := hk best (by omega) hb1
    unfold ks at hkb
    rw [bif_f (ltI_f (by omega)), chk_true, leI_t hm, chk_true, chk_idx (by omega) hbl, leI_t hkb, chk_true, chk_true, chk_true, chk_idx (by omega) hbl, chk_true, chk_true, chk_true]
    cases ltI (w64 ((w64 ((w64 (10 * (nd ns (gD (-1 : Int) (nd ns m).2.1 best)).2.2.2)) + bonus)) * (nd ns (gD (-1 : Int) (nd ns m).2.1 i)).2.2.1)) (w64 ((w64 ((w64 (10 * (nd ns (gD (-1 : Int) (nd ns m).2.1 i)).2.2.2)) + bonus)) * (nd ns (gD (-1 : Int) (nd ns m).2.1 best)).2.2.1))
    ·exact ih best (i + 1) (by omega) (by omega) (by omega) (by omega) (by omega) (fun _ => by omega) hl ha'
    ·exact ih i (i + 1) (by omega) (by omega) (by omega) (by omega) (by omega) (fun _ => h0) hl ha'
theorem pick_ok {N : Nat} (hN : 200000000 ≤ N) (ns : LNode) (m : Int) (hm : 0 ≤ m) (hk : ∀ i : Int, 0 ≤ i → i < (ks ns m).length → 0 ≤ gD (-1 : Int) (ks ns m) i) (hlen : (ks ns m).length ≤ 8192) (hl : 0 < (ks ns m).length) :
  ∃ k, Q56 N (ns, m) = some (k, (ns, m)) ∧ 0 ≤ k ∧ k < (ks ns m).length ∧ ((kz ns m k = 0 ∧ ∀ a : Int, 0 ≤ a → a < k → kz ns m a ≠ 0) ∨ (∀ a : Int, 0 ≤ a → a < (ks ns m).length → kz ns m a ≠ 0)) := by
 rw [pick_e]
 obtain ⟨y, e⟩ := root_ok hN (w64 (100 * (nd ns m).2.2.1))
 rw [e, leI_t hm, chk_true, Option.bind_some, chk_true]
 exact wpickL_ok N ns m hm hk hlen y (ks ns m).length N (-1) 0 (by omega) (by omega) (by omega) (by omega) (by omega) (fun h => by omega) hl (fun a h0 h1 => by omega)
end
end Go.Proofs.Ytpielijehhhobaa.Am
