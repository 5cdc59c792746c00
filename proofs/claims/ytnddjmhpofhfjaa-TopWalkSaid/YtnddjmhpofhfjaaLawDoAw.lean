/- Plain: the score of a result, and a score one move nearer. -/
import Derived.Test.YtnddjmhpofhfjaaLawMoves0w
import Derived.Test.YtnddjmhpofhfjaaLawDoEqw
set_option linter.unusedVariables false
set_option linter.unusedSimpArgs false
set_option linter.unusedSectionVars false
namespace Go.Proofs.Ytnddjmhpofhfjaa.Am
open Go
theorem nearer_eq (N : Nat) {n : Int} (h : -10000 ≤ n ∧ n ≤ 10000) : Q58 N n = some (near n) := by
 unfold Q58 Q58.e near
 by_cases c : 0 < n
 ·rw [bif_t (ltI_t c), if_pos c, w64_id (by omega) (by omega)]
 ·rw [bif_f (ltI_f (by omega)), if_neg c]
  by_cases c2 : n < 0
  ·rw [bif_t (ltI_t c2), if_pos c2, w64_id (by omega) (by omega)]
  ·rw [bif_f (ltI_f (by omega)), if_neg c2]
theorem escore_eq (N : Nat) (x : Int) {t : Int} (ht : t = 0 ∨ t = 1) : Q57 N x t = some (scoreV x t) := by
 have w : ∀ u : Int, 0 ≤ u ∧ u ≤ 1 → Q61 N u = some (1 + u) := fun u hu => by
  unfold Q61 Q61.e
  rw [w64_id (by omega) (by omega)]
 unfold Q57 Q57.e scoreV
 rw [w t (by omega), ob, w64_id (x := 1 - t) (by omega) (by omega), w (1 - t) (by omega), ob]
 by_cases c : x = 1 + t
 ·rw [bif_t (eqI_t c), if_pos c]
 ·rw [bif_f (eqI_f c), if_neg c, show 1 + (1 - t) = 2 - t by omega]
  by_cases c2 : x = 2 - t
  ·rw [bif_t (eqI_t c2), if_pos c2]
  ·rw [bif_f (eqI_f c2), if_neg c2]
end Go.Proofs.Ytnddjmhpofhfjaa.Am
set_option linter.unusedVariables false
set_option linter.unusedSimpArgs false
set_option linter.unusedSectionVars false
namespace Go.Proofs.Ytnddjmhpofhfjaa.Am
open Go
def vl0 (N : Nat) (self : BoardT → Int → Option (Int × BoardT)) (b0 : BoardT) (depth : Int) (n : Nat) (best len j : Int) (b : BoardT) (ms : List MvT) : Option (Int × BoardT) :=
 Q30.l0 N self b0 depth n best len j b.1.1 b.1.2.1 b.1.2.2.1 b.1.2.2.2.2.2.1 b.1.2.2.2.2.2.2.1 b.1.2.2.2.2.2.2.2.2.1 b.1.2.2.2.2.2.2.2.2.2.1 b.1.2.2.2.2.2.2.2.2.2.2 b.2.1.2.2.1 b.2.1.2.2.2 b.2.2.1 ms b.1.2.2.2.1 b.1.2.2.2.2.1 b.1.2.2.2.2.2.2.2.1 b.2.1.1 b.2.1.2.1.1 b.2.1.2.1.2 b.2.2.2
theorem vl0_s (N : Nat) (self : BoardT → Int → Option (Int × BoardT)) (b0 : BoardT) (depth : Int) (n : Nat) (best len j : Int) (b : BoardT) (ms : List MvT) : vl0 N self b0 depth (n + 1) best len j b ms =
  bif ltI j len then (chk (leI 0 j && ltI j (ms.length : Int)) <|
   (Q47 N b (gD z0 ms j)).bind fun y5 =>
   (self y5 (w64 (depth - 1))).bind fun y6 =>
   (Q58 N (w64 (0 - y6.1))).bind fun y7 =>
   (Q48 N y6.2).bind fun y9 =>
   vl0 N self b0 depth n (bif ltI best y7 then y7 else best) len (w64 (j + 1)) y9.2 ms)
  else some (best, b) := rfl
theorem value_e (N : Nat) (b : BoardT) (depth : Int) : Q30 (N + 1) b depth =
  (Q22 N b).bind fun y1 =>
  bif (!(eqI y1 0)) then ((Q39 N b).bind fun y2 =>
   (Q57 N y1 y2).bind fun y3 =>
   some (y3, b))
  else bif (eqI depth 0) then (some (0, b))
  else (Q24 N b).bind fun y4 =>
  vl0 N (Q30 N) b depth N (-1000) (y4.length : Int) 0 b y4 := rfl
theorem value_l0 {N : Nat} (self : BoardT → Int → Option (Int × BoardT)) (b0 : BoardT) (d : Nat) (hd : d ≤ 20) {b : BoardT} (hb : BOk b) (hl : b.2.2.2.length ≤ 100000) (ms : List MvT) (hms : ∀ m ∈ ms, MoveOk b.1 b.2.1 m) (hlen : ms.length ≤ 100000)
  (hself : ∀ m ∈ ms, self (makeB b m) (d : Int) = some (val b.1 d (doI b.1 b.2.1 m), makeB b m)) : ∀ (k j n : Nat) (best : Int), j + k = ms.length → k < n →
  vl0 N self b0 ((d + 1 : Nat) : Int) n best (ms.length : Int) (j : Int) b ms = some (foldMax best ((ms.drop j).map fun m => near (-(val b.1 d (doI b.1 b.2.1 m)))), b)
 | 0, j, n, best, hk, hn => by
  obtain ⟨n, rfl⟩ := nxt (n := n) (by omega)
  rw [vl0_s, bif_f (ltI_f (by omega)), List.drop_of_length_le (by omega)]
  rfl
 | k + 1, j, n, best, hk, hn => by
  obtain ⟨n, rfl⟩ := nxt (n := n) (by omega)
  have hj : j < ms.length := by omega
  have hmem : ms[j] ∈ ms := List.getElem_mem _
  have hmo := hms _ hmem
  have hv := val_bound hb.r d (by omega) (do_ok hb.r hb.p hmo)
  rw [vl0_s, bif_t (ltI_t (by omega)), chk_of (idx_ok hj), gD_nat hj, make_eq hb hl hmo, ob, w64_id (x := ((d + 1 : Nat) : Int) - 1) (by omega) (by omega), show ((d + 1 : Nat) : Int) - 1 = (d : Int) by omega, hself _ hmem, ob]
  dsimp only
  rw [w64_id (x := 0 - val b.1 d (doI b.1 b.2.1 ms[j])) (by omega) (by omega), nearer_eq N (by omega), ob, undo_make hb hl hmo, ob, w64_id (by omega) (by omega), show ((j : Int) + 1) = ((j + 1 : Nat) : Int) by omega, show 0 - val b.1 d (doI b.1 b.2.1 ms[j]) = -(val b.1 d (doI b.1 b.2.1 ms[j])) by omega]
  rw [value_l0 self b0 d hd hb hl ms hms hlen hself k (j + 1) n _ (by omega) (by omega), List.drop_eq_getElem_cons hj]
  rfl
theorem value_ok : ∀ (d N : Nat), 200000000 + d < N → d ≤ 20 → ∀ {b : BoardT}, BOk b → b.2.2.2.length + d ≤ 100000 → Q30 N b (d : Int) = some (val b.1 d b.2.1, b)
 | d, N, hN, hd, b, hb, hl => by
  obtain ⟨N, rfl⟩ := nxt (n := N) (by omega)
  have ht := hb.p.last.1
  rw [value_e, bresult_eq (by omega) hb, ob]
  by_cases h : resV b.1 b.2.1 = 0
  ·rw [bif_f (by rw [eqI_t h]; rfl)]
   cases d with
   | zero =>
    rw [bif_t (by rfl)]
    unfold val
    rw [if_neg (by simp [h])]
   | succ d =>
    obtain ⟨l, hl1, _, hl2⟩ := bmoves_ret (N := N) (by omega) hb
    have hg := hl2 h
    have hgl := hg.len
    rw [bif_f (eqI_f (by omega)), hl1, ob]
    have := value_l0 (N := N) (Q30 N) b d (by omega) hb (by omega) l (fun m hm => cand_ok hb.r hb.p ((hg.mem m).1 hm)) (by omega) (fun m hm => by
     have hmo := cand_ok hb.r hb.p ((hg.mem m).1 hm)
     exact value_ok d N (by omega) (by omega) (make_ok hb (by omega) hmo) (by
      show (b.2.2.2 ++ [undoI b m]).length + d ≤ 100000
      rw [List.length_append]
      simp only [List.length_singleton]
      omega)) l.length 0 N (-1000) (by omega) (by omega)
    rw [List.drop_zero, show ((0 : Nat) : Int) = 0 from rfl] at this
    rw [this, val_open hb.r h]
    congr 2
    apply foldMax_ext
    intro x
    simp only [List.mem_map]
    constructor
    ·rintro ⟨m, hm, rfl⟩; exact ⟨m, (hg.mem m).1 hm, rfl⟩
    ·rintro ⟨m, hm, rfl⟩; exact ⟨m, (hg.mem m).2 hm, rfl⟩
  ·rw [bif_t (by rw [eqI_f h]; rfl), val_over hb.r h]
   show (some b.2.1.2.2.1).bind _ = _
   rw [ob, escore_eq N _ ht, ob]
end Go.Proofs.Ytnddjmhpofhfjaa.Am
set_option linter.unusedVariables false
set_option linter.unusedSimpArgs false
set_option linter.unusedSectionVars false
namespace Go.Proofs.Ytnddjmhpofhfjaa.Am
open Go
def tl0 (N : Nat) (self : Int → BoardT → Int → Option (Int × Int × BoardT)) (c0 : Int) (b0 : BoardT) (depth : Int) (n : Nat) (nn len j c : Int) (b : BoardT) (ms : List MvT) : Option (Int × Int × BoardT) :=
 Q52.l0 N self c0 b0 depth n nn len j c b.1.1 b.1.2.1 b.1.2.2.1 b.1.2.2.2.2.2.1 b.1.2.2.2.2.2.2.1 b.1.2.2.2.2.2.2.2.2.1 b.1.2.2.2.2.2.2.2.2.2.1 b.1.2.2.2.2.2.2.2.2.2.2 b.2.1.2.2.1 b.2.1.2.2.2 b.2.2.1 ms b.1.2.2.2.1 b.1.2.2.2.2.1 b.1.2.2.2.2.2.2.2.1 b.2.1.1 b.2.1.2.1.1 b.2.1.2.1.2 b.2.2.2
theorem tl0_s (N : Nat) (self : Int → BoardT → Int → Option (Int × Int × BoardT)) (c0 : Int) (b0 : BoardT) (depth : Int) (n : Nat) (nn len j c : Int) (b : BoardT) (ms : List MvT) : tl0 N self c0 b0 depth (n + 1) nn len j c b ms =
  bif ltI j len then (chk (leI 0 j && ltI j (ms.length : Int)) <|
   (Q47 N b (gD z0 ms j)).bind fun y2 =>
   (self c y2 (w64 (depth - 1))).bind fun y3 =>
   (Q48 N y3.2.2).bind fun y4 =>
   bif (ltI y3.2.1 0) then (some (0, (y3.2.1, y4.2)))
   else tl0 N self c0 b0 depth n (w64 (nn + y3.1)) len (w64 (j + 1)) y3.2.1 y4.2 ms)
  else some (nn, (c, b)) := rfl
theorem count_e (N : Nat) (c : Int) (b : BoardT) (depth : Int) : Q52 (N + 1) c b depth =
  bif (ltI (w64 (c - 1)) 0) then (some (1, ((w64 (c - 1)), b)))
  else bif (eqI depth 0) then (some (1, ((w64 (c - 1)), b)))
  else (Q24 N b).bind fun y1 =>
  tl0 N (Q52 N) c b depth N 0 (y1.length : Int) 0 (w64 (c - 1)) b y1 := rfl
abbrev CQ (b : BoardT) (z : Int × Int × BoardT) : Prop := z.2.2 = b ∧ -1 ≤ z.2.1 ∧ z.2.1 ≤ 50000
theorem count_l0 {N : Nat} (self : Int → BoardT → Int → Option (Int × Int × BoardT)) (c0 : Int) (b0 : BoardT) (d : Nat) (hd : d ≤ 20) {b : BoardT} (hb : BOk b) (hl : b.2.2.2.length ≤ 100000) (ms : List MvT) (hms : ∀ m ∈ ms, MoveOk b.1 b.2.1 m) (hlen : ms.length ≤ 100000)
  (hself : ∀ m ∈ ms, ∀ c : Int, 0 ≤ c → c ≤ 50000 → Ret (self c (makeB b m) (d : Int)) (CQ (makeB b m))) : ∀ (k j n : Nat) (nn c : Int), j + k = ms.length → k < n → 0 ≤ c → c ≤ 50000 →
  Ret (tl0 N self c0 b0 ((d + 1 : Nat) : Int) n nn (ms.length : Int) (j : Int) c b ms) (CQ b)
 | 0, j, n, nn, c, hk, hn, h0, h1 => by
  obtain ⟨n, rfl⟩ := nxt (n := n) (by omega)
  rw [tl0_s, bif_f (ltI_f (by omega))]
  exact Ret.ret ⟨rfl, by dsimp only; omega, h1⟩
 | k + 1, j, n, nn, c, hk, hn, h0, h1 => by
  obtain ⟨n, rfl⟩ := nxt (n := n) (by omega)
  have hj : j < ms.length := by omega
  have hmem : ms[j] ∈ ms := List.getElem_mem _
  have hmo := hms _ hmem
  rw [tl0_s, bif_t (ltI_t (by omega)), chk_of (idx_ok hj), gD_nat hj, make_eq hb hl hmo, ob, w64_id (x := ((d + 1 : Nat) : Int) - 1) (by omega) (by omega), show ((d + 1 : Nat) : Int) - 1 = (d : Int) by omega]
  refine Ret.bnd (hself _ hmem c h0 h1) fun z hz => ?_
  rw [hz.1, undo_make hb hl hmo, ob, w64_id (x := (j : Int) + 1) (by omega) (by omega), show ((j : Int) + 1) = ((j + 1 : Nat) : Int) by omega]
  refine Ret.bif (fun c' => Ret.ret ⟨rfl, hz.2⟩) (fun c' => ?_)
  rw [ltI_iff'] at c'
  exact count_l0 self c0 b0 d hd hb hl ms hms hlen hself k (j + 1) n _ _ (by omega) (by omega) c' hz.2.2
theorem count_ret : ∀ (d N : Nat), 200000000 + d < N → d ≤ 20 → ∀ {b : BoardT}, BOk b → b.2.2.2.length + d ≤ 100000 → ∀ c : Int, 0 ≤ c → c ≤ 50000 → Ret (Q52 N c b (d : Int)) (CQ b)
 | d, N, hN, hd, b, hb, hl, c, h0, h1 => by
  obtain ⟨N, rfl⟩ := nxt (n := N) (by omega)
  rw [count_e, w64_id (x := c - 1) (by omega) (by omega)]
  refine Ret.bif (fun _ => Ret.ret ⟨rfl, by dsimp only; omega, by dsimp only; omega⟩) (fun hc => ?_)
  rw [ltI_iff'] at hc
  cases d with
  | zero => rw [bif_t (by rfl)]; exact Ret.ret ⟨rfl, by dsimp only; omega, by dsimp only; omega⟩
  | succ d =>
   rw [bif_f (eqI_f (by omega))]
   refine Ret.bnd (bmoves_ret (N := N) (by omega) hb) fun l hl2 => ?_
   by_cases h : resV b.1 b.2.1 = 0
   ·have hg := hl2.2 h
    have hgl := hg.len
    have := count_l0 (N := N) (Q52 N) c b d (by omega) hb (by omega) l (fun m hm => cand_ok hb.r hb.p ((hg.mem m).1 hm)) (by omega) (fun m hm c' h0' h1' => by
     have hmo := cand_ok hb.r hb.p ((hg.mem m).1 hm)
     exact count_ret d N (by omega) (by omega) (make_ok hb (by omega) hmo) (by
      show (b.2.2.2 ++ [undoI b m]).length + d ≤ 100000
      rw [List.length_append]
      simp only [List.length_singleton]
      omega) c' h0' h1') l.length 0 N 0 (c - 1) (by omega) (by omega) hc (by omega)
    exact this
   ·rw [hl2.1 h]
    obtain ⟨N', rfl⟩ := nxt (n := N) (by omega)
    rw [tl0_s, bif_f (by rfl)]
    exact Ret.ret ⟨rfl, by dsimp only; omega, by dsimp only; omega⟩
section
variable {N : Nat} (hN : 200000100 ≤ N) (r : RulesT) (p : PosT) (depth : Int)
include hN
theorem tree_ret : Ret (Q25 N r p depth) fun z => (z.2 ≠ 0 ∧ z.1 = 0) ∨ (z.2 = 0 ∧ ROk r ∧ POk r p ∧ 0 ≤ depth ∧ depth ≤ 12) := by
 obtain ⟨v, hv, hv0⟩ := pcheck (N := N) (by omega) r p
 unfold Q25 Q25.e Q51 Q51.e
 by_cases h0 : v = 0
 ·obtain ⟨hr, hp⟩ := hv0.1 h0
  rw [new_good (by omega) hr hp, ob]
  show Ret (((bif (!(eqI 0 0)) then some ((none : Option BoardT), (0 : Int)) else bif ltI depth 0 then some (none, 1) else bif ltI 12 depth then some (none, 1) else some (some (r, (p, (U (keyS p), []))), 0)) : Option (Option BoardT × Int)).bind _) _
  rw [bif_f (by rfl)]
  by_cases c1 : depth < 0
  ·rw [bif_t (ltI_t c1), ob]
   exact Ret.ret (Or.inl ⟨by decide, rfl⟩)
  ·rw [bif_f (ltI_f (by omega))]
   by_cases c2 : 12 < depth
   ·rw [bif_t (ltI_t c2), ob]
    exact Ret.ret (Or.inl ⟨by decide, rfl⟩)
   ·rw [bif_f (ltI_f (by omega)), ob]
    show Ret (bif (!(eqI 0 0)) then (some (0, 0)) else (Q52 N 50000 (r, (p, (U (keyS p), []))) depth).bind _) _
    rw [bif_f (by rfl)]
    obtain ⟨d, rfl⟩ : ∃ d : Nat, depth = d := ⟨depth.toNat, by omega⟩
    refine Ret.bnd (count_ret d N (by omega) (by omega) (b := (r, (p, (U (keyS p), [])))) ⟨hr, hp, rfl⟩ (by simp; omega) 50000 (by omega) (by omega)) fun z hz => ?_
    refine Ret.bif (fun _ => Ret.ret (Or.inl ⟨by dsimp only; omega, rfl⟩)) (fun _ => Ret.ret (Or.inr ⟨rfl, hr, hp, by omega, by omega⟩))
 ·rw [new_bad hv h0, ob]
  show Ret (((bif (!(eqI v 0)) then some ((none : Option BoardT), v) else _) : Option (Option BoardT × Int)).bind _) _
  rw [bif_t (by rw [eqI_f h0]; rfl), ob]
  show Ret (bif (!(eqI v 0)) then (some (0, v)) else none) _
  rw [bif_t (by rw [eqI_f h0]; rfl)]
  exact Ret.ret (Or.inl ⟨h0, rfl⟩)
theorem heavy_ret : Ret (Q11 N r p depth) fun _ => True := by
 unfold Q11 Q11.e
 refine Ret.bnd (tree_ret hN r p depth) fun z _ => ?_
 refine Ret.bif (fun _ => Ret.ret trivial) (fun _ => Ret.bif (fun _ => Ret.ret trivial) (fun _ => Ret.ret trivial))
end
end Go.Proofs.Ytnddjmhpofhfjaa.Am
set_option linter.unusedVariables false
set_option linter.unusedSimpArgs false
set_option linter.unusedSectionVars false
namespace Go.Proofs.Ytnddjmhpofhfjaa.Am
open Go
section
variable {N : Nat} (hN : 200000100 ≤ N) (r : RulesT) (p : PosT) (depth : Int)
include hN
end
end Go.Proofs.Ytnddjmhpofhfjaa.Am
set_option linter.unusedVariables false
set_option linter.unusedSimpArgs false
set_option linter.unusedSectionVars false
namespace Go.Proofs.Ytnddjmhpofhfjaa.Am
open Go
section
variable {N : Nat} (hN : 200000100 ≤ N) (r : RulesT) (p : PosT) (depth : Int)
include hN
theorem score_good (he : Q29 N r p depth = some 0) (hr : ROk r) (hp : POk r p) (h1 : 0 ≤ depth) (h2 : depth ≤ 12) : Q13 N r p depth = some (val r depth.toNat p, 0) := by
 unfold Q13 Q13.e
 rw [he, ob, bif_f (by rfl), new_good (by omega) hr hp, ob]
 show (Q30 N (r, (p, (U (keyS p), []))) depth).bind _ = _
 obtain ⟨d, rfl⟩ : ∃ d : Nat, depth = d := ⟨depth.toNat, by omega⟩
 rw [value_ok d N (by omega) (by omega) (b := (r, (p, (U (keyS p), [])))) ⟨hr, hp, rfl⟩ (by simp; omega), ob, Int.toNat_natCast]
end
end Go.Proofs.Ytnddjmhpofhfjaa.Am
set_option linter.unusedVariables false
set_option linter.unusedSimpArgs false
set_option linter.unusedSectionVars false
namespace Go.Proofs.Ytnddjmhpofhfjaa.Am
open Go
theorem perm_nodup : ∀ (l k : List MvT), l.Nodup → k.Nodup → (∀ x, x ∈ l ↔ x ∈ k) → l.Perm k
 | [], k, _, _, h => by
  cases k with
  | nil => exact List.Perm.refl _
  | cons b k => exact absurd ((h b).2 (List.mem_cons_self ..)) (by simp)
 | a :: l, k, h1, h2, h => by
  have h3 := List.nodup_cons.1 h1
  have ha : a ∈ k := (h a).1 (List.mem_cons_self ..)
  refine List.Perm.trans (List.Perm.cons a (perm_nodup l (k.erase a) h3.2 (h2.erase a) fun x => ?_)) (List.perm_cons_erase ha).symm
  rw [h2.mem_erase_iff]
  constructor
  ·intro hx
   exact ⟨fun e => h3.1 (by rw [← e]; exact hx), (h x).1 (List.mem_cons_of_mem _ hx)⟩
  ·rintro ⟨hne, hx⟩
   exact (List.mem_cons.1 ((h x).2 hx)).resolve_left hne
theorem sortedM_eq : ∀ (l k : List MvT), l.Perm k → l.Pairwise leM → k.Pairwise leM → l = k
 | [], k, h, _, _ => by rw [List.nil_perm] at h; exact h.symm
 | a :: l, [], h, _, _ => by rw [List.perm_nil] at h; exact h
 | a :: l, b :: k, h, h1, h2 => by
  obtain ⟨g1, g2⟩ := List.pairwise_cons.1 h1
  obtain ⟨g3, g4⟩ := List.pairwise_cons.1 h2
  have e : a = b := by
   rcases List.mem_cons.1 (h.mem_iff.1 (List.mem_cons_self ..) : a ∈ b :: k) with e | e
   ·exact e
   ·rcases List.mem_cons.1 (h.mem_iff.2 (List.mem_cons_self ..) : b ∈ a :: l) with e' | e'
    ·exact e'.symm
    ·exact leM.anti (g1 b e') (g3 a e)
  subst e
  rw [sortedM_eq l k (List.perm_cons a |>.1 h) g2 g4]
theorem gen_same {r : RulesT} {p : PosT} (hr : ROk r) (hp : POk r p) {N : Nat} (hN : 200000000 ≤ N) : Q50 N r p = Q50 200000000 r p := by
 obtain ⟨l, hl, hg, hn, hs⟩ := gen_nodup hr hp (N := 200000000) (Nat.le_refl _)
 obtain ⟨k, hk, hg2, hn2, hs2⟩ := gen_nodup hr hp hN
 rw [hl, hk, sortedM_eq k l (perm_nodup k l hn2 hn fun x => (hg2.mem x).trans (hg.mem x).symm) hs2 hs]
def mvP (r : RulesT) (p : PosT) : List MvT := if resV r p = 0 then (Q50 200000000 r p).getD [] else []
theorem mvP_spec {r : RulesT} {p : PosT} (hr : ROk r) (hp : POk r p) : (mvP r p).length ≤ 8192 ∧ ∀ m ∈ mvP r p, MoveOk r p m ∧ m ∈ cand r p := by
 unfold mvP
 split
 ·obtain ⟨l, hl, hg⟩ := gen_ret hr hp (N := 200000000) (Nat.le_refl _)
  rw [hl]
  exact ⟨hg.len, fun m hm => ⟨cand_ok hr hp ((hg.mem m).1 hm), (hg.mem m).1 hm⟩⟩
 ·exact ⟨by simp, fun m hm => by cases hm⟩
theorem bmoves_mvP {N : Nat} (hN : 200000000 ≤ N) {b : BoardT} (hb : BOk b) : Q24 N b = some (mvP b.1 b.2.1) := by
 unfold Q24 Q24.e mvP
 rw [bresult_eq hN hb, ob]
 by_cases h : resV b.1 b.2.1 = 0
 ·obtain ⟨l, hl, hg⟩ := gen_ret hb.r hb.p (N := 200000000) (Nat.le_refl _)
  rw [bif_f (by rw [eqI_t h]; rfl), if_pos h, gen_same hb.r hb.p hN, hl]
  rfl
 ·rw [bif_t (by rw [eqI_f h]; rfl), if_neg h]
def sumL (f : MvT → Int) : List MvT → Int
 | [] => 0
 | a :: l => f a + sumL f l
theorem sumL_nn (f : MvT → Int) : ∀ (l : List MvT), (∀ m ∈ l, 0 ≤ f m) → 0 ≤ sumL f l
 | [], _ => Int.le_refl _
 | a :: l, h => by
  have h1 := h a (List.mem_cons_self ..)
  have h2 := sumL_nn f l fun m hm => h m (List.mem_cons_of_mem _ hm)
  show 0 ≤ f a + sumL f l
  omega
theorem sumL_le {f g : MvT → Int} : ∀ (l : List MvT), (∀ m ∈ l, f m ≤ g m) → sumL f l ≤ sumL g l
 | [], _ => Int.le_refl _
 | a :: l, h => by
  have h1 := h a (List.mem_cons_self ..)
  have h2 := sumL_le l fun m hm => h m (List.mem_cons_of_mem _ hm)
  show f a + sumL f l ≤ g a + sumL g l
  omega
def leaves (r : RulesT) : Nat → PosT → Int
 | 0, _ => 1
 | d + 1, p => sumL (fun m => leaves r d (doI r p m)) (mvP r p)
def sizeP (r : RulesT) : Nat → PosT → Int
 | 0, _ => 1
 | d + 1, p => 1 + sumL (fun m => sizeP r d (doI r p m)) (mvP r p)
theorem sizeP_pos (r : RulesT) : ∀ (d : Nat) (p : PosT), 1 ≤ sizeP r d p
 | 0, _ => Int.le_refl _
 | d + 1, p => by
  have := sumL_nn (fun m => sizeP r d (doI r p m)) (mvP r p) fun m _ => by
   have := sizeP_pos r d (doI r p m)
   omega
  show 1 ≤ 1 + _
  omega
theorem leaves_le (r : RulesT) : ∀ (d : Nat) (p : PosT), 0 ≤ leaves r d p ∧ leaves r d p ≤ sizeP r d p
 | 0, _ => ⟨by show (0 : Int) ≤ 1; omega, Int.le_refl _⟩
 | d + 1, p => by
  have h1 := sumL_nn (fun m => leaves r d (doI r p m)) (mvP r p) fun m _ => (leaves_le r d (doI r p m)).1
  have h2 := sumL_le (f := fun m => leaves r d (doI r p m)) (g := fun m => sizeP r d (doI r p m)) (mvP r p) fun m _ => (leaves_le r d (doI r p m)).2
  exact ⟨h1, by show _ ≤ 1 + _; exact Int.le_trans h2 (by omega)⟩
abbrev CX (d : Nat) (b : BoardT) (c : Int) (z : Int × Int × BoardT) : Prop := z.2.2 = b ∧ ((sizeP b.1 d b.2.1 ≤ c ∧ z.1 = leaves b.1 d b.2.1 ∧ z.2.1 = c - sizeP b.1 d b.2.1) ∨ (c < sizeP b.1 d b.2.1 ∧ z.2.1 < 0))
theorem cx_l0 {N : Nat} (self : Int → BoardT → Int → Option (Int × Int × BoardT)) (c0 : Int) (b0 : BoardT) (d : Nat) (hd : d ≤ 20) {b : BoardT} (hb : BOk b) (hl : b.2.2.2.length ≤ 100000) (ms : List MvT) (hms : ∀ m ∈ ms, MoveOk b.1 b.2.1 m) (hlen : ms.length ≤ 100000)
  (hself : ∀ m ∈ ms, ∀ c : Int, 0 ≤ c → c ≤ 50000 → Ret (self c (makeB b m) (d : Int)) (CX d (makeB b m) c)) : ∀ (k j n : Nat) (nn c : Int), j + k = ms.length → k < n → 0 ≤ c → 0 ≤ nn → nn + c ≤ 50000 →
  Ret (tl0 N self c0 b0 ((d + 1 : Nat) : Int) n nn (ms.length : Int) (j : Int) c b ms) fun z => z.2.2 = b ∧ ((sumL (fun m => sizeP b.1 d (doI b.1 b.2.1 m)) (ms.drop j) ≤ c ∧ z.1 = nn + sumL (fun m => leaves b.1 d (doI b.1 b.2.1 m)) (ms.drop j) ∧ z.2.1 = c - sumL (fun m => sizeP b.1 d (doI b.1 b.2.1 m)) (ms.drop j)) ∨ (c < sumL (fun m => sizeP b.1 d (doI b.1 b.2.1 m)) (ms.drop j) ∧ z.2.1 < 0))
 | 0, j, n, nn, c, hk, hn, h0, h1, h2 => by
  obtain ⟨n, rfl⟩ := nxt (n := n) (by omega)
  rw [tl0_s, bif_f (ltI_f (by omega)), List.drop_of_length_le (by omega)]
  exact Ret.ret ⟨rfl, Or.inl ⟨h0, by show nn = nn + 0; omega, by show c = c - 0; omega⟩⟩
 | k + 1, j, n, nn, c, hk, hn, h0, h1, h2 => by
  obtain ⟨n, rfl⟩ := nxt (n := n) (by omega)
  have hj : j < ms.length := by omega
  have hmem : ms[j] ∈ ms := List.getElem_mem _
  have hmo := hms _ hmem
  have nn1 := sumL_nn (fun m => sizeP b.1 d (doI b.1 b.2.1 m)) (ms.drop (j + 1)) fun m _ => by
   have := sizeP_pos b.1 d (doI b.1 b.2.1 m)
   omega
  have ll := leaves_le b.1 d (doI b.1 b.2.1 ms[j])
  rw [tl0_s, bif_t (ltI_t (by omega)), chk_of (idx_ok hj), gD_nat hj, make_eq hb hl hmo, ob, w64_id (x := ((d + 1 : Nat) : Int) - 1) (by omega) (by omega), show ((d + 1 : Nat) : Int) - 1 = (d : Int) by omega]
  refine Ret.bnd (hself _ hmem c h0 (by omega)) fun z hz => ?_
  rw [hz.1, undo_make hb hl hmo, ob, w64_id (x := (j : Int) + 1) (by omega) (by omega), show ((j : Int) + 1) = ((j + 1 : Nat) : Int) by omega, List.drop_eq_getElem_cons hj]
  have e1 : sumL (fun m => sizeP b.1 d (doI b.1 b.2.1 m)) (ms[j] :: ms.drop (j + 1)) = sizeP b.1 d (doI b.1 b.2.1 ms[j]) + sumL (fun m => sizeP b.1 d (doI b.1 b.2.1 m)) (ms.drop (j + 1)) := rfl
  have e2 : sumL (fun m => leaves b.1 d (doI b.1 b.2.1 m)) (ms[j] :: ms.drop (j + 1)) = leaves b.1 d (doI b.1 b.2.1 ms[j]) + sumL (fun m => leaves b.1 d (doI b.1 b.2.1 m)) (ms.drop (j + 1)) := rfl
  rw [e1, e2]
  have hz2 : (sizeP b.1 d (doI b.1 b.2.1 ms[j]) ≤ c ∧ z.1 = leaves b.1 d (doI b.1 b.2.1 ms[j]) ∧ z.2.1 = c - sizeP b.1 d (doI b.1 b.2.1 ms[j])) ∨ (c < sizeP b.1 d (doI b.1 b.2.1 ms[j]) ∧ z.2.1 < 0) := hz.2
  refine Ret.bif (fun c' => Ret.ret ⟨rfl, Or.inr ?_⟩) (fun c' => ?_)
  ·rw [ltI_iff] at c'
   exact ⟨by omega, c'⟩
  ·rw [ltI_iff'] at c'
   rcases hz2 with h | h
   ·have ih := cx_l0 (N := N) self c0 b0 d hd hb hl ms hms hlen hself k (j + 1) n (nn + z.1) z.2.1 (by omega) (by omega) c' (by omega) (by omega)
    rw [w64_id (x := nn + z.1) (by omega) (by omega)]
    exact ih.mono fun y hy => ⟨hy.1, by
     rcases hy.2 with g | g
     ·exact Or.inl ⟨by omega, by omega, by omega⟩
     ·exact Or.inr ⟨by omega, g.2⟩⟩
   ·omega
theorem count_x : ∀ (d N : Nat), 200000000 + d < N → d ≤ 20 → ∀ {b : BoardT}, BOk b → b.2.2.2.length + d ≤ 100000 → ∀ c : Int, 0 ≤ c → c ≤ 50000 → Ret (Q52 N c b (d : Int)) (CX d b c)
 | d, N, hN, hd, b, hb, hl, c, h0, h1 => by
  obtain ⟨N, rfl⟩ := nxt (n := N) (by omega)
  have np := sizeP_pos b.1 d b.2.1
  rw [count_e, w64_id (x := c - 1) (by omega) (by omega)]
  refine Ret.bif (fun hc => Ret.ret ⟨rfl, Or.inr ?_⟩) (fun hc => ?_)
  ·rw [ltI_iff] at hc
   exact ⟨by omega, hc⟩
  rw [ltI_iff'] at hc
  cases d with
  | zero => rw [bif_t (by rfl)]; exact Ret.ret ⟨rfl, Or.inl ⟨by show (1 : Int) ≤ c; omega, rfl, rfl⟩⟩
  | succ d =>
   rw [bif_f (eqI_f (by omega)), bmoves_mvP (by omega) hb, ob]
   have hg := mvP_spec hb.r hb.p
   have := cx_l0 (N := N) (Q52 N) c b d (by omega) hb (by omega) (mvP b.1 b.2.1) (fun m hm => (hg.2 m hm).1) (by omega) (fun m hm c' h0' h1' => by
    have hmo := (hg.2 m hm).1
    exact count_x d N (by omega) (by omega) (make_ok hb (by omega) hmo) (by
     show (b.2.2.2 ++ [undoI b m]).length + d ≤ 100000
     rw [List.length_append]
     simp only [List.length_singleton]
     omega) c' h0' h1') (mvP b.1 b.2.1).length 0 N 0 (c - 1) (by omega) (by omega) hc (by omega) (by omega)
   rw [List.drop_zero, show ((0 : Nat) : Int) = 0 from rfl] at this
   refine this.mono fun z hz => ⟨hz.1, ?_⟩
   have e1 : sizeP b.1 (d + 1) b.2.1 = 1 + sumL (fun m => sizeP b.1 d (doI b.1 b.2.1 m)) (mvP b.1 b.2.1) := rfl
   have e2 : leaves b.1 (d + 1) b.2.1 = sumL (fun m => leaves b.1 d (doI b.1 b.2.1 m)) (mvP b.1 b.2.1) := rfl
   rw [e1, e2]
   rcases hz.2 with g | g
   ·exact Or.inl ⟨by omega, by omega, by omega⟩
   ·exact Or.inr ⟨by omega, g.2⟩
section
variable {N : Nat} (hN : 200000100 ≤ N) (r : RulesT) (p : PosT) (depth : Int)
include hN
theorem pch_good (hr : ROk r) (hp : POk r p) (h1 : 0 ≤ depth) (h2 : depth ≤ 12) : Q51 N r p depth = some (some (r, (p, (U (keyS p), []))), 0) := by
 unfold Q51 Q51.e
 rw [new_good (by omega) hr hp, ob]
 show ((bif (!(eqI 0 0)) then some ((none : Option BoardT), (0 : Int)) else bif ltI depth 0 then some (none, 1) else bif ltI 12 depth then some (none, 1) else some (some (r, (p, (U (keyS p), []))), 0)) : Option (Option BoardT × Int)) = _
 rw [bif_f (by rfl), bif_f (ltI_f (by omega)), bif_f (ltI_f (by omega))]
end
section
variable {N : Nat} (hN : 200000100 ≤ N) (r : RulesT) (p : PosT) (d : Nat) (hr : ROk r) (hp : POk r p) (hd : d ≤ 12) (h : Q51 N r p (d : Int) = some (some (r, (p, (U (keyS p), []))), 0))
include hN hr hp hd h
theorem tree_good : Q25 N r p (d : Int) = if sizeP r d p ≤ 50000 then some (sizeP r d p, 0) else some (0, 17) := by
 unfold Q25 Q25.e
 rw [h, ob]
 show (bif (!(eqI 0 0)) then (some (0, 0)) else (Q52 N 50000 (r, (p, (U (keyS p), []))) (d : Int)).bind _) = _
 rw [bif_f (by rfl)]
 obtain ⟨z, hz, hz1, hz2⟩ := count_x d N (by omega) (by omega) (b := (r, (p, (U (keyS p), [])))) ⟨hr, hp, rfl⟩ (by simp; omega) 50000 (by omega) (by omega)
 rw [hz, ob]
 have np := sizeP_pos r d p
 have hz2 : (sizeP r d p ≤ 50000 ∧ z.1 = leaves r d p ∧ z.2.1 = 50000 - sizeP r d p) ∨ (50000 < sizeP r d p ∧ z.2.1 < 0) := hz2
 rcases hz2 with ⟨g1, g2, g3⟩ | ⟨g1, g2⟩
 ·rw [bif_f (ltI_f (by omega)), if_pos g1, w64_id (by omega) (by omega), show 50000 - z.2.1 = sizeP r d p by omega]
 ·rw [bif_t (ltI_t (by omega)), if_neg (by omega)]
end
end Go.Proofs.Ytnddjmhpofhfjaa.Am
set_option linter.unusedVariables false
set_option linter.unusedSimpArgs false
set_option linter.unusedSectionVars false
namespace Go.Proofs.Ytnddjmhpofhfjaa.Am
open Go
theorem mvP_ne {r : RulesT} {p : PosT} (hr : ROk r) (hp : POk r p) (h : resV r p = 0) : mvP r p ≠ [] := by
 have hc := cand_ne hr hp h
 unfold mvP
 rw [if_pos h]
 obtain ⟨l, hl, hg⟩ := gen_ret hr hp (N := 200000000) (Nat.le_refl _)
 rw [hl]
 intro e
 have e : l = [] := e
 cases hcl : cand r p with
 | nil => exact hc hcl
 | cons m c =>
  have := (hg.mem m).2 (by rw [hcl]; exact List.mem_cons_self ..)
  rw [e] at this
  cases this
theorem mvP_nodup {r : RulesT} {p : PosT} (hr : ROk r) (hp : POk r p) : (mvP r p).Nodup := by
 unfold mvP
 split
 ·obtain ⟨l, hl, hg, hn, _⟩ := gen_nodup hr hp (N := 200000000) (Nat.le_refl _)
  rw [hl]
  exact hn
 ·exact List.nodup_nil
end Go.Proofs.Ytnddjmhpofhfjaa.Am
set_option linter.unusedVariables false
set_option linter.unusedSimpArgs false
set_option linter.unusedSectionVars false
namespace Go.Proofs.Ytnddjmhpofhfjaa.Am
open Go
theorem index_l0 (N : Nat) (l : List MvT) (v : MvT) (hl : l.length ≤ 100000) : ∀ (k j n : Nat), j + k = l.length → k < n → Ret (Q80.l0 N l v n (j : Int)) fun i => 0 ≤ i ↔ v ∈ l.drop j
 | 0, j, n, hk, hn => by
  obtain ⟨n, rfl⟩ := nxt (n := n) (by omega)
  rw [Q80.l0_s, Q80.s0, bif_f (ltI_f (by omega)), List.drop_of_length_le (by omega)]
  exact Ret.ret (by simp)
 | k + 1, j, n, hk, hn => by
  obtain ⟨n, rfl⟩ := nxt (n := n) (by omega)
  have hj : j < l.length := by omega
  have ih := index_l0 N l v hl k (j + 1) n (by omega) (by omega)
  rw [Q80.l0_s, Q80.s0, bif_t (ltI_t (by omega)), chk_of (idx_ok hj), gD_nat hj, mv_eq, w64_id (by omega) (by omega), show ((j : Int) + 1) = ((j + 1 : Nat) : Int) by omega, List.drop_eq_getElem_cons hj, List.mem_cons]
  by_cases h : v = l[j]
  ·rw [bif_t (by simpa using h)]
   exact Ret.ret ⟨fun _ => Or.inl h, fun _ => by omega⟩
  ·rw [bif_f (by simpa using h)]
   exact ih.mono fun i hi => hi.trans ⟨Or.inr, fun h' => h'.resolve_left h⟩
theorem contains_eq {N : Nat} (l : List MvT) (v : MvT) (hl : l.length ≤ 100000) (hN : 200000 ≤ N) : Q54 N l v = some (decide (v ∈ l)) := by
 unfold Q54 Q54.e Q80 Q80.e
 obtain ⟨i, h1, h2⟩ := index_l0 N l v hl l.length 0 N (by omega) (by omega)
 rw [List.drop_zero] at h2
 rw [show ((0 : Nat) : Int) = 0 from rfl] at h1
 rw [h1, ob]
 by_cases h : v ∈ l
 ·rw [leI_t (h2.2 h), decide_eq_true h]
 ·rw [leI_f (by have := mt h2.1 h; omega), decide_eq_false h]
end Go.Proofs.Ytnddjmhpofhfjaa.Am
set_option linter.unusedVariables false
set_option linter.unusedSimpArgs false
set_option linter.unusedSectionVars false
namespace Go.Proofs.Ytnddjmhpofhfjaa.Am
open Go
section
variable {N : Nat} (hN : 200000 ≤ N) {r : RulesT} (hr : ROk r) {p : PosT} (hp : POk r p) {l : List MvT} (hl : Q50 N r p = some l) (hg : IsGen r p l)
include hN hr hp hl hg
theorem legal_good (m : MvT) : Q27 N r p m = some (decide (m ∈ l), 0) := by
 have := hg.len
 unfold Q27 Q27.e
 rw [pcheck_ok (by omega) hr hp, ob, bif_f (by rfl), hl, ob, contains_eq l m (by omega) hN, ob]
theorem after_good {m : MvT} (hm : m ∈ l) : Q12 N r p m = some (doI r p m, 0) := by
 unfold Q12 Q12.e
 rw [legal_good hN hr hp hl hg, ob, bif_f (by rfl), bif_f (by simp [hm]), do_eq hr hp N (cand_ok hr hp ((hg.mem m).1 hm)), ob]
end
end Go.Proofs.Ytnddjmhpofhfjaa.Am
