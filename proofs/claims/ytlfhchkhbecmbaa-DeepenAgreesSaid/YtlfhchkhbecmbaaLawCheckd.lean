/- Plain: the score of a result, and a score one move nearer. -/
import Derived.Test.YtlfhchkhbecmbaaLawMoves0d
set_option linter.unusedVariables false
set_option linter.unusedSimpArgs false
set_option linter.unusedSectionVars false
namespace Go.Proofs.Ytlfhchkhbecmbaa.Am
open Go
theorem nearer_eq (N : Nat) {n : Int} (h : -10000 ≤ n ∧ n ≤ 10000) : Q38 N n = some (near n) := by
 unfold Q38 Q38.e near
 by_cases c : 0 < n
 ·rw [bif_t (ltI_t c), if_pos c, w64_id (by omega) (by omega)]
 ·rw [bif_f (ltI_f (by omega)), if_neg c]
  by_cases c2 : n < 0
  ·rw [bif_t (ltI_t c2), if_pos c2, w64_id (by omega) (by omega)]
  ·rw [bif_f (ltI_f (by omega)), if_neg c2]
theorem escore_eq (N : Nat) (x : Int) {t : Int} (ht : t = 0 ∨ t = 1) : Q56 N x t = some (scoreV x t) := by
 have w : ∀ u : Int, 0 ≤ u ∧ u ≤ 1 → Q49 N u = some (1 + u) := fun u hu => by
  unfold Q49 Q49.e
  rw [w64_id (by omega) (by omega)]
 unfold Q56 Q56.e scoreV
 rw [w t (by omega), ob, w64_id (x := 1 - t) (by omega) (by omega), w (1 - t) (by omega), ob]
 by_cases c : x = 1 + t
 ·rw [bif_t (eqI_t c), if_pos c]
 ·rw [bif_f (eqI_f c), if_neg c, show 1 + (1 - t) = 2 - t by omega]
  by_cases c2 : x = 2 - t
  ·rw [bif_t (eqI_t c2), if_pos c2]
  ·rw [bif_f (eqI_f c2), if_neg c2]
end Go.Proofs.Ytlfhchkhbecmbaa.Am
set_option linter.unusedVariables false
set_option linter.unusedSimpArgs false
set_option linter.unusedSectionVars false
namespace Go.Proofs.Ytlfhchkhbecmbaa.Am
open Go
def vl0 (N : Nat) (self : BoardT → Int → Option (Int × BoardT)) (b0 : BoardT) (depth : Int) (n : Nat) (best len j : Int) (b : BoardT) (ms : List MvT) : Option (Int × BoardT) :=
 Q41.l0 N self b0 depth n best len j b.1.1 b.1.2.1 b.1.2.2.1 b.1.2.2.2.2.2.1 b.1.2.2.2.2.2.2.1 b.1.2.2.2.2.2.2.2.2.1 b.1.2.2.2.2.2.2.2.2.2.1 b.1.2.2.2.2.2.2.2.2.2.2 b.2.1.2.2.1 b.2.1.2.2.2 b.2.2.1 ms b.1.2.2.2.1 b.1.2.2.2.2.1 b.1.2.2.2.2.2.2.2.1 b.2.1.1 b.2.1.2.1.1 b.2.1.2.1.2 b.2.2.2
theorem vl0_s (N : Nat) (self : BoardT → Int → Option (Int × BoardT)) (b0 : BoardT) (depth : Int) (n : Nat) (best len j : Int) (b : BoardT) (ms : List MvT) : vl0 N self b0 depth (n + 1) best len j b ms =
  bif ltI j len then (chk (leI 0 j && ltI j (ms.length : Int)) <|
   (Q37 N b (gD z0 ms j)).bind fun y5 =>
   (self y5 (w64 (depth - 1))).bind fun y6 =>
   (Q38 N (w64 (0 - y6.1))).bind fun y7 =>
   (Q40 N y6.2).bind fun y9 =>
   vl0 N self b0 depth n (bif ltI best y7 then y7 else best) len (w64 (j + 1)) y9.2 ms)
  else some (best, b) := rfl
theorem value_e (N : Nat) (b : BoardT) (depth : Int) : Q41 (N + 1) b depth =
  (Q15 N b).bind fun y1 =>
  bif (!(eqI y1 0)) then ((Q57 N b).bind fun y2 =>
   (Q56 N y1 y2).bind fun y3 =>
   some (y3, b))
  else bif (eqI depth 0) then (some (0, b))
  else (Q36 N b).bind fun y4 =>
  vl0 N (Q41 N) b depth N (-1000) (y4.length : Int) 0 b y4 := rfl
theorem value_l0 {N : Nat} (self : BoardT → Int → Option (Int × BoardT)) (b0 : BoardT) (d : Nat) (hd : d ≤ 20) {b : BoardT} (hb : BOk b) (hl : b.2.2.2.length ≤ 100000) (ms : List MvT) (hms : ∀ m ∈ ms, MoveOk b.1 b.2.1 m) (hlen : ms.length ≤ 100000)
  (hself : ∀ m ∈ ms, self (makeB b m) (d : Int) = some (val b.1 d (doI b.1 b.2.1 m), makeB b m)) : ∀ (k j n : Nat) (best : Int), j + k = ms.length → k < n →
  vl0 N self b0 ((d + 1 : Nat) : Int) n best (ms.length : Int) (j : Int) b ms = some (foldMax best ((ms.drop j).map fun m => near (-(val b.1 d (doI b.1 b.2.1 m)))), b)
 | 0, j, n, best, hk, hn => by
  obtain ⟨n, rfl⟩ := nxt (n := n) (by omega)
  rw [vl0_s, bif_f (ltI_f (by omega)), List.drop_of_length_le (by omega)]
  rfl
 | k + 1, j, n, best, hk, hn => by
  obtain ⟨n, rfl⟩ := nxt (n := n) (by omega)
  have hj : j < ms.length := by omega
  have hmem : ms[j] ∈ ms := List.getElem_mem _
  have hmo := hms _ hmem
  have hv := val_bound hb.r d (by omega) (do_ok hb.r hb.p hmo)
  rw [vl0_s, bif_t (ltI_t (by omega)), chk_of (idx_ok hj), gD_nat hj, make_eq hb hl hmo, ob, w64_id (x := ((d + 1 : Nat) : Int) - 1) (by omega) (by omega), show ((d + 1 : Nat) : Int) - 1 = (d : Int) by omega, hself _ hmem, ob]
  dsimp only
  rw [w64_id (x := 0 - val b.1 d (doI b.1 b.2.1 ms[j])) (by omega) (by omega), nearer_eq N (by omega), ob, undo_make hb hl hmo, ob, w64_id (by omega) (by omega), show ((j : Int) + 1) = ((j + 1 : Nat) : Int) by omega, show 0 - val b.1 d (doI b.1 b.2.1 ms[j]) = -(val b.1 d (doI b.1 b.2.1 ms[j])) by omega]
  rw [value_l0 self b0 d hd hb hl ms hms hlen hself k (j + 1) n _ (by omega) (by omega), List.drop_eq_getElem_cons hj]
  rfl
theorem value_ok : ∀ (d N : Nat), 200000000 + d < N → d ≤ 20 → ∀ {b : BoardT}, BOk b → b.2.2.2.length + d ≤ 100000 → Q41 N b (d : Int) = some (val b.1 d b.2.1, b)
 | d, N, hN, hd, b, hb, hl => by
  obtain ⟨N, rfl⟩ := nxt (n := N) (by omega)
  have ht := hb.p.last.1
  rw [value_e, bresult_eq (by omega) hb, ob]
  by_cases h : resV b.1 b.2.1 = 0
  ·rw [bif_f (by rw [eqI_t h]; rfl)]
   cases d with
   | zero =>
    rw [bif_t (by rfl)]
    unfold val
    rw [if_neg (by simp [h])]
   | succ d =>
    obtain ⟨l, hl1, _, hl2⟩ := bmoves_ret (N := N) (by omega) hb
    have hg := hl2 h
    have hgl := hg.len
    rw [bif_f (eqI_f (by omega)), hl1, ob]
    have := value_l0 (N := N) (Q41 N) b d (by omega) hb (by omega) l (fun m hm => cand_ok hb.r hb.p ((hg.mem m).1 hm)) (by omega) (fun m hm => by
     have hmo := cand_ok hb.r hb.p ((hg.mem m).1 hm)
     exact value_ok d N (by omega) (by omega) (make_ok hb (by omega) hmo) (by
      show (b.2.2.2 ++ [undoI b m]).length + d ≤ 100000
      rw [List.length_append]
      simp only [List.length_singleton]
      omega)) l.length 0 N (-1000) (by omega) (by omega)
    rw [List.drop_zero, show ((0 : Nat) : Int) = 0 from rfl] at this
    rw [this, val_open hb.r h]
    congr 2
    apply foldMax_ext
    intro x
    simp only [List.mem_map]
    constructor
    ·rintro ⟨m, hm, rfl⟩; exact ⟨m, (hg.mem m).1 hm, rfl⟩
    ·rintro ⟨m, hm, rfl⟩; exact ⟨m, (hg.mem m).2 hm, rfl⟩
  ·rw [bif_t (by rw [eqI_f h]; rfl), val_over hb.r h]
   show (some b.2.1.2.2.1).bind _ = _
   rw [ob, escore_eq N _ ht, ob]
end Go.Proofs.Ytlfhchkhbecmbaa.Am
set_option linter.unusedVariables false
set_option linter.unusedSimpArgs false
set_option linter.unusedSectionVars false
namespace Go.Proofs.Ytlfhchkhbecmbaa.Am
open Go
def tl0 (N : Nat) (self : Int → BoardT → Int → Option (Int × Int × BoardT)) (c0 : Int) (b0 : BoardT) (depth : Int) (n : Nat) (nn len j c : Int) (b : BoardT) (ms : List MvT) : Option (Int × Int × BoardT) :=
 Q24.l0 N self c0 b0 depth n nn len j c b.1.1 b.1.2.1 b.1.2.2.1 b.1.2.2.2.2.2.1 b.1.2.2.2.2.2.2.1 b.1.2.2.2.2.2.2.2.2.1 b.1.2.2.2.2.2.2.2.2.2.1 b.1.2.2.2.2.2.2.2.2.2.2 b.2.1.2.2.1 b.2.1.2.2.2 b.2.2.1 ms b.1.2.2.2.1 b.1.2.2.2.2.1 b.1.2.2.2.2.2.2.2.1 b.2.1.1 b.2.1.2.1.1 b.2.1.2.1.2 b.2.2.2
theorem tl0_s (N : Nat) (self : Int → BoardT → Int → Option (Int × Int × BoardT)) (c0 : Int) (b0 : BoardT) (depth : Int) (n : Nat) (nn len j c : Int) (b : BoardT) (ms : List MvT) : tl0 N self c0 b0 depth (n + 1) nn len j c b ms =
  bif ltI j len then (chk (leI 0 j && ltI j (ms.length : Int)) <|
   (Q37 N b (gD z0 ms j)).bind fun y2 =>
   (self c y2 (w64 (depth - 1))).bind fun y3 =>
   (Q40 N y3.2.2).bind fun y4 =>
   bif (ltI y3.2.1 0) then (some (0, (y3.2.1, y4.2)))
   else tl0 N self c0 b0 depth n (w64 (nn + y3.1)) len (w64 (j + 1)) y3.2.1 y4.2 ms)
  else some (nn, (c, b)) := rfl
theorem count_e (N : Nat) (c : Int) (b : BoardT) (depth : Int) : Q24 (N + 1) c b depth =
  bif (ltI (w64 (c - 1)) 0) then (some (1, ((w64 (c - 1)), b)))
  else bif (eqI depth 0) then (some (1, ((w64 (c - 1)), b)))
  else (Q36 N b).bind fun y1 =>
  tl0 N (Q24 N) c b depth N 0 (y1.length : Int) 0 (w64 (c - 1)) b y1 := rfl
abbrev CQ (b : BoardT) (z : Int × Int × BoardT) : Prop := z.2.2 = b ∧ -1 ≤ z.2.1 ∧ z.2.1 ≤ 50000
theorem count_l0 {N : Nat} (self : Int → BoardT → Int → Option (Int × Int × BoardT)) (c0 : Int) (b0 : BoardT) (d : Nat) (hd : d ≤ 20) {b : BoardT} (hb : BOk b) (hl : b.2.2.2.length ≤ 100000) (ms : List MvT) (hms : ∀ m ∈ ms, MoveOk b.1 b.2.1 m) (hlen : ms.length ≤ 100000)
  (hself : ∀ m ∈ ms, ∀ c : Int, 0 ≤ c → c ≤ 50000 → Ret (self c (makeB b m) (d : Int)) (CQ (makeB b m))) : ∀ (k j n : Nat) (nn c : Int), j + k = ms.length → k < n → 0 ≤ c → c ≤ 50000 →
  Ret (tl0 N self c0 b0 ((d + 1 : Nat) : Int) n nn (ms.length : Int) (j : Int) c b ms) (CQ b)
 | 0, j, n, nn, c, hk, hn, h0, h1 => by
  obtain ⟨n, rfl⟩ := nxt (n := n) (by omega)
  rw [tl0_s, bif_f (ltI_f (by omega))]
  exact Ret.ret ⟨rfl, by dsimp only; omega, h1⟩
 | k + 1, j, n, nn, c, hk, hn, h0, h1 => by
  obtain ⟨n, rfl⟩ := nxt (n := n) (by omega)
  have hj : j < ms.length := by omega
  have hmem : ms[j] ∈ ms := List.getElem_mem _
  have hmo := hms _ hmem
  rw [tl0_s, bif_t (ltI_t (by omega)), chk_of (idx_ok hj), gD_nat hj, make_eq hb hl hmo, ob, w64_id (x := ((d + 1 : Nat) : Int) - 1) (by omega) (by omega), show ((d + 1 : Nat) : Int) - 1 = (d : Int) by omega]
  refine Ret.bnd (hself _ hmem c h0 h1) fun z hz => ?_
  rw [hz.1, undo_make hb hl hmo, ob, w64_id (x := (j : Int) + 1) (by omega) (by omega), show ((j : Int) + 1) = ((j + 1 : Nat) : Int) by omega]
  refine Ret.bif (fun c' => Ret.ret ⟨rfl, hz.2⟩) (fun c' => ?_)
  rw [ltI_iff'] at c'
  exact count_l0 self c0 b0 d hd hb hl ms hms hlen hself k (j + 1) n _ _ (by omega) (by omega) c' hz.2.2
theorem count_ret : ∀ (d N : Nat), 200000000 + d < N → d ≤ 20 → ∀ {b : BoardT}, BOk b → b.2.2.2.length + d ≤ 100000 → ∀ c : Int, 0 ≤ c → c ≤ 50000 → Ret (Q24 N c b (d : Int)) (CQ b)
 | d, N, hN, hd, b, hb, hl, c, h0, h1 => by
  obtain ⟨N, rfl⟩ := nxt (n := N) (by omega)
  rw [count_e, w64_id (x := c - 1) (by omega) (by omega)]
  refine Ret.bif (fun _ => Ret.ret ⟨rfl, by dsimp only; omega, by dsimp only; omega⟩) (fun hc => ?_)
  rw [ltI_iff'] at hc
  cases d with
  | zero => rw [bif_t (by rfl)]; exact Ret.ret ⟨rfl, by dsimp only; omega, by dsimp only; omega⟩
  | succ d =>
   rw [bif_f (eqI_f (by omega))]
   refine Ret.bnd (bmoves_ret (N := N) (by omega) hb) fun l hl2 => ?_
   by_cases h : resV b.1 b.2.1 = 0
   ·have hg := hl2.2 h
    have hgl := hg.len
    have := count_l0 (N := N) (Q24 N) c b d (by omega) hb (by omega) l (fun m hm => cand_ok hb.r hb.p ((hg.mem m).1 hm)) (by omega) (fun m hm c' h0' h1' => by
     have hmo := cand_ok hb.r hb.p ((hg.mem m).1 hm)
     exact count_ret d N (by omega) (by omega) (make_ok hb (by omega) hmo) (by
      show (b.2.2.2 ++ [undoI b m]).length + d ≤ 100000
      rw [List.length_append]
      simp only [List.length_singleton]
      omega) c' h0' h1') l.length 0 N 0 (c - 1) (by omega) (by omega) hc (by omega)
    exact this
   ·rw [hl2.1 h]
    obtain ⟨N', rfl⟩ := nxt (n := N) (by omega)
    rw [tl0_s, bif_f (by rfl)]
    exact Ret.ret ⟨rfl, by dsimp only; omega, by dsimp only; omega⟩
section
variable {N : Nat} (hN : 200000100 ≤ N) (r : RulesT) (p : PosT) (depth : Int)
include hN
theorem tree_ret : Ret (Q12 N r p depth) fun z => (z.2 ≠ 0 ∧ z.1 = 0) ∨ (z.2 = 0 ∧ ROk r ∧ POk r p ∧ 0 ≤ depth ∧ depth ≤ 12) := by
 obtain ⟨v, hv, hv0⟩ := pcheck (N := N) (by omega) r p
 unfold Q12 Q12.e Q23 Q23.e
 by_cases h0 : v = 0
 ·obtain ⟨hr, hp⟩ := hv0.1 h0
  rw [new_good (by omega) hr hp, ob]
  show Ret (((bif (!(eqI 0 0)) then some ((none : Option BoardT), (0 : Int)) else bif ltI depth 0 then some (none, 1) else bif ltI 12 depth then some (none, 1) else some (some (r, (p, (U (keyS p), []))), 0)) : Option (Option BoardT × Int)).bind _) _
  rw [bif_f (by rfl)]
  by_cases c1 : depth < 0
  ·rw [bif_t (ltI_t c1), ob]
   exact Ret.ret (Or.inl ⟨by decide, rfl⟩)
  ·rw [bif_f (ltI_f (by omega))]
   by_cases c2 : 12 < depth
   ·rw [bif_t (ltI_t c2), ob]
    exact Ret.ret (Or.inl ⟨by decide, rfl⟩)
   ·rw [bif_f (ltI_f (by omega)), ob]
    show Ret (bif (!(eqI 0 0)) then (some (0, 0)) else (Q24 N 50000 (r, (p, (U (keyS p), []))) depth).bind _) _
    rw [bif_f (by rfl)]
    obtain ⟨d, rfl⟩ : ∃ d : Nat, depth = d := ⟨depth.toNat, by omega⟩
    refine Ret.bnd (count_ret d N (by omega) (by omega) (b := (r, (p, (U (keyS p), [])))) ⟨hr, hp, rfl⟩ (by simp; omega) 50000 (by omega) (by omega)) fun z hz => ?_
    refine Ret.bif (fun _ => Ret.ret (Or.inl ⟨by dsimp only; omega, rfl⟩)) (fun _ => Ret.ret (Or.inr ⟨rfl, hr, hp, by omega, by omega⟩))
 ·rw [new_bad hv h0, ob]
  show Ret (((bif (!(eqI v 0)) then some ((none : Option BoardT), v) else _) : Option (Option BoardT × Int)).bind _) _
  rw [bif_t (by rw [eqI_f h0]; rfl), ob]
  show Ret (bif (!(eqI v 0)) then (some (0, v)) else none) _
  rw [bif_t (by rw [eqI_f h0]; rfl)]
  exact Ret.ret (Or.inl ⟨h0, rfl⟩)
theorem heavy_ret : Ret (Q10 N r p depth) fun _ => True := by
 unfold Q10 Q10.e
 refine Ret.bnd (tree_ret hN r p depth) fun z _ => ?_
 refine Ret.bif (fun _ => Ret.ret trivial) (fun _ => Ret.bif (fun _ => Ret.ret trivial) (fun _ => Ret.ret trivial))
end
end Go.Proofs.Ytlfhchkhbecmbaa.Am
set_option linter.unusedVariables false
set_option linter.unusedSimpArgs false
set_option linter.unusedSectionVars false
namespace Go.Proofs.Ytlfhchkhbecmbaa.Am
open Go
section
variable {N : Nat} (hN : 200000100 ≤ N) (r : RulesT) (p : PosT) (depth : Int)
include hN
end
end Go.Proofs.Ytlfhchkhbecmbaa.Am
set_option linter.unusedVariables false
set_option linter.unusedSimpArgs false
set_option linter.unusedSectionVars false
namespace Go.Proofs.Ytlfhchkhbecmbaa.Am
open Go
section
variable {N : Nat} (hN : 200000100 ≤ N) (r : RulesT) (p : PosT) (depth : Int)
include hN
end
end Go.Proofs.Ytlfhchkhbecmbaa.Am
