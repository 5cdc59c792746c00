/- Plain: counting the tree of a game ends. -/
import Derived.Test.YtpielijehhhobaaLawMoves0f
set_option linter.unusedVariables false
set_option linter.unusedSimpArgs false
set_option linter.unusedSectionVars false
namespace Go.Proofs.Ytpielijehhhobaa.Am
open Go
def tl0 (N : Nat) (self : Int → BoardT → Int → Option (Int × Int × BoardT)) (c0 : Int) (b0 : BoardT) (depth : Int) (n : Nat) (nn len j c : Int) (b : BoardT) (ms : List MvT) : Option (Int × Int × BoardT) :=
 Q70.l0 N self c0 b0 depth n nn len j c b.1.1 b.1.2.1 b.1.2.2.1 b.1.2.2.2.2.2.1 b.1.2.2.2.2.2.2.1 b.1.2.2.2.2.2.2.2.2.1 b.1.2.2.2.2.2.2.2.2.2.1 b.1.2.2.2.2.2.2.2.2.2.2 b.2.1.2.2.1 b.2.1.2.2.2 b.2.2.1 ms b.1.2.2.2.1 b.1.2.2.2.2.1 b.1.2.2.2.2.2.2.2.1 b.2.1.1 b.2.1.2.1.1 b.2.1.2.1.2 b.2.2.2
theorem tl0_s (N : Nat) (self : Int → BoardT → Int → Option (Int × Int × BoardT)) (c0 : Int) (b0 : BoardT) (depth : Int) (n : Nat) (nn len j c : Int) (b : BoardT) (ms : List MvT) : tl0 N self c0 b0 depth (n + 1) nn len j c b ms =
  bif ltI j len then (chk (leI 0 j && ltI j (ms.length : Int)) <|
   (Q50 N b (gD z0 ms j)).bind fun y2 =>
   (self c y2 (w64 (depth - 1))).bind fun y3 =>
   (Q51 N y3.2.2).bind fun y4 =>
   bif (ltI y3.2.1 0) then (some (0, (y3.2.1, y4.2)))
   else tl0 N self c0 b0 depth n (w64 (nn + y3.1)) len (w64 (j + 1)) y3.2.1 y4.2 ms)
  else some (nn, (c, b)) := rfl
theorem count_e (N : Nat) (c : Int) (b : BoardT) (depth : Int) : Q70 (N + 1) c b depth =
  bif (ltI (w64 (c - 1)) 0) then (some (1, ((w64 (c - 1)), b)))
  else bif (eqI depth 0) then (some (1, ((w64 (c - 1)), b)))
  else (Q34 N b).bind fun y1 =>
  tl0 N (Q70 N) c b depth N 0 (y1.length : Int) 0 (w64 (c - 1)) b y1 := rfl
abbrev CQ (b : BoardT) (z : Int × Int × BoardT) : Prop := z.2.2 = b ∧ -1 ≤ z.2.1 ∧ z.2.1 ≤ 50000
theorem count_l0 {N : Nat} (self : Int → BoardT → Int → Option (Int × Int × BoardT)) (c0 : Int) (b0 : BoardT) (d : Nat) (hd : d ≤ 20) {b : BoardT} (hb : BOk b) (hl : b.2.2.2.length ≤ 100000) (ms : List MvT) (hms : ∀ m ∈ ms, MoveOk b.1 b.2.1 m) (hlen : ms.length ≤ 100000)
  (hself : ∀ m ∈ ms, ∀ c : Int, 0 ≤ c → c ≤ 50000 → Ret (self c (makeB b m) (d : Int)) (CQ (makeB b m))) : ∀ (k j n : Nat) (nn c : Int), j + k = ms.length → k < n → 0 ≤ c → c ≤ 50000 →
  Ret (tl0 N self c0 b0 ((d + 1 : Nat) : Int) n nn (ms.length : Int) (j : Int) c b ms) (CQ b)
 | 0, j, n, nn, c, hk, hn, h0, h1 => by
  obtain ⟨n, rfl⟩ := nxt (n := n) (by omega)
  rw [tl0_s, bif_f (ltI_f (by omega))]
  exact Ret.ret ⟨rfl, by dsimp only; omega, h1⟩
 | k + 1, j, n, nn, c, hk, hn, h0, h1 => by
  obtain ⟨n, rfl⟩ := nxt (n := n) (by omega)
  have hj : j < ms.length := by omega
  have hmem : ms[j] ∈ ms := List.getElem_mem _
  have hmo := hms _ hmem
  rw [tl0_s, bif_t (ltI_t (by omega)), chk_of (idx_ok hj), gD_nat hj, make_eq hb hl hmo, Option.bind_some, w64_id (x := ((d + 1 : Nat) : Int) - 1) (by omega) (by omega), show ((d + 1 : Nat) : Int) - 1 = (d : Int) by omega]
  refine Ret.bnd (hself _ hmem c h0 h1) fun z hz => ?_
  rw [hz.1, undo_make hb hl hmo, Option.bind_some, w64_id (x := (j : Int) + 1) (by omega) (by omega), show ((j : Int) + 1) = ((j + 1 : Nat) : Int) by omega]
  refine Ret.bif (fun c' => Ret.ret ⟨rfl, hz.2⟩) (fun c' => ?_)
  rw [ltI_iff'] at c'
  exact count_l0 self c0 b0 d hd hb hl ms hms hlen hself k (j + 1) n _ _ (by omega) (by omega) c' hz.2.2
theorem count_ret : ∀ (d N : Nat), 200000000 + d < N → d ≤ 20 → ∀ {b : BoardT}, BOk b → b.2.2.2.length + d ≤ 100000 → ∀ c : Int, 0 ≤ c → c ≤ 50000 → Ret (Q70 N c b (d : Int)) (CQ b)
 | d, N, hN, hd, b, hb, hl, c, h0, h1 => by
  obtain ⟨N, rfl⟩ := nxt (n := N) (by omega)
  rw [count_e, w64_id (x := c - 1) (by omega) (by omega)]
  refine Ret.bif (fun _ => Ret.ret ⟨rfl, by dsimp only; omega, by dsimp only; omega⟩) (fun hc => ?_)
  rw [ltI_iff'] at hc
  cases d with
  | zero => rw [bif_t (by rfl)]; exact Ret.ret ⟨rfl, by dsimp only; omega, by dsimp only; omega⟩
  | succ d =>
   rw [bif_f (eqI_f (by omega))]
   refine Ret.bnd (bmoves_ret (N := N) (by omega) hb) fun l hl2 => ?_
   by_cases h : resV b.1 b.2.1 = 0
   ·have hg := hl2.2 h
    have hgl := hg.len
    have := count_l0 (N := N) (Q70 N) c b d (by omega) hb (by omega) l (fun m hm => cand_ok hb.r hb.p ((hg.mem m).1 hm)) (by omega) (fun m hm c' h0' h1' => by
     have hmo := cand_ok hb.r hb.p ((hg.mem m).1 hm)
     exact count_ret d N (by omega) (by omega) (make_ok hb (by omega) hmo) (by
      show (b.2.2.2 ++ [undoI b m]).length + d ≤ 100000
      rw [List.length_append]
      simp only [List.length_singleton]
      omega) c' h0' h1') l.length 0 N 0 (c - 1) (by omega) (by omega) hc (by omega)
    exact this
   ·rw [hl2.1 h]
    obtain ⟨N', rfl⟩ := nxt (n := N) (by omega)
    rw [tl0_s, bif_f (by rfl)]
    exact Ret.ret ⟨rfl, by dsimp only; omega, by dsimp only; omega⟩
section
variable {N : Nat} (hN : 200000100 ≤ N) (r : RulesT) (p : PosT) (depth : Int)
include hN
theorem tree_ret : Ret (Q40 N r p depth) fun z => (z.2 ≠ 0 ∧ z.1 = 0) ∨ (z.2 = 0 ∧ ROk r ∧ POk r p ∧ 0 ≤ depth ∧ depth ≤ 12) := by
 obtain ⟨v, hv, hv0⟩ := pcheck (N := N) (by omega) r p
 unfold Q40 Q40.e Q69 Q69.e
 by_cases h0 : v = 0
 ·obtain ⟨hr, hp⟩ := hv0.1 h0
  rw [new_good (by omega) hr hp, Option.bind_some]
  show Ret (((bif (!(eqI 0 0)) then some ((none : Option BoardT), (0 : Int)) else bif ltI depth 0 then some (none, 1) else bif ltI 12 depth then some (none, 1) else some (some (r, (p, (U (keyS p), []))), 0)) : Option (Option BoardT × Int)).bind _) _
  rw [bif_f (by rfl)]
  by_cases c1 : depth < 0
  ·rw [bif_t (ltI_t c1), Option.bind_some]
   exact Ret.ret (Or.inl ⟨by decide, rfl⟩)
  ·rw [bif_f (ltI_f (by omega))]
   by_cases c2 : 12 < depth
   ·rw [bif_t (ltI_t c2), Option.bind_some]
    exact Ret.ret (Or.inl ⟨by decide, rfl⟩)
   ·rw [bif_f (ltI_f (by omega)), Option.bind_some]
    show Ret (bif (!(eqI 0 0)) then (some (0, 0)) else (Q70 N 50000 (r, (p, (U (keyS p), []))) depth).bind _) _
    rw [bif_f (by rfl)]
    obtain ⟨d, rfl⟩ : ∃ d : Nat, depth = d := ⟨depth.toNat, by omega⟩
    refine Ret.bnd (count_ret d N (by omega) (by omega) (b := (r, (p, (U (keyS p), [])))) ⟨hr, hp, rfl⟩ (by simp; omega) 50000 (by omega) (by omega)) fun z hz => ?_
    refine Ret.bif (fun _ => Ret.ret (Or.inl ⟨by dsimp only; omega, rfl⟩)) (fun _ => Ret.ret (Or.inr ⟨rfl, hr, hp, by omega, by omega⟩))
 ·rw [new_bad hv h0, Option.bind_some]
  show Ret (((bif (!(eqI v 0)) then some ((none : Option BoardT), v) else _) : Option (Option BoardT × Int)).bind _) _
  rw [bif_t (by rw [eqI_f h0]; rfl), Option.bind_some]
  show Ret (bif (!(eqI v 0)) then (some (0, v)) else none) _
  rw [bif_t (by rw [eqI_f h0]; rfl)]
  exact Ret.ret (Or.inl ⟨h0, rfl⟩)
theorem heavy_ret : Ret (Q19 N r p depth) fun _ => True := by
 unfold Q19 Q19.e
 refine Ret.bnd (tree_ret hN r p depth) fun z _ => ?_
 refine Ret.bif (fun _ => Ret.ret trivial) (fun _ => Ret.bif (fun _ => Ret.ret trivial) (fun _ => Ret.ret trivial))
end
end Go.Proofs.Ytpielijehhhobaa.Am
