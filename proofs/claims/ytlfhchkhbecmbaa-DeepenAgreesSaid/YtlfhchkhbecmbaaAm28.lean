/- slices.Delete and slices.Insert at rows of moves, by hand. By an AI agent. -/
import Derived.Test.YtlfhchkhbecmbaaAm27
import Derived.Test.YtlfhchkhbecmbaaAm17
set_option linter.unusedVariables false
set_option linter.unusedSimpArgs false
namespace Go.Proofs.Ytlfhchkhbecmbaa.Am
open Go
abbrev tMv : Ty := .prod (.int .i64) (.prod (.int .i64) (.int .i64))
abbrev DMv := Int × (Int × Int)
theorem RTL.drop' {w : World} {F : FS} {t : Ty} {xs : List t.den} {l : List Value} (h : RTL w F t xs l) : ∀ n, RTL w F t (xs.drop n) (l.drop (n * t.size)) := by
 induction h with
 | nil => intro n; simp; exact .nil
 | @cons y ys l r h h2 ih =>
  intro n
  have hl := RT.len t h
  cases n with
  | zero => simpa using RTL.cons h h2
  | succ n =>
   have e : (n + 1) * t.size = l.length + n * t.size := by rw [hl, Nat.add_mul]; omega
   rw [e, dropA, List.drop_succ_cons]
   exact ih n
structure RowPost (w : World) (F : FS) (us : List Value) (ys : List DMv) (e : Ending) (w' : World) : Prop where
 ex : ∃ u cs, e = .returned u ∧ w'.ownsRow 0 31 3 u ys.length cs ∧ RTL w' F tMv ys cs ∧ (∀ b, b ∈ blk u → (∃ v ∈ us, b ∈ blk v) ∨ w.heap.size ≤ b) ∧ (∀ b, b ∈ blk u → b < w'.heap.size)
 os : w'.os = w.os
 tape : w'.tape = w.tape
 output : w'.output = w.output
 size : w.heap.size ≤ w'.heap.size
 keep : ∀ b, b < w.heap.size → (∀ u ∈ us, b ∉ blk u) → w'.heap[b]? = w.heap[b]?
theorem row_post {w : World} {F : FS} {us : List Value} {ys : List DMv} {e : Ending} {w' : World} (hb : Bag w (fun _ => .nilFunc) F [] us) (h : RowPost w F us ys e w') :
  ∃ u rvs u1, e = .returned u ∧ ValS [(false, 1)] u rvs ∧ HR w' F (.prod (.own 31 tMv) .unit) (ys, ()) rvs u1 ∧ Bag w' (fun _ => .nilFunc) F [] (u1 ++ []) ∧ Turn w F us w' F (u1 ++ []) := by
 obtain ⟨⟨u, cs, h1, h2, h3, h4, h5⟩, o1, o2, o3, o4, o5⟩ := h
 refine ⟨u, [u], [u], h1, .inl ⟨false, 1, rfl, (fun h => by cases h), (fun _ => rfl), rfl⟩, ⟨[u], [], [u], [], rfl, rfl, ⟨u, rfl, rfl, cs, h2, h3⟩, rfl, rfl⟩, ?_, ?_⟩
 ·rw [List.append_nil]
  refine ⟨⟨fun n o h => by simp at h, fun n k b hn => by obtain ⟨o, h, _⟩ := hn; simp at h, fun n b hn => by obtain ⟨o, h, _⟩ := hn; simp at h, fun b hF => Nat.lt_of_lt_of_le (hb.mr.lt b hF) o4⟩, List.pairwise_singleton _ _, ?_, fun n u b hn => by obtain ⟨o, h, _⟩ := hn; simp at h, ?_⟩
  ·intro v hv b hbv hF
   simp only [List.mem_singleton] at hv
   subst hv
   rcases h4 b hbv with ⟨x, hx, hx2⟩ | h
   ·exact hb.sep x hx b hx2 hF
   ·have := hb.mr.lt b hF; omega
  ·intro v hv b hbv
   simp only [List.mem_singleton] at hv
   subst hv
   exact h5 b hbv
 ·rw [List.append_nil]
  refine ⟨o1, o2, o3, o4, o5, .refl F, fun b h => .inl h, fun v hv b hbv => ?_⟩
  simp only [List.mem_singleton] at hv
  subst hv
  exact h4 b hbv
def slices_Delete (N : Nat) (l : List DMv) (i j : Int) : Option (List DMv) := bif leI 0 i && (leI i j && leI j (l.length : Int)) then some (l.take i.toNat ++ l.drop j.toNat) else none
def slices_Delete.D (N : Nat) : DFn := ⟨[.o (.own 31 tMv) false, .d false (.int .i64), .d false (.int .i64)], [(false, .own 31 tMv)], List DMv, fun x => slices_Delete N x.1 x.2.1 x.2.2.1, fun r o => r.1, fun b => (b, ()), fun b => (), none⟩
theorem slices_Delete.fit (N : Nat) : (slices_Delete.D N).Fit := ⟨fun _ _ => rfl, fun _ _ => rfl, by kernel_rfl, (fun _ _ h => nomatch h), by kernel_rfl⟩
set_option maxHeartbeats 4000000
set_option maxRecDepth 100000
theorem del_nil (w : World) : Calls Try.prog 35 #[.slice none 0 0, .int .i64 0, .int .i64 0] w fun e w' => e = .returned (.slice none 0 0) ∧ w' = w := by
 go_enter Try.func35, Try.ntmps35
 go_wp2
 all_goals (go_ret; exact ⟨rfl, rfl⟩)
theorem row_block {w : World} {v : Value} {n : Nat} {cs : List Value} (h : w.ownsRow 0 31 3 v n cs) : ∀ b, b ∈ blk v → b < w.heap.size := by
 intro b hb
 rcases h.2 with ⟨rfl, _⟩ | ⟨g, cap, cur, rfl, _, hg, _⟩
 ·simp [blk, blk1] at hb
 ·simp [blk, blk1] at hb
  subst hb
  exact (Array.getElem?_eq_some_iff.1 hg).1
theorem del_core {w : World} {F : FS} {v : Value} {cs : List Value} {l : List DMv} {i j : Int} {y : List DMv} (hb : Bag w (fun _ => .nilFunc) F [] [v]) (hown : w.ownsRow 0 31 3 v l.length cs) (hrt : RTL w F tMv l cs)
  (hy : (bif leI 0 i && (leI i j && leI j (l.length : Int)) then some (l.take i.toNat ++ l.drop j.toNat) else none) = some y) : Calls Try.prog 35 #[v, .int .i64 i, .int .i64 j] w (RowPost w F [v] y) := by
 have hcond : 0 ≤ i ∧ i ≤ j ∧ j ≤ l.length := by
  cases hc : (leI 0 i && (leI i j && leI j (l.length : Int))) with
  | false => rw [hc] at hy; cases hy
  | true => simpa [leI, and_assoc] using hc
 obtain ⟨i0, ij, jl⟩ := hcond
 have hyy : y = l.take i.toNat ++ l.drop j.toNat := by
  have : (leI 0 i && (leI i j && leI j (l.length : Int))) = true := by simp [leI]; omega
  rw [this] at hy
  exact (Option.some.inj hy).symm
 obtain ⟨i, rfl⟩ : ∃ t : Nat, i = t := ⟨i.toNat, by omega⟩
 obtain ⟨j, rfl⟩ : ∃ t : Nat, j = t := ⟨j.toNat, by omega⟩
 rcases hown.2 with ⟨rfl, hn⟩ | ⟨g, cap, cur, rfl, _, hgg, hcap, hmax, hsz, htk⟩
 ·obtain ⟨rfl, rfl⟩ : i = 0 ∧ j = 0 := by omega
  refine (del_nil w).mono ?_
  rintro e w' ⟨rfl, rfl⟩
  have : y = l := by rw [hyy]; simp
  subst this
  exact ⟨⟨_, cs, rfl, hown, hrt, fun b hb => .inl ⟨_, by simp, hb⟩, row_block hown⟩, rfl, rfl, rfl, Nat.le_refl _, fun _ _ _ => rfl⟩
 ·have hc63 : cap ≤ 9223372036854775807 := by unfold maxLen at hmax; omega
  refine (del_row g l.length cap i j w cur hgg hsz (by omega) (by omega) hcap hc63 (fun u hu => hrt.one u (by rw [← htk]; exact hu))).mono ?_
  rintro e w' ⟨rfl, o1, o2, o3, o4, o5, cur', hg', hsz', htk'⟩
  have hyl : y.length = l.length - (j - i) := by rw [hyy]; simp; omega
  have hgF : ¬ F g := hb.sep (.slice (some ⟨g, 0, none⟩) l.length cap) (by simp) g (by simp [blk, blk1])
  have hrt' : RTL w' F tMv y (cs.take (i * 3) ++ cs.drop (j * 3)) := by
   rw [hyy]
   exact RTL.mono (.refl F) (fun b hF => o5 b fun e => hgF (e ▸ hF)) (RTL.append (RTL.take hrt i) (RTL.drop' hrt j))
  refine ⟨⟨_, cs.take (i * 3) ++ cs.drop (j * 3), rfl, ⟨?_, .inr ⟨g, cap, cur', by rw [hyl], Nat.zero_le _, hg', by omega, hmax, hsz', ?_⟩⟩, hrt', fun b hb => .inl ⟨.slice (some ⟨g, 0, none⟩) l.length cap, by simp, by simpa [blk, blk1] using hb⟩, fun b hb => ?_⟩, o1, o2, o3, Nat.le_of_eq o4.symm, fun b _ hnb => o5 b fun e => hnb (.slice (some ⟨g, 0, none⟩) l.length cap) (by simp) (by simp [blk, blk1, e])⟩
  ·exact RTL.len hrt'
  ·rw [hyl, htk', htk]
  ·simp [blk, blk1] at hb
   subst hb
   exact (Array.getElem?_eq_some_iff.1 hg').1
theorem slices_Delete.ok (N : Nat) : FnOk Try.prog 35 (slices_Delete.D N) := by
 refine ⟨⟨Try.f35, Try.func35, by kernel_rfl, by kernel_rfl⟩, fun w F vals vs us x y hb hv hx hy hg => ?_⟩
 obtain ⟨l, i, j, xu⟩ := x
 obtain ⟨v1, v2, us1, us2, rfl, rfl, ⟨v, rfl, rfl, cs, hown, hrt⟩, ⟨w1, w2, us3, us4, rfl, rfl, ⟨g1, rfl⟩, ⟨w3, w4, us5, us6, rfl, rfl, ⟨g2, rfl⟩, rfl, rfl⟩⟩⟩ := hx
 have g1 : w1 = [.int .i64 i] := g1
 have g2 : w3 = [.int .i64 j] := g2
 subst g1 g2
 obtain ⟨vals⟩ := vals
 have hvals : vals = [v, .int .i64 i, .int .i64 j] := by
  cases hv with
  | own hr => cases hr with
   | one h1 hr => cases hr with
    | one h2 hr => cases hr; rfl
 subst hvals
 have hb : Bag w (fun _ => .nilFunc) F [] [v] := hb
 refine (del_core (l := l) (i := i) (j := j) (y := y) hb hown hrt hy).mono fun e w' he => ?_
 obtain ⟨u, rvs, u1, k1, k2, k3, k4, k5⟩ := row_post hb he
 exact ⟨u, F, rvs, u1, [], k1, k2, k3, ⟨rfl, rfl⟩, k4, k5, fun _ => ⟨rfl, rfl⟩, fun L hL => by cases hL⟩
def slices_Insert (N : Nat) (l : List DMv) (i : Int) (lv : List DMv) : Option (List DMv) := bif eqI i 0 && (eqI (lv.length : Int) 1 && leI (l.length : Int) 1000000) then some (lv ++ l) else none
def slices_Insert.D (N : Nat) : DFn := ⟨[.o (.own 31 tMv) false, .d false (.int .i64), .o (.own 31 tMv) false], [(false, .own 31 tMv)], List DMv, fun x => slices_Insert N x.1 x.2.1 x.2.2.1, fun r o => r.1, fun b => (b, ()), fun b => (), none⟩
theorem slices_Insert.fit (N : Nat) : (slices_Insert.D N).Fit := ⟨fun _ _ => rfl, fun _ _ => rfl, by kernel_rfl, (fun _ _ h => nomatch h), by kernel_rfl⟩
theorem ins_core {w : World} {F : FS} {v vv : Value} {cs cv : List Value} {l lv : List DMv} {i : Int} {y : List DMv} (hb : Bag w (fun _ => .nilFunc) F [] [v, vv]) (hown : w.ownsRow 0 31 3 v l.length cs) (hrt : RTL w F tMv l cs) (hownv : w.ownsRow 0 31 3 vv lv.length cv) (hrtv : RTL w F tMv lv cv)
  (hy : (bif eqI i 0 && (eqI (lv.length : Int) 1 && leI (l.length : Int) 1000000) then some (lv ++ l) else none) = some y) : Calls Try.prog 34 #[v, .int .i64 i, vv] w (RowPost w F [v, vv] y) := by
 have hcond : i = 0 ∧ lv.length = 1 ∧ l.length ≤ 1000000 := by
  cases hc : (eqI i 0 && (eqI (lv.length : Int) 1 && leI (l.length : Int) 1000000)) with
  | false => rw [hc] at hy; cases hy
  | true =>
   simp [leI, eqI, and_assoc] at hc
   omega
 obtain ⟨rfl, hv1, hl⟩ := hcond
 have hyy : y = lv ++ l := by
  have : (eqI 0 0 && (eqI (lv.length : Int) 1 && leI (l.length : Int) 1000000)) = true := by simp [leI, eqI]; omega
  rw [this] at hy
  exact (Option.some.inj hy).symm
 have hyl : y.length = l.length + 1 := by rw [hyy]; simp; omega
 have hvl : cv.length = 3 := by
  have h3 : cv.length = lv.length * 3 := RTL.len hrtv
  omega
 have hcl : cs.length = l.length * 3 := RTL.len hrt
 rcases hownv.2 with ⟨_, hn⟩ | ⟨vb, vc, vcur, rfl, _, hvg, hvcap, hvmax, hvsz, hvtk⟩
 ·omega
 rw [hv1] at hvcap hvtk hb ⊢
 have hvs : ∀ (j : Nat) (u : Value), cv[j]? = some u → w.cell? ⟨vb, j, none⟩ = some u := by
  intro j u hj
  rw [cell_of hvg, ← Array.getElem?_toList]
  rw [← hvtk, List.getElem?_take] at hj
  split at hj
  ·exact hj
  ·cases hj
 have hvbF : ¬ F vb := hb.sep (.slice (some ⟨vb, 0, none⟩) 1 vc) (by simp) vb (by simp [blk, blk1])
 have hvlt : vb < w.heap.size := (Array.getElem?_eq_some_iff.1 hvg).1
 by_cases hl0 : l.length = 0
 ·rw [hl0] at hown
  have hcs : cs = [] := List.length_eq_zero_iff.1 (by omega)
  subst hcs
  have hll : l = [] := List.length_eq_zero_iff.1 hl0
  refine (ins_empty v vb vc cv w hown hvl hvs hrtv.one).mono ?_
  rintro e w' ⟨v', rfl, ho, hg, hnb⟩
  have hob : ∀ k, v.ownBlock = some k ↔ k ∈ blk v := by
   intro k
   rcases hown.2 with ⟨rfl, _⟩ | ⟨g, cap, cur, rfl, _, hgg, _⟩
   ·simp [blk, blk1, Value.ownBlock]
   ·simp [blk, blk1, Value.ownBlock, eq_comm]
  have hob' : ∀ k, k ∈ blk v' → v'.ownBlock = some k := by
   intro k hk
   rcases ho.2 with ⟨rfl, _⟩ | ⟨g, cap, cur, rfl, _, hgg, _⟩
   ·simp [blk, blk1] at hk
   ·simp [blk, blk1] at hk
    simp [Value.ownBlock, hk]
  have hbF : ∀ k, v.ownBlock = some k → ¬ F k := fun k hk => hb.sep v (by simp) k ((hob k).1 hk)
  have hrt' : RTL w' F tMv y cv := by
   rw [hyy, hll, List.append_nil]
   exact RTL.mono (.refl F) (fun b hF => hg.block b (hb.mr.lt b hF) (fun e => hbF b e.symm hF)) hrtv
  refine ⟨⟨v', cv, rfl, by rw [hyl, hl0]; exact ho, hrt', fun b hbv => ?_, row_block ho⟩, hg.os, hg.tape, hg.output, hg.size, fun b hlt hnb => hg.block b hlt fun e => hnb v (by simp) ((hob b).1 e.symm)⟩
  have h1 := hob' b hbv
  rcases hnb with h | h
  ·exact .inl ⟨v, by simp, (hob b).1 (by rw [← h, h1])⟩
  ·rw [h1] at h
   exact .inr (Nat.le_of_eq (Option.some.inj h).symm)
 ·rcases hown.2 with ⟨_, hn⟩ | ⟨g, cap, cur, rfl, _, hgg, hcap, hmax, hsz, htk⟩
  ·exact absurd hn hl0
  have hgF : ¬ F g := hb.sep (.slice (some ⟨g, 0, none⟩) l.length cap) (by simp) g (by simp [blk, blk1])
  have hglt : g < w.heap.size := (Array.getElem?_eq_some_iff.1 hgg).1
  have hvg2 : vb ≠ g := by
   intro e
   have := hb.inj
   simp [blk, blk1] at this
   exact this e.symm
  have hcs : ∀ (j : Nat) (u : Value), cs[j]? = some u → w.cell? ⟨g, j, none⟩ = some u := by
   intro j u hj
   rw [cell_of hgg, ← Array.getElem?_toList]
   rw [← htk, List.getElem?_take] at hj
   split at hj
   ·exact hj
   ·cases hj
  have hc63 : cap ≤ 9223372036854775807 := by unfold maxLen at hmax; omega
  have hvsz3 : 3 ≤ vcur.size := by rw [hvsz]; omega
  have happ : RTL w F tMv y (cv ++ cs) := by rw [hyy]; exact RTL.append hrtv hrt
  by_cases hroom : l.length + 1 ≤ cap
  ·refine (ins_shift g l.length cap vb vc cs cv w (by omega) hroom hc63 hvg2 hcl hvl hcs (fun j hj => by rw [cell_of hgg, Array.getElem?_eq_getElem (by omega)]; rfl) (fun j => frozen_of hgg j) hvs hrt.one hrtv.one
    31 31 vcur.size cur.size (by simp [World.shape?, hvg]) (by simp [World.shape?, hgg]) (by omega) (frozen_of hvg _) (frozen_of hvg _)).mono ?_
   rintro e w' ⟨rfl, rfl⟩
   have hg0 : w.drew.heap[g]? = some (.cells cur 31 (0, 0)) := hgg
   have hg1 := heap_setCells g 31 (0, 0) cs 3 w.drew cur hg0
   have hg2 := heap_setCells g 31 (0, 0) cv 0 _ _ hg1
   obtain ⟨a1, a2, a3, a4⟩ := same_setCells g cs 3 w.drew
   obtain ⟨b1, b2, b3, b4⟩ := same_setCells g cv 0 (w.drew.setCells g 3 cs)
   have hoth : ∀ c, c ≠ g → ((w.drew.setCells g 3 cs).setCells g 0 cv).heap[c]? = w.heap[c]? := fun c hc => by rw [heap_setCells_ne g _ _ _ c hc, heap_setCells_ne g _ _ _ c hc]; rfl
   have hsz1 : (wr cur 3 cs).size = cap * 3 := by rw [wr_size, hsz]
   have hrt' := RTL.mono (w' := (w.drew.setCells g 3 cs).setCells g 0 cv) (.refl F) (fun b hF => hoth b fun e => hgF (e ▸ hF)) happ
   refine ⟨⟨_, cv ++ cs, rfl, ⟨?_, .inr ⟨g, cap, _, by rw [hyl], Nat.zero_le _, hg2, by omega, hmax, by rw [wr_size, hsz1], ?_⟩⟩, hrt', fun b hb => .inl ⟨.slice (some ⟨g, 0, none⟩) l.length cap, by simp, by simpa [blk, blk1] using hb⟩, fun b hb => ?_⟩,
    b1.trans a1, b2.trans a2, b3.trans a3, Nat.le_of_eq (b4.trans a4).symm, fun b _ hnb => hoth b fun e => hnb (.slice (some ⟨g, 0, none⟩) l.length cap) (by simp) (by simp [blk, blk1, e])⟩
   ·exact RTL.len hrt'
   ·refine List.ext_getElem? fun k => ?_
    rw [List.getElem?_take, List.getElem?_append, hyl, hvl]
    by_cases hk : k < (l.length + 1) * 3
    ·rw [if_pos hk, Array.getElem?_toList, wr_get cv _ _ _ (by omega), wr_get cs _ _ _ (by omega)]
     by_cases hk3 : k < 3
     ·rw [if_pos (by omega), if_pos hk3]; rfl
     ·rw [if_neg (by omega), if_pos (by omega), if_neg hk3]
    ·rw [if_neg hk, if_neg (by omega), List.getElem?_eq_none (by omega)]
   ·simp [blk, blk1] at hb
    subst hb
    exact (Array.getElem?_eq_some_iff.1 hg2).1
  ·obtain ⟨G, ROW, g1, g2, g3, hC⟩ := ins_grow g l.length cap vb vc cs cv w (by omega) hcap (by omega) (by omega) hglt hvlt hcl hvl hcs hvs hrt.one hrtv.one
   refine hC.mono ?_
   rintro e w' ⟨rfl, rfl⟩
   have hg0 : ((w.alloc (.cells ROW 31)).drew).heap[w.heap.size]? = some (.cells ROW 31 (0, 0)) := heap_alloc_new w _
   have hg1 := heap_setCells w.heap.size 31 (0, 0) cv 0 _ _ hg0
   have hg1' : ((w.alloc (.cells ROW 31)).drew.setCells w.heap.size 0 cv).drew.heap[w.heap.size]? = some (.cells (wr ROW 0 cv) 31 (0, 0)) := hg1
   have hg2 := heap_setCells w.heap.size 31 (0, 0) cs 3 _ _ hg1'
   obtain ⟨a1, a2, a3, a4⟩ := same_setCells w.heap.size cv 0 (w.alloc (.cells ROW 31)).drew
   obtain ⟨b1, b2, b3, b4⟩ := same_setCells w.heap.size cs 3 ((w.alloc (.cells ROW 31)).drew.setCells w.heap.size 0 cv).drew
   have hoth : ∀ c, c < w.heap.size → ((((w.alloc (.cells ROW 31)).drew.setCells w.heap.size 0 cv).drew).setCells w.heap.size 3 cs).heap[c]? = w.heap[c]? := fun c hc => by
    rw [heap_setCells_ne _ _ _ _ c (by omega)]
    show ((w.alloc (.cells ROW 31)).drew.setCells w.heap.size 0 cv).heap[c]? = _
    rw [heap_setCells_ne _ _ _ _ c (by omega)]
    exact heap_alloc_old w _ hc
   have hrt' := RTL.mono (w' := ((((w.alloc (.cells ROW 31)).drew.setCells w.heap.size 0 cv).drew).setCells w.heap.size 3 cs)) (.refl F) (fun b hF => hoth b (hb.mr.lt b hF)) happ
   have hsz0 : (w.alloc (.cells ROW 31)).heap.size = w.heap.size + 1 := by simp
   refine ⟨⟨_, cv ++ cs, rfl, ⟨?_, .inr ⟨w.heap.size, G, _, by rw [hyl], Nat.zero_le _, hg2, by omega, g2, by rw [wr_size, wr_size, g3], ?_⟩⟩, hrt', fun b hb => .inr ?_, fun b hb => ?_⟩,
    b1.trans a1, b2.trans a2, b3.trans a3, ?_, fun b hb _ => hoth b hb⟩
   ·exact RTL.len hrt'
   ·refine List.ext_getElem? fun k => ?_
    rw [List.getElem?_take, List.getElem?_append, hyl, hvl]
    by_cases hk : k < (l.length + 1) * 3
    ·rw [if_pos hk, Array.getElem?_toList, wr_get cs _ _ _ (by rw [wr_size]; omega), wr_get cv _ _ _ (by omega)]
     by_cases hk3 : k < 3
     ·rw [if_neg (by omega), if_pos (by omega), if_pos hk3]; rfl
     ·rw [if_pos (by omega), if_neg hk3]
    ·rw [if_neg hk, if_neg (by omega), List.getElem?_eq_none (by omega)]
   ·simp [blk, blk1] at hb
    omega
   ·simp [blk, blk1] at hb
    subst hb
    exact (Array.getElem?_eq_some_iff.1 hg2).1
   ·rw [b4]
    show _ ≤ ((w.alloc (.cells ROW 31)).drew.setCells w.heap.size 0 cv).heap.size
    rw [a4]
    show _ ≤ (w.alloc (.cells ROW 31)).heap.size
    omega
theorem slices_Insert.ok (N : Nat) : FnOk Try.prog 34 (slices_Insert.D N) := by
 refine ⟨⟨Try.f34, Try.func34, by kernel_rfl, by kernel_rfl⟩, fun w F vals vs us x y hb hv hx hy hg => ?_⟩
 obtain ⟨l, i, lv, xu⟩ := x
 obtain ⟨v1, v2, us1, us2, rfl, rfl, ⟨v, rfl, rfl, cs, hown, hrt⟩, ⟨w1, w2, us3, us4, rfl, rfl, ⟨g1, rfl⟩, ⟨w3, w4, us5, us6, rfl, rfl, ⟨vv, rfl, rfl, cv, hownv, hrtv⟩, rfl, rfl⟩⟩⟩ := hx
 have g1 : w1 = [.int .i64 i] := g1
 subst g1
 obtain ⟨vals⟩ := vals
 have hvals : vals = [v, .int .i64 i, vv] := by
  cases hv with
  | own hr => cases hr with
   | one h1 hr => cases hr with
    | own hr => cases hr; rfl
 subst hvals
 have hb : Bag w (fun _ => .nilFunc) F [] [v, vv] := hb
 refine (ins_core (l := l) (lv := lv) (i := i) (y := y) hb hown hrt hownv hrtv hy).mono fun e w' he => ?_
 obtain ⟨u, rvs, u1, k1, k2, k3, k4, k5⟩ := row_post hb he
 exact ⟨u, F, rvs, u1, [], k1, k2, k3, ⟨rfl, rfl⟩, k4, k5, fun _ => ⟨rfl, rfl⟩, fun L hL => by cases hL⟩
end Go.Proofs.Ytlfhchkhbecmbaa.Am
