/- slices.Delete and slices.Insert at rows of moves, by hand. By an AI agent. -/
import Derived.Test.YtlfhchkhbecmbaaAm26
set_option linter.unusedVariables false
set_option linter.unusedSimpArgs false
namespace Go.Proofs.Ytlfhchkhbecmbaa
open Go Go.RowKit Go.Shelf Go.Lib Go.Proofs
set_option maxHeartbeats 4000000
set_option maxRecDepth 100000
theorem ins_grow (b n c vb vc : Nat) (cs vs : List Value) (w : World) (hi : 0 < n) (hnc : n ≤ c) (hroom : c < n + 1) (hbig : (n + 1) * 24 ≤ 140737488355328) (hbw : b < w.heap.size) (hvw : vb < w.heap.size)
  (hcl : cs.length = n * 3) (hvl : vs.length = 3)
  (hcs : ∀ j v, cs[j]? = some v → w.cell? ⟨b, j, none⟩ = some v) (hvs : ∀ j v, vs[j]? = some v → w.cell? ⟨vb, j, none⟩ = some v) (h1c : ∀ v ∈ cs, v.oneCell' = true) (h1v : ∀ v ∈ vs, v.oneCell' = true) :
  ∃ (G : Nat) (ROW : Array Value), n + 1 ≤ G ∧ G ≤ maxLen ∧ ROW.size = G * 3 ∧
  Calls Try.prog 34 #[.slice (some ⟨b, 0, none⟩) n c, .int .i64 0, .slice (some ⟨vb, 0, none⟩) 1 vc] w fun e w' =>
   e = .returned (.slice (some ⟨w.heap.size, 0, none⟩) (n + 1) G) ∧ w' = (((w.alloc (.cells ROW 31)).drew.setCells w.heap.size 0 vs).drew).setCells w.heap.size 3 cs := by
 have mixed : Try.prog.follows .mixedOrders = true := Checked.mixed Try.checked
 have t83 : Try.prog.underlying 83 = some (.slice 31) := by kernel_rfl
 have t3 : Try.prog.underlying 3 = some (.int .i64) := by kernel_rfl
 obtain ⟨i0, z, hi0, hz0, hzz, hzc, hby, hz1⟩ := move_more
 have hsz : (Try.prog.info? 31).map (·.size) = some 3 := by rw [hi0]; exact congrArg some hz0
 have hz2 : ¬ ((0 : Int) = (n : Int)) := by omega
 have hz3 : (c : Int) < (n : Int) + 1 := by omega
 have hold : (Builtin.firstCells i0.size 0 (.slice (some ⟨b, 0, none⟩) 0 c)).run Try.prog w.drew = .ok #[] w.drew := by
  have := run_firstCells_some (P := Try.prog) w.drew i0.size 0 ⟨b, 0, none⟩ 0 c [] (by simp) (fun j v hj => by simp at hj)
  simpa using this
 have hrz : ∀ ty, (Builtin.append_ #[83, 3] ty #[.slice (some ⟨b, 0, none⟩) 0 c, .int .i64 ((n : Int) + 1)]).run Try.prog w =
   .ok (.slice (some ⟨w.heap.size, 0, none⟩) (n + 1) (grownCap w (n + 1) c 31)) (w.drew.alloc (.cells (#[] ++ Builtin.zeroCells z.cells (n + 1) ++ Builtin.zeroCells z.cells (grownCap w (n + 1) c 31 - (n + 1))) 31)) := fun ty => by
  have h := Lib.run_append_grow_zeros (P := Try.prog) w 83 3 ty 31 i0 z .i64 .i64 t83 t3 hi0 hzz (some ⟨b, 0, none⟩) 0 c [] (by simpa using hold) (n + 1) (by omega) (by omega) (by omega) (by omega) (by rw [hby]; omega) (by rw [hby, Nat.zero_add]; exact growslice_fits hroom hbig)
  rw [Nat.zero_add] at h
  rw [show ((n : Int) + 1) = ((n + 1 : Nat) : Int) by omega]
  simpa using h
 have hGn0 : n + 1 ≤ grownCap w (n + 1) c 31 := grownCap_ge w _ _ _
 have hGm0 : grownCap w (n + 1) c 31 ≤ maxLen := grownCap_le_maxLen w (n + 1) c 31 (by unfold maxLen; omega)
 obtain ⟨G, hG⟩ : ∃ G, G = grownCap w (n + 1) c 31 := ⟨_, rfl⟩
 obtain ⟨ROW, hROW⟩ : ∃ ROW : Array Value, ROW = #[] ++ Builtin.zeroCells z.cells (n + 1) ++ Builtin.zeroCells z.cells (G - (n + 1)) := ⟨_, rfl⟩
 rw [← hG] at hrz hGn0 hGm0
 rw [← hROW] at hrz
 have hRl : ROW.size = G * 3 := by
  rw [hROW]
  simp [Builtin.zeroCells, hzc]
  omega
 refine ⟨G, ROW, hGn0, hGm0, hRl, ?_⟩
 obtain ⟨W1, hW1⟩ : ∃ W1, W1 = w.drew.alloc (.cells ROW 31) := ⟨_, rfl⟩
 rw [← hW1] at hrz
 have hN : ∀ j, j < (n + 1) * 3 → (W1.cell? ⟨w.heap.size, j, none⟩).isSome = true := fun j hj => by
  rw [hW1, World.cell?_alloc_at (w := w.drew) ROW _ w.heap.size j rfl, Array.getElem?_eq_getElem (by omega)]; rfl
 have hNf : ∀ j, W1.frozen? ⟨w.heap.size, j, none⟩ = false := fun j => by rw [hW1]; exact World.frozen?_alloc_at (w := w.drew) ROW _ w.heap.size j rfl
 have hOb : ∀ j v, w.cell? ⟨b, j, none⟩ = some v → W1.cell? ⟨b, j, none⟩ = some v := fun j v h => by rw [hW1, World.cell?_alloc_past (w := w.drew) _ b j hbw]; exact h
 have hOv : ∀ j v, w.cell? ⟨vb, j, none⟩ = some v → W1.cell? ⟨vb, j, none⟩ = some v := fun j v h => by rw [hW1, World.cell?_alloc_past (w := w.drew) _ vb j hvw]; exact h
 have hmin2 : Nat.min 1 (n + 1) = 1 := by show min 1 (n + 1) = 1; omega
 have hmin3 : Nat.min n n = n := by show min n n = n; omega
 have hcpA : ∀ (W : World), (∀ x, W.cell? x = W1.cell? x) → (∀ x, W.frozen? x = W1.frozen? x) → ∀ ty dc, (Builtin.copy_ #[83, 83] ty #[.slice (some ⟨w.heap.size, 0, none⟩) (n + 1) dc, .slice (some ⟨vb, 0, none⟩) 1 vc]).run Try.prog W = .ok (goInt (1 : Nat)) (W.setCells w.heap.size 0 vs) := fun W hWc hWf ty dc => by
  have := run_copy_sz (P := Try.prog) W 83 83 ty 31 3 w.heap.size 0 (n + 1) dc ⟨vb, 0, none⟩ 1 vc vs t83 hsz (by rw [hvl, hmin2])
   (fun j v hj => by rw [Addr.add_lit, hWc]; simpa using hOv _ v (hvs j v hj))
   (fun j hj => by rw [hWc]; exact hN _ (by omega)) (fun j hj => by rw [hWf]; exact hNf _) h1v
  rwa [hmin2] at this
 have hG63 : G ≤ 9223372036854775807 := by unfold maxLen at hGm0; omega
 have hGi : ¬ (G = 0) := by omega
 have hGim : ¬ (G = 1) := by omega
 have hbN : b ≠ w.heap.size := by omega
 have hcpB : ∀ (W : World), (∀ x, W.cell? x = (W1.setCells w.heap.size 0 vs).cell? x) → (∀ x, W.frozen? x = (W1.setCells w.heap.size 0 vs).frozen? x) → ∀ ty dc sc, (Builtin.copy_ #[83, 83] ty #[.slice (some ⟨w.heap.size, 3, none⟩) n dc, .slice (some ⟨b, 0, none⟩) n sc]).run Try.prog W = .ok (goInt n) (W.setCells w.heap.size 3 cs) := fun W hWc hWf ty dc sc => by
  have := run_copy_sz (P := Try.prog) W 83 83 ty 31 3 w.heap.size 3 n dc ⟨b, 0, none⟩ n sc cs t83 hsz (by rw [hcl, hmin3])
   (fun j v hj => by
    rw [Addr.add_lit, hWc, World.cell?_setCells_out _ _ _ _ _ (fun h _ => absurd h hbN)]
    simpa using hOb _ v (hcs j v hj))
   (fun j hj => by rw [hWc]; exact isSome_setCells w.heap.size vs 0 W1 (fun t ht => hN _ (by omega)) _ (hN _ (by omega)))
   (fun j hj => by rw [hWf, World.frozen?_setCells]; exact hNf _) h1c
  rwa [hmin3] at this
 subst hW1
 have hE1 : ∀ x, ((w.alloc (.cells ROW 31)).drew).cell? x = (w.drew.alloc (.cells ROW 31)).cell? x := fun x => rfl
 have hE2 : ∀ x, ((w.alloc (.cells ROW 31)).drew).frozen? x = (w.drew.alloc (.cells ROW 31)).frozen? x := fun x => rfl
 have hF1 : ∀ x, (((w.alloc (.cells ROW 31)).drew.setCells w.heap.size 0 vs).drew).cell? x = ((w.drew.alloc (.cells ROW 31)).setCells w.heap.size 0 vs).cell? x := fun x => rfl
 have hF2 : ∀ x, (((w.alloc (.cells ROW 31)).drew.setCells w.heap.size 0 vs).drew).frozen? x = ((w.drew.alloc (.cells ROW 31)).setCells w.heap.size 0 vs).frozen? x := fun x => rfl
 have hw1 : IntKind.i64.wrap 1 = 1 := by decide
 have hb3 : (1 : Int) ≤ (n : Int) + 1 := by omega
 have hb4 : (0 : Int) ≤ (n : Int) + 1 := by omega
 have hci : ¬ (c = 0) := by omega
 have hn1 : n + 1 - 1 = n := by omega
 have h1n : (1 : Int).toNat = 1 := rfl
 clear hold hROW hG hRl
 go_enter Try.func34, Try.ntmps34
 go_wp2_with (first
  | (at_builtin; refine Lib.wpList_append_run _ rfl _ _ _ _ rfl _ _ rfl rfl _ _ (hrz _) ?_)
  | (at_builtin; refine wpList_copy_runI _ rfl _ _ 83 83 rfl _ _ rfl rfl (hcpA _ hE1 hE2 _ _) ?_)
  | (at_builtin; refine wpList_copy_runI _ rfl _ _ 83 83 rfl _ _ rfl rfl (hcpB _ (fun _ => rfl) (fun _ => rfl) _ _ _) ?_))
 go_region_law_o (refine step_copy_runI rfl _ _ 83 83 rfl (.slice (some ⟨w.heap.size, 3, none⟩) n (G - 1)) (.slice (some ⟨b, 0, none⟩) n c) (by simp [Act.eval, Act.put]) (by simp [Act.eval, Act.put]) (hcpB _ hF1 hF2 3 (G - 1) c) ?_)
 go_wp2
 go_ret
 exact ⟨rfl, rfl⟩
end Go.Proofs.Ytlfhchkhbecmbaa
