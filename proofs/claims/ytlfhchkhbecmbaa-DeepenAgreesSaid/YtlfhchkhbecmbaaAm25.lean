/- slices.Delete and slices.Insert at rows of moves, by hand. By an AI agent. -/
import Derived.Test.YtlfhchkhbecmbaaAm24
import Derived.Lib.Overlaps
import Derived.Lib.AppendZeros
import Derived.Lib.AppendZerosOnto
import Derived.Shelf.Spec.SlicesInsert
set_option linter.unusedVariables false
set_option linter.unusedSimpArgs false
namespace Go.Proofs.Ytlfhchkhbecmbaa
open Go Go.RowKit Go.Shelf Go.Lib Go.Proofs
theorem run_copy_sz {P : Program} (w : World) (dT sT ty elem sz : Nat) (b o dLen dCap : Nat) (a : Addr) (sLen sCap : Nat) (cs : List Value)
  (hu : P.underlying dT = some (.slice elem)) (hs : (P.info? elem).map (·.size) = some sz) (hn : cs.length = Nat.min sLen dLen * sz)
  (hsrc : ∀ j v, cs[j]? = some v → w.cell? (a.add j) = some v) (hc : ∀ j, j < cs.length → (w.cell? ⟨b, o + j, none⟩).isSome = true) (hf : ∀ j, j < cs.length → w.frozen? ⟨b, o + j, none⟩ = false) (h1 : ∀ v ∈ cs, v.oneCell' = true) :
  (Builtin.copy_ #[dT, sT] ty #[.slice (some ⟨b, o, none⟩) dLen dCap, .slice (some a) sLen sCap]).run P w = .ok (goInt (Nat.min sLen dLen)) (w.setCells b o cs) := by
 have hl := run_loadCells_list (P := P) w a cs hsrc
 have hst := run_storeCells_cells (P := P) b o cs 0 w (by simpa using hc) (by simpa using hf) h1
 cases hq : P.info? elem with
 | none => simp [hq] at hs
 | some i =>
  have hi : i.size = sz := by simpa [hq] using hs
  simp [Builtin.copy_, run_underlying hu, Builtin.lenOf, Builtin.firstCells, sizeOf, typeInfo, hq, hi, ← hn, hl, hst]
set_option maxHeartbeats 4000000
set_option maxRecDepth 100000
theorem ins_shift (b n c vb vc : Nat) (cs vs : List Value) (w : World) (hi : 0 < n) (hroom : n + 1 ≤ c) (hc63 : c ≤ 9223372036854775807) (hvb : vb ≠ b)
  (hcl : cs.length = n * 3) (hvl : vs.length = 3)
  (hcs : ∀ j v, cs[j]? = some v → w.cell? ⟨b, j, none⟩ = some v) (hsp : ∀ j, j < (n + 1) * 3 → (w.cell? ⟨b, j, none⟩).isSome = true) (hfz : ∀ j, w.frozen? ⟨b, j, none⟩ = false)
  (hvs : ∀ j v, vs[j]? = some v → w.cell? ⟨vb, j, none⟩ = some v) (h1c : ∀ v ∈ cs, v.oneCell' = true) (h1v : ∀ v ∈ vs, v.oneCell' = true)
  (tA tB kA kB : Nat) (hsa : w.shape? vb = some (tA, kA)) (hsb : w.shape? b = some (tB, kB)) (hkB : kB ≠ 0) (hfa : w.frozen? ⟨vb, 0, none⟩ = false) (hfe : w.frozen? ⟨vb, kA, none⟩ = false) :
  Calls Try.prog 34 #[.slice (some ⟨b, 0, none⟩) n c, .int .i64 0, .slice (some ⟨vb, 0, none⟩) 1 vc] w fun e w' =>
   e = .returned (.slice (some ⟨b, 0, none⟩) (n + 1) c) ∧ w' = (w.drew.setCells b 3 cs).setCells b 0 vs := by
 have mixed : Try.prog.follows .mixedOrders = true := Checked.mixed Try.checked
 have t83 : Try.prog.underlying 83 = some (.slice 31) := by kernel_rfl
 obtain ⟨i0, hi0, hz0⟩ := move_info
 have hsz : (Try.prog.info? 31).map (·.size) = some 3 := by rw [hi0]; exact congrArg some hz0
 have hz2 : ¬ ((0 : Int) = (n : Int)) := by omega
 have hmin : Nat.min (n + 1) n = n := by show min (n + 1) n = n; omega
 have hmin2 : Nat.min 1 (n + 1) = 1 := by show min 1 (n + 1) = 1; omega
 have hov : ∀ lb cb, (callFunc 51 #[.slice (some ⟨vb, 0, none⟩) 1 vc, .slice (some ⟨b, 3, none⟩) lb cb]).run Try.prog w = .ok (.value (.bool false)) w := fun lb cb => by
  rw [run_callFunc_extern Try.func51 (by kernel_rfl) (by kernel_rfl) (by kernel_rfl) (e := Extern.SlicesOverlaps.overlaps #[83, 83] #[4]) (by kernel_rfl),
   Lib.run_overlaps_apart w 83 4 31 t83 3 (by intro w; simp [Go.sizeOf, typeInfo, hi0, hz0]) ⟨vb, 0, none⟩ ⟨b, 3, none⟩ 1 vc lb cb hvb tA tB kA kB hsa hsb hkB hfa hfe]
  rfl
 have hcp1 : ∀ ty dc sc, (Builtin.copy_ #[83, 83] ty #[.slice (some ⟨b, 3, none⟩) n dc, .slice (some ⟨b, 0, none⟩) (n + 1) sc]).run Try.prog w.drew = .ok (goInt n) (w.drew.setCells b 3 cs) := fun ty dc sc => by
  have := run_copy_sz (P := Try.prog) w.drew 83 83 ty 31 3 b 3 n dc ⟨b, 0, none⟩ (n + 1) sc cs t83 hsz (by rw [hcl, hmin])
   (fun j v hj => by rw [Addr.add_lit]; simpa using hcs j v hj) (fun j hj => hsp _ (by omega)) (fun j hj => hfz _) h1c
  rwa [hmin] at this
 obtain ⟨W1, hW1⟩ : ∃ W1, W1 = w.drew.setCells b 3 cs := ⟨_, rfl⟩
 have hsp1 : ∀ k, k < (n + 1) * 3 → (W1.cell? ⟨b, k, none⟩).isSome = true := fun k hk => by
  rw [hW1]
  exact isSome_setCells b cs 3 w.drew (fun j hj => hsp (3 + j) (by rw [hcl] at hj; omega)) k (hsp k hk)
 have hcp2 : ∀ (W : World), (∀ x, W.cell? x = W1.cell? x) → (∀ x, W.frozen? x = W1.frozen? x) → ∀ ty dc, (Builtin.copy_ #[83, 83] ty #[.slice (some ⟨b, 0, none⟩) (n + 1) dc, .slice (some ⟨vb, 0, none⟩) 1 vc]).run Try.prog W = .ok (goInt (1 : Nat)) (W.setCells b 0 vs) := fun W hWc hWf ty dc => by
  have := run_copy_sz (P := Try.prog) W 83 83 ty 31 3 b 0 (n + 1) dc ⟨vb, 0, none⟩ 1 vc vs t83 hsz (by rw [hvl, hmin2])
   (fun j v hj => by
    rw [Addr.add_lit, hWc, hW1, World.cell?_setCells_out b _ _ _ _ (fun h _ => absurd h hvb)]
    simpa using hvs j v hj)
   (fun j hj => by rw [hWc]; exact hsp1 _ (by omega)) (fun j hj => by rw [hWf, hW1, World.frozen?_setCells]; exact hfz _) h1v
  rwa [hmin2] at this
 rw [← hW1] at hcp1
 have hw1 : IntKind.i64.wrap 1 = 1 := by decide
 have hw2 : IntKind.i64.wrap (0 + 1) = 1 := by decide
 have hb3 : (1 : Int) ≤ (n : Int) + 1 := by omega
 have hb2 : ¬ (c = 1) := by omega
 have hb4 : (0 : Int) ≤ (n : Int) + 1 := by omega
 have hn1 : n + 1 - 1 = n := by omega
 have h1n : (1 : Int).toNat = 1 := rfl
 go_enter Try.func34, Try.ntmps34
 go_wp2_with (simp only [hov])
 go_region_law_o (refine step_copy_runI rfl _ _ 83 83 rfl _ _ (by simp [Act.eval, Act.put]) (by simp [Act.eval, Act.put]) (hcp1 _ _ _) ?_)
 go_wp2_with (at_builtin; refine wpList_copy_runI _ rfl _ _ 83 83 rfl _ _ rfl rfl (hcp2 _ (fun _ => rfl) (fun _ => rfl) _ _) ?_)
 go_ret
 first | exact ⟨rfl, rfl⟩ | exact ⟨rfl, by rw [hW1]⟩
end Go.Proofs.Ytlfhchkhbecmbaa
