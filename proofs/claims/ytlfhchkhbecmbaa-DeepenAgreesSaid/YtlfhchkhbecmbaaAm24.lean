/- slices.Delete and slices.Insert at rows of moves, by hand. By an AI agent. -/
import Derived.Test.YtlfhchkhbecmbaaChecked
import Derived.Shelf.RegionOpenPlain
import Derived.WalkKit
import Derived.Deep.RegionLaw
import Derived.Lib.Walk
import Derived.Lib.SliceRun
import Derived.Laws.IdiomCopy
import Derived.Laws.Externs
import Derived.Test.YtlfhchkhbecmbaaAm1
set_option linter.unusedVariables false
set_option linter.unusedSimpArgs false
namespace Go.Proofs.Ytlfhchkhbecmbaa
open Go Go.RowKit Go.Shelf Go.Lib Go.Proofs
theorem run_clear_cells {P : Program} (w : World) (t e ty : TypeId) (z : Value) (ht : P.underlying t = some (.slice e)) (hv : ∀ w, (zeroValue e).run P w = .ok z w) (b o n c : Nat) (hn : 0 < n) (zs : List Value) (hzs : zs = (Builtin.zeroCells z.cells n).toList)
  (h1 : ∀ v ∈ zs, v.oneCell' = true) (hc : ∀ j, j < zs.length → (w.cell? ⟨b, o + j, none⟩).isSome = true) (hf : ∀ j, j < zs.length → w.frozen? ⟨b, o + j, none⟩ = false) :
  (Builtin.clear_ #[t] ty #[.slice (some ⟨b, o, none⟩) n c]).run P w = .ok (.tuple #[]) (w.setCells b o zs) := by
 have hst := run_storeCells_cells (P := P) b o zs 0 w (by simpa using hc) (by simpa using hf) h1
 simp only [Nat.add_zero] at hst
 obtain ⟨m, rfl⟩ : ∃ m, n = m + 1 := ⟨n - 1, by omega⟩
 rw [hzs] at hst
 simp [Builtin.clear_, run_underlying ht, hv, hst, hzs]
theorem move_info : ∃ i0 : TypeInfo, Try.prog.info? 31 = some i0 ∧ i0.size = 3 := by
 have h : (Try.prog.info? 31).map (·.size) = some 3 := by kernel_rfl
 cases hi : Try.prog.info? 31 with
 | none => rw [hi] at h; cases h
 | some i0 => rw [hi] at h; exact ⟨i0, rfl, Option.some.inj h⟩
set_option maxHeartbeats 4000000
set_option maxRecDepth 100000
theorem del_same (b n cap i : Nat) (w : World) (hi : i ≤ n) (hc : n ≤ cap) (hm : cap ≤ 9223372036854775807) :
  Calls Try.prog 35 #[.slice (some ⟨b, 0, none⟩) n cap, .int .i64 i, .int .i64 i] w fun e w' => e = .returned (.slice (some ⟨b, 0, none⟩) n cap) ∧ w' = w := by
 go_enter Try.func35, Try.ntmps35
 go_wp2
 all_goals (go_ret; exact ⟨rfl, rfl⟩)
theorem del_lt (b n cap i j : Nat) (w : World) (hi : i < j) (hj : j ≤ n) (hc : n ≤ cap) (hm : cap ≤ 9223372036854775807) (news zs : List Value)
  (A : Addr) (hA : (if cap = j then some (⟨b, 0, none⟩ : Addr) else some ⟨b, j * 3, none⟩) = some A) (hsrc : Hid (∀ t u, news[t]? = some u → w.drew.cell? (A.add t) = some u)) (s1 : Hid (news.length = (n - j) * 3)) (s2 : Hid (∀ u ∈ news, u.oneCell' = true))
  (s3 : Hid (∀ t, t < news.length → (w.drew.cell? ⟨b, 0 + i * 3 + t, none⟩).isSome = true ∧ w.drew.frozen? ⟨b, 0 + i * 3 + t, none⟩ = false)) (W1 : World) (hW : Hid (W1 = w.drew.setCells b (0 + i * 3) news))
  (hcl : ∀ ty, (Builtin.clear_ #[83] ty #[.slice (some ⟨b, (i + (n - j)) * 3, none⟩) (n - (i + (n - j))) (cap - (i + (n - j)))]).run Try.prog W1 = .ok (.tuple #[]) (W1.setCells b ((i + (n - j)) * 3) zs)) :
  Calls Try.prog 35 #[.slice (some ⟨b, 0, none⟩) n cap, .int .i64 i, .int .i64 j] w fun e w' => e = .returned (.slice (some ⟨b, 0, none⟩) (n - (j - i)) cap) ∧ w' = W1.setCells b ((i + (n - j)) * 3) zs := by
 obtain ⟨i0, hi0, hz0⟩ := move_info
 have mixed : Try.prog.follows .mixedOrders = true := Checked.mixed Try.checked
 have t83 : Try.prog.underlying 83 = some (.slice 31) := by kernel_rfl
 have hic : i ≤ cap := by omega
 have hjc : j ≤ cap := by omega
 go_enter Try.func35, Try.ntmps35
 go_wp2_with fail
 go_region_law_o (refine step_append_room rfl (.tmp 22) (.tmp 25) 83 rfl 31 i0 3 t83 hi0 hz0 b 0 i cap (by simp [Act.eval, Act.put]) A (n - j) (cap - j) news (by simp [Act.eval, Act.put]) s1.out hsrc.out s2.out (by omega) s3.out ?_; rw [← hW.out])
 go_wp2
 go_ret
 exact ⟨by rw [show n - (j - i) = i + (n - j) by omega]; rfl, rfl⟩
def wr (cur : Array Value) : Nat → List Value → Array Value
 | _, [] => cur
 | o, v :: r => wr (cur.setIfInBounds o v) (o + 1) r
theorem wr_size : ∀ (vs : List Value) (o : Nat) (cur : Array Value), (wr cur o vs).size = cur.size
 | [], _, _ => rfl
 | v :: r, o, cur => by unfold wr; rw [wr_size r]; simp
theorem wr_get : ∀ (vs : List Value) (o k : Nat) (cur : Array Value), o + vs.length ≤ cur.size → (wr cur o vs)[k]? = if o ≤ k ∧ k < o + vs.length then vs[k - o]? else cur[k]?
 | [], o, k, cur, h => by unfold wr; rw [if_neg (by rintro ⟨a, b⟩; simp only [List.length_nil, Nat.add_zero] at b; omega)]
 | v :: r, o, k, cur, h => by
  unfold wr
  simp only [List.length_cons] at h ⊢
  rw [wr_get r (o + 1) k _ (by simp; omega)]
  by_cases h1 : o + 1 ≤ k ∧ k < o + 1 + r.length
  ·rw [if_pos h1, if_pos (by omega), show k - o = (k - (o + 1)) + 1 by omega]
   simp
  ·rw [if_neg h1, Array.getElem?_setIfInBounds]
   by_cases h2 : k = o
   ·subst h2
    rw [if_pos rfl, if_pos (by omega), if_pos (by omega), Nat.sub_self]
    simp
   ·rw [if_neg (by omega), if_neg (by omega)]
theorem heap_setCells (b e : Nat) (fz : Nat × Nat) : ∀ (vs : List Value) (o : Nat) (w : World) (cur : Array Value), w.heap[b]? = some (.cells cur e fz) → (w.setCells b o vs).heap[b]? = some (.cells (wr cur o vs) e fz)
 | [], _, _, _, h => h
 | v :: r, o, w, cur, h => by
  unfold World.setCells wr
  refine heap_setCells b e fz r (o + 1) _ _ ?_
  have hlt : b < w.heap.size := (Array.getElem?_eq_some_iff.1 h).1
  simp only [World.setCell, Array.getElem?_modify, if_true, h, Option.map_some, Option.isSome_none, Bool.false_eq_true, if_false]
theorem heap_setCells_ne (b : Nat) : ∀ (vs : List Value) (o : Nat) (w : World) (c : Nat), c ≠ b → (w.setCells b o vs).heap[c]? = w.heap[c]?
 | [], _, _, _, _ => rfl
 | v :: r, o, w, c, h => by
  unfold World.setCells
  rw [heap_setCells_ne b r (o + 1) _ c h]
  simp only [World.setCell, Array.getElem?_modify]
  rw [if_neg (fun e => h e.symm)]
theorem same_setCells (b : Nat) : ∀ (vs : List Value) (o : Nat) (w : World), (w.setCells b o vs).os = w.os ∧ (w.setCells b o vs).tape = w.tape ∧ (w.setCells b o vs).output = w.output ∧ (w.setCells b o vs).heap.size = w.heap.size
 | [], _, _ => ⟨rfl, rfl, rfl, rfl⟩
 | v :: r, o, w => by
  unfold World.setCells
  obtain ⟨h1, h2, h3, h4⟩ := same_setCells b r (o + 1) (w.setCell ⟨b, o, none⟩ v)
  exact ⟨h1, h2, h3, h4.trans (by simp [World.setCell])⟩
theorem cell_of {w : World} {b e : Nat} {fz : Nat × Nat} {cur : Array Value} (h : w.heap[b]? = some (.cells cur e fz)) (k : Nat) : w.cell? ⟨b, k, none⟩ = cur[k]? := by
 simp [World.cell?, h]
theorem frozen_of {w : World} {b e : Nat} {cur : Array Value} (h : w.heap[b]? = some (.cells cur e (0, 0))) (k : Nat) : w.frozen? ⟨b, k, none⟩ = false := by
 simp [World.frozen?, h]
theorem move_zero : ∃ z : Value, (∀ w, (zeroValue 31).run Try.prog w = .ok z w) ∧ z.cells.size = 3 ∧ ∀ v ∈ z.cells.toList, v.oneCell' = true := by
 have h : (Try.prog.info? 31).bind (·.zero) = some (.agg #[.int .i64 0, .int .i64 0, .int .i64 0]) := by kernel_rfl
 refine ⟨.agg #[.int .i64 0, .int .i64 0, .int .i64 0], fun w => ?_, rfl, ?_⟩
 ·cases hi : Try.prog.info? 31 with
  | none => rw [hi] at h; cases h
  | some i0 =>
   rw [hi] at h
   have h : i0.zero = some (.agg #[.int .i64 0, .int .i64 0, .int .i64 0]) := h
   simp [zeroValue, typeInfo, hi, h]
 ·intro v hv
  have : v = .int .i64 0 := by simpa [Value.cells] using hv
  subst this
  rfl
theorem del_row (b n cap i j : Nat) (w : World) (cur : Array Value) (hb : w.heap[b]? = some (.cells cur 31 (0, 0))) (hsz : cur.size = cap * 3) (hij : i ≤ j) (hj : j ≤ n) (hc : n ≤ cap) (hm : cap ≤ 9223372036854775807) (h1 : ∀ v ∈ cur.toList.take (n * 3), v.oneCell' = true) :
  Calls Try.prog 35 #[.slice (some ⟨b, 0, none⟩) n cap, .int .i64 i, .int .i64 j] w fun e w' => e = .returned (.slice (some ⟨b, 0, none⟩) (n - (j - i)) cap) ∧ w'.os = w.os ∧ w'.tape = w.tape ∧ w'.output = w.output ∧ w'.heap.size = w.heap.size ∧ (∀ c, c ≠ b → w'.heap[c]? = w.heap[c]?) ∧
   ∃ cur', w'.heap[b]? = some (.cells cur' 31 (0, 0)) ∧ cur'.size = cap * 3 ∧ cur'.toList.take ((n - (j - i)) * 3) = (cur.toList.take (n * 3)).take (i * 3) ++ (cur.toList.take (n * 3)).drop (j * 3) := by
 by_cases heq : i = j
 ·subst heq
  refine (del_same b n cap i w hj hc hm).mono ?_
  rintro e w' ⟨rfl, rfl⟩
  refine ⟨by rw [Nat.sub_self, Nat.sub_zero], rfl, rfl, rfl, rfl, fun _ _ => rfl, cur, hb, hsz, ?_⟩
  rw [Nat.sub_self, Nat.sub_zero, List.take_append_drop]
 ·have hlt : i < j := by omega
  obtain ⟨z, hz, hzs, hz1⟩ := move_zero
  obtain ⟨news, hnews⟩ : ∃ news, news = (cur.toList.take (n * 3)).drop (j * 3) := ⟨_, rfl⟩
  obtain ⟨zs, hzs'⟩ : ∃ zs, zs = (Builtin.zeroCells z.cells (j - i)).toList := ⟨_, rfl⟩
  have hzl : zs.length = (j - i) * 3 := by rw [hzs']; simp [Builtin.zeroCells, hzs]
  have hzo : ∀ v ∈ zs, v.oneCell' = true := by
   intro v hv
   rw [hzs'] at hv
   simp only [Builtin.zeroCells, Array.toList_map, List.mem_map] at hv
   obtain ⟨k, hk, rfl⟩ := hv
   have hlt3 : k % z.cells.size < z.cells.size := Nat.mod_lt _ (by omega)
   rw [getElem!_pos z.cells _ hlt3]
   exact hz1 _ (by simp)
  have hnl : news.length = (n - j) * 3 := by
   rw [hnews]; simp [hsz]; omega
  have hbd : w.drew.heap[b]? = some (.cells cur 31 (0, 0)) := hb
  have hnget : ∀ t, t < (n - j) * 3 → news[t]? = cur[j * 3 + t]? := by
   intro t ht
   rw [hnews, List.getElem?_drop, List.getElem?_take, if_pos (by omega), Array.getElem?_toList]
  obtain ⟨A, hA, hsrc⟩ : ∃ A : Addr, (if cap = j then some (⟨b, 0, none⟩ : Addr) else some ⟨b, j * 3, none⟩) = some A ∧ Hid (∀ t u, news[t]? = some u → w.drew.cell? (A.add t) = some u) := by
   by_cases h : cap = j
   ·refine ⟨⟨b, 0, none⟩, by simp [h], fun t u hu => ?_⟩
    have h0 : news.length = 0 := by rw [hnl]; omega
    rw [List.length_eq_zero_iff.1 h0] at hu
    simp at hu
   ·refine ⟨⟨b, j * 3, none⟩, by simp [h], fun t u hu => ?_⟩
    have ht : t < (n - j) * 3 := by
     have := (List.getElem?_eq_some_iff.1 hu).1
     rwa [hnl] at this
    rw [hnget t ht] at hu
    rw [Addr.add_lit, cell_of hbd]
    exact hu
  have s2 : Hid (∀ u ∈ news, u.oneCell' = true) := fun u hu => h1 u (by rw [hnews] at hu; exact List.mem_of_mem_drop hu)
  have s3 : Hid (∀ t, t < news.length → (w.drew.cell? ⟨b, 0 + i * 3 + t, none⟩).isSome = true ∧ w.drew.frozen? ⟨b, 0 + i * 3 + t, none⟩ = false) := by
   intro t ht
   rw [hnl] at ht
   refine ⟨?_, frozen_of hbd _⟩
   rw [cell_of hbd, Array.getElem?_eq_getElem (by omega)]
   rfl
  have hW1 := heap_setCells b 31 (0, 0) news (0 + i * 3) w.drew cur hbd
  have hsz1 : (wr cur (0 + i * 3) news).size = cap * 3 := by rw [wr_size, hsz]
  have hcl : ∀ ty, (Builtin.clear_ #[83] ty #[.slice (some ⟨b, (i + (n - j)) * 3, none⟩) (n - (i + (n - j))) (cap - (i + (n - j)))]).run Try.prog (w.drew.setCells b (0 + i * 3) news) = .ok (.tuple #[]) ((w.drew.setCells b (0 + i * 3) news).setCells b ((i + (n - j)) * 3) zs) := fun ty =>
   run_clear_cells _ 83 31 ty z (by kernel_rfl) hz b ((i + (n - j)) * 3) (n - (i + (n - j))) _ (by omega) zs (by rw [hzs', show n - (i + (n - j)) = j - i by omega]) hzo
    (fun k hk => by rw [cell_of hW1, Array.getElem?_eq_getElem (by omega)]; rfl) (fun k hk => frozen_of hW1 _)
  refine (del_lt b n cap i j w hlt hj hc hm news zs A hA hsrc hnl s2 s3 _ rfl hcl).mono ?_
  rintro e w' ⟨rfl, rfl⟩
  obtain ⟨q1, q2, q3, q4⟩ := same_setCells b news (0 + i * 3) w.drew
  obtain ⟨r1, r2, r3, r4⟩ := same_setCells b zs ((i + (n - j)) * 3) (w.drew.setCells b (0 + i * 3) news)
  have hW2 := heap_setCells b 31 (0, 0) zs ((i + (n - j)) * 3) _ _ hW1
  refine ⟨rfl, r1.trans q1, r2.trans q2, r3.trans q3, r4.trans q4, fun c hc' => by rw [heap_setCells_ne b _ _ _ c hc', heap_setCells_ne b _ _ _ c hc']; rfl, _, hW2, by rw [wr_size, hsz1], ?_⟩
  refine List.ext_getElem? fun k => ?_
  rw [List.getElem?_take, List.getElem?_append, List.getElem?_take, List.getElem?_take]
  have hl1 : ((cur.toList.take (n * 3)).take (i * 3)).length = i * 3 := by simp [hsz]; omega
  rw [hl1]
  by_cases hk : k < (n - (j - i)) * 3
  ·rw [if_pos hk, Array.getElem?_toList, wr_get zs _ _ _ (by rw [hsz1]; omega), if_neg (by omega), wr_get news _ _ _ (by omega)]
   by_cases hki : k < i * 3
   ·rw [if_neg (by omega), if_pos hki, if_pos hki, if_pos (by omega), Array.getElem?_toList]
   ·rw [if_pos (by omega), if_neg hki, hnews, show k - (0 + i * 3) = k - i * 3 by omega]
  ·rw [if_neg hk, if_neg (by omega), ← hnews, List.getElem?_eq_none (by omega)]
end Go.Proofs.Ytlfhchkhbecmbaa
