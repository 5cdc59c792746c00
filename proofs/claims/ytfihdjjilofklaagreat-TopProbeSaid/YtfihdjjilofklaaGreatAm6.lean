/- Each operation of the abstract machine is sound, third part. -/
import Derived.Test.YtfihdjjilofklaaGreatAm5
set_option linter.unusedVariables false
set_option linter.unusedSimpArgs false
namespace Go.Proofs.YtfihdjjilofklaaGreat.Am
open Go
theorem zcells_RT {w : World} {ρ : Nat → Value} {F : FS} {N : Nat} : ∀ (t : Ty) {vs : List Value}, (zcells t).all (fun c => !isAny c) = true → CRs w ρ F N (zcells t) vs → RT w F t t.dflt vs
 | .int k, vs, hn, h => by cases h with | cons h1 h2 => cases h2; unfold CR at h1; subst h1; exact (rfl : [_] = [_])
 | .bool, vs, hn, h => by cases h with | cons h1 h2 => cases h2; unfold CR at h1; subst h1; exact (rfl : [_] = [_])
 | .str, vs, hn, h => by cases h with | cons h1 h2 => cases h2; unfold CR at h1; subst h1; exact (rfl : [_] = [_])
 | .slice e t, vs, hn, h => by cases h with | cons h1 h2 => cases h2; unfold CR at h1; subst h1; exact RT_nil e t
 | .prod a b, vs, hn, h => by
  obtain ⟨r1, r2, rfl, h1, h2⟩ := F2.split h
  simp only [zcells, List.all_append, Bool.and_eq_true] at hn
  exact RT_prod (zcells_RT a hn.1 h1) (zcells_RT b hn.2 h2)
 | .unit, vs, hn, h => by cases h; exact (rfl : ([] : List Value) = [])
 | .ifc T t, vs, hn, h => by simp [zcells, isAny] at hn
 | .nod, vs, hn, h => by cases h with | cons h1 h2 => cases h2; unfold CR at h1; subst h1; exact ⟨_, rfl, .inl ⟨(by decide : (-1 : Int) < 0), rfl⟩⟩
theorem flat_rep {α : Type} (l : List α) : ∀ (k j : Nat), (List.replicate k l).flatten[j]? = if j < k * l.length then l[j % l.length]? else none
 | 0, j => by simp
 | k + 1, j => by
  rw [List.replicate_succ, List.flatten_cons]
  by_cases h : j < l.length
  ·rw [List.getElem?_append_left h, if_pos (by rw [Nat.add_mul]; omega), Nat.mod_eq_of_lt h]
  ·rw [List.getElem?_append_right (by omega), flat_rep l k]
   have : (k + 1) * l.length = k * l.length + l.length := by rw [Nat.add_mul, Nat.one_mul]
   by_cases h2 : j < (k + 1) * l.length
   ·rw [if_pos (by omega), if_pos h2, ← Nat.mod_eq_sub_mod (by omega)]
   ·rw [if_neg (by omega), if_neg h2]
theorem madeCells_flat (z : Array Value) (k sz : Nat) (h : z.size = sz) (h0 : 0 < sz) : (madeCells z (k * sz)).toList = (List.replicate k z.toList).flatten := by
 apply List.ext_getElem?
 intro j
 rw [flat_rep, Array.length_toList, h]
 unfold madeCells
 by_cases hj : j < k * sz
 ·rw [if_pos hj]
  have hm : j % z.size < z.size := Nat.mod_lt _ (by omega)
  simp [hj, h] 
  rw [h] at hm
  simp [← h] at hm ⊢
  rw [getElem!_pos z (j % z.size) hm, Array.getElem?_eq_getElem hm]
 ·rw [if_neg hj]
  simp [hj]
section
variable {R : Type} {P : Program} {tt : Tab} (hP : TabOk P tt) {Γ : GamF} {pu : Prop} {g : Beg} {ρ : Nat → Value} {F : FS} {s : St} {a : Act} {w : World} {κ : St → Option R} {r : R} {o : Oper}
include hP
omit hP in
theorem chk_some {b : Bool} {x : Option R} (h : chk b x = some r) : b = true ∧ x = some r := by
 cases b <;> simp [chk] at h
 exact ⟨rfl, h⟩
omit hP in
theorem leI_true {m n : Int} : leI m n = true ↔ m ≤ n := by simp [leI]
omit hP in
theorem ltI_true {m n : Int} : ltI m n = true ↔ m < n := by simp [ltI]
theorem ok_makeSlice {T : Nat} {x y : Operand} (ho : o.op = .makeSlice T x y) (hs : SX g ρ F s a w) (h : absOp tt Γ s o κ = some r) : Goes P g κ r o a w := by
 simp only [absOp, ho] at h
 split at h <;> try cases h
 rename_i e m n hd e1 e2
 have hx := hs.ev x
 have hy := hs.ev y
 rw [e1] at hx
 rw [e2] at hy
 have hcx : a.eval x = .int .i64 m := VR.CR hx (by simp)
 have hcy : a.eval y = .int .i64 n := VR.CR hy (by simp)
 split at h <;> try cases h
 rename_i i hT
 split at h <;> try cases h
 rename_i t ht
 split at h
 case isFalse =>
  split at h <;> try cases h
  rename_i hsz
  obtain ⟨hb, h'⟩ := chk_some h
  simp only [Bool.and_eq_true, leI_true, decide_eq_true_eq, eqI] at hb
  obtain ⟨hb, hb0, hb1, hb2⟩ := hb
  subst hb
  obtain ⟨inf, z, h1, h2, h3, h4, h5⟩ := tab_info hP hT
  obtain ⟨hu, _⟩ := td_slice hP hd
  obtain ⟨h6, h7⟩ := (hP e i hT).ty t ht
  have hcap : n.toNat * i.bytes ≤ 140737488355328 := by simpa [capOk] using hb2
  have hm : (n.toNat : Int) = n := Int.toNat_of_nonneg hb0
  have hrun := run_make (P := P) w T e inf z hu h1 h4 .i64 .i64 0 n (by omega) hb0 (by rw [← hm, h3, ← Int.natCast_mul, Nat.mul_comm]; omega) (by omega)
  rw [show (0 : Int).toNat = 0 from rfl] at hrun
  have hg0 : w.grownBy (w.alloc (.cells (madeCells z.cells (n.toNat * inf.size)) e)) none := World.grownBy_alloc w _ none
  have hs' := hs.newObj hg0 (o := .row e t []) (v := .slice (some ⟨w.heap.size, 0, none⟩) 0 n.toNat) (fun b hb => by simp [blk, blk1] at hb; omega)
   ⟨[], World.ownsRow_made w _ n.toNat (Nat.zero_le _) (by simp only [maxLen]; omega) (by rw [size_madeCells, h2, h6]), .nil⟩
  refine goes_new (v := .slice (some ⟨w.heap.size, 0, none⟩) 0 n.toNat) ?_ hs' ?_ h' (fun _ _ => Ext.of_grown hg0)
  ·simp [execOp, ho, hcx, hcy, hrun]
  ·exact ⟨by simp, by rw [upd_same], rfl⟩
 rename_i hsz
 obtain ⟨hsz, hsame⟩ := hsz
 have hxy : a.eval y = a.eval x := by
  unfold opSame at hsame
  split at hsame
  ·simp at hsame; subst hsame; rfl
  ·simp at hsame; subst hsame; rfl
  ·cases hsame
 rw [hcx] at hxy
 obtain ⟨hb, h⟩ := chk_some h
 simp only [Bool.and_eq_true, leI_true, decide_eq_true_eq] at hb
 obtain ⟨hb0, hb1, hb2⟩ := hb
 obtain ⟨inf, z, h1, h2, h3, h4, h5⟩ := tab_info hP hT
 obtain ⟨hu, _⟩ := td_slice hP hd
 obtain ⟨h6, h7⟩ := (hP e i hT).ty t ht
 have hcap : m.toNat * i.bytes ≤ 140737488355328 := by simpa [capOk] using hb2
 have hm : (m.toNat : Int) = m := Int.toNat_of_nonneg hb0
 obtain ⟨w', h8, h9, h10⟩ := run_make_full (P := P) w 0 T e inf z i.size hu h1 h4 h2 .i64 .i64 m.toNat (by rw [h3, Nat.mul_comm]; omega) (by simp only [maxLen]; omega) (Nat.zero_le _)
 rw [hm] at h8
 have hzl : z.cells.size = t.size := by
  have := congrArg List.length h5
  rw [h6, ← (hP e i hT).len]
  simpa using this
 have hz0 : CRs w ρ F s.mem.length i.zero z.cells.toList := by
  obtain ⟨z', h11, h12⟩ := zero_ok hP (w := w) (ρ := ρ) (F := F) (s := s) hT
  have : (zeroValue e).run P w = .ok z w := by simp [zeroValue, typeInfo, h1, h4]
  rw [this] at h11
  cases (Result.ok.inj h11).1
  exact h12
 have hzr : RT w F t t.dflt z.cells.toList := zcells_RT t (by rw [h7]; exact (hP e i hT).noAny) (by rw [h7]; exact hz0)
 have hrow : ∀ k, RTL w F t (List.replicate k t.dflt) (madeCells z.cells (k * t.size)).toList := by
  intro k
  have : (madeCells z.cells (k * t.size)).toList = (List.replicate k z.cells.toList).flatten := madeCells_flat _ _ _ hzl (by omega)
  rw [this]
  induction k with
  | zero => exact .nil
  | succ k ih => rw [List.replicate_succ, List.replicate_succ, List.flatten_cons]; exact .cons hzr (ih (madeCells_flat _ _ _ hzl (by omega)))
 have hmv := Mv.grown h10 hs.mr.lt
 have hs' := hs.newObj (w' := w') h10 (o := .row e t (List.replicate m.toNat t.dflt)) (v := .slice (some ⟨w.heap.size, 0, none⟩) m.toNat m.toNat) (fun b hb => by simp [blk, blk1] at hb; omega)
  ⟨_, by rw [List.length_replicate, h6]; exact h9, by rw [← h6]; exact (hrow m.toNat).mono hmv.le hmv.same⟩
 refine goes_new (v := .slice (some ⟨w.heap.size, 0, none⟩) m.toNat m.toNat) ?_ hs' ?_ h (fun _ _ => Ext.of_grown h10)
 ·simp [execOp, ho, hcx, hxy, h8]
 ·exact ⟨by simp, by rw [upd_same], rfl⟩
theorem ok_fieldAddr {T f : Nat} {x : Operand} (ho : o.op = .fieldAddr T x f) (hs : SX g ρ F s a w) (h : absOp tt Γ s o κ = some r) : QG P w ρ F s κ r o a := by
 simp only [absOp, ho] at h
 split at h <;> try cases h
 rename_i fs hd
 obtain ⟨fields, hu, hfs, hk⟩ := td_struct hP hd
 have hx := hs.ev x
 have key : ∀ off U, fs[f]? = some (off, U) → 0 < tt.size U → ∀ ad : Addr, a.eval x = .pointer (some ad) → ∀ w' : World, (execOp a.eval o).run P w' = .ok (.value (.pointer (some (ad.add off)))) w' := by
  intro off U hf hz ad had w'
  rw [hfs, List.getElem?_map] at hf
  cases hfl : fields[f]? with
  | none => simp [hfl] at hf
  | some fl =>
   simp [hfl] at hf
   obtain ⟨rfl, rfl⟩ := hf
   obtain ⟨j, hj⟩ := hk (fl.offset, fl.type) (by
    rw [hfs]
    exact List.mem_map.2 ⟨fl, by simpa using Array.mem_of_getElem? hfl, rfl⟩)
   simp only at hj
   rw [tab_size hj] at hz
   have hne : ¬ j.size = 0 := by omega
   simp [execOp, ho, had, Instr.fieldAt, run_underlying hu, hfl, Instr.sureAddr, fieldPlace, run_size hP hj, hne]
 split at h
 ·rename_i off U n i hf e
  split at h <;> try cases h
  rename_i hz
  rw [e] at hx
  obtain ⟨h1, b, h2, h3⟩ := VR.CR hx (by simp)
  refine qg (v := _) (fun w' _ => key off U hf hz _ h3 w') ?_ h
  exact ⟨h1, b, h2, by rw [Addr.add_plain]⟩
 ·rename_i off U t y i hf e
  split at h <;> try cases h
  rename_i hz
  rw [e] at hx
  obtain ⟨ad, vs, h3, h4⟩ := VR.CR hx (by simp)
  refine qg (v := _) (fun w' _ => key off U hf hz _ h3 w') ?_ h
  exact ⟨ad, vs, by rw [Addr.add_add], h4⟩
 ·rename_i off U n i z j hf e
  split at h <;> try cases h
  rename_i hz
  rw [e] at hx
  obtain ⟨h1, g, l, c, h2, h4, h3⟩ := VR.CR hx (by simp)
  refine qg (v := _) (fun w' _ => key off U hf hz _ h3 w') ?_ h
  exact ⟨h1, g, l, c, h2, h4, by rw [Addr.add_plain, Nat.add_assoc]⟩
 ·rename_i off U i j hf e
  split at h <;> try cases h
  rename_i hz
  rw [e] at hx
  obtain ⟨h1, b, h2, h3⟩ := VR.CR hx (by simp)
  refine qg (v := _) (fun w' _ => key off U hf hz _ h3 w') ?_ h
  exact ⟨h1, b, h2, by rw [Addr.add_plain]⟩
 ·cases h
theorem ok_field {T f : Nat} {x : Operand} (ho : o.op = .field T x f) (hs : SX g ρ F s a w) (h : absOp tt Γ s o κ = some r) : QG P w ρ F s κ r o a := by
 simp only [absOp, ho] at h
 split at h <;> try cases h
 rename_i fs hd
 obtain ⟨fields, hu, hfs, hk⟩ := td_struct hP hd
 have hx := hs.ev x
 split at h <;> try cases h
 rename_i off U l hf e
 rw [e] at hx
 obtain ⟨vs, hv, hc⟩ := hx
 split at h <;> try cases h
 rename_i ag l' hag hl
 split at h <;> try cases h
 rename_i y hy
 obtain ⟨v, h1, h2⟩ := part_ok hP hag hc hl hy
 refine qg (v := v) (fun w' hw' => ?_) h2 h
 rw [hfs, List.getElem?_map] at hf
 cases hfl : fields[f]? with
 | none => simp [hfl] at hf
 | some fl =>
  simp [hfl] at hf
  obtain ⟨rfl, rfl⟩ := hf
  simp [execOp, ho, hv, Instr.field, run_underlying hu, hfl, asAgg, h1]
omit hP in
theorem selK_ok : ∀ (n j : Nat) {i : Int} {f : Nat → Option R}, selK n j i f = some r → ∃ k, j ≤ k ∧ k < j + n ∧ i = (k : Int) ∧ f k = some r
 | 0, j, i, f, h => by simp [selK] at h
 | n + 1, j, i, f, h => by
  unfold selK at h
  cases hb : eqI i j with
  | true =>
   rw [hb] at h
   simp at h
   exact ⟨j, Nat.le_refl _, by omega, by simpa [eqI] using hb, h⟩
  | false =>
   rw [hb] at h
   simp at h
   obtain ⟨k, h1, h2, h3, h4⟩ := selK_ok n (j + 1) h
   exact ⟨k, by omega, by omega, h3, h4⟩
theorem ok_indexAddr {T : Nat} {x y : Operand} (ho : o.op = .indexAddr T x y) (hs : SX g ρ F s a w) (h : absOp tt Γ s o κ = some r) : QG P w ρ F s κ r o a := by
 simp only [absOp, ho] at h
 split at h <;> try cases h
 rename_i k i e1
 have hx := hs.ev x
 have hy := hs.ev y
 rw [e1] at hy
 have hcy : a.eval y = .int k i := VR.CR hy (by simp)
 have arr : ∀ n e, tt.td T = .array n e → ∀ ad : Addr, a.eval x = .pointer (some ad) → ∀ j : Nat, j < n → i = (j : Int) → ∀ w' : World, (execOp a.eval o).run P w' = .ok (.value (.pointer (some (ad.add (j * tt.size e))))) w' := by
  intro n e hd ad had j hj hi w'
  obtain ⟨hu, q, hq⟩ := td_array hP hd
  subst hi
  simp [execOp, ho, had, hcy, Instr.indexAt, asIntOf, run_underlying hu, Instr.sureAddr, run_size hP hq, tab_size hq, hj]
 split at h
 ·rename_i e e' t xs hd e2
  split at h <;> try cases h
  rename_i hsz
  obtain ⟨hb, h⟩ := chk_some h
  simp only [Bool.and_eq_true, leI_true, ltI_true] at hb
  obtain ⟨hb0, hb1⟩ := hb
  obtain ⟨hu, q, hq⟩ := td_slice hP hd
  rw [e2] at hx
  have hrt : RT w F (.slice e' t) xs [a.eval x] := VR.CR hx (by simp)
  unfold RT at hrt
  obtain ⟨b, c, hv, hcap, hrt⟩ := hrt
  simp only [List.cons.injEq, and_true] at hv
  rcases hrt with h0 | ⟨ad, rfl, hF, hrt⟩
  ·exfalso; have : xs.length = 0 := h0; omega
  ·have hi : i.toNat < xs.length := by omega
   obtain ⟨vs, h1, h2⟩ := hrt i.toNat _ (rdd_get hi)
   rw [tab_size hq] at hsz
   refine qg (v := .pointer (some (ad.add (i.toNat * t.size)))) (fun w' hw' => ?_) ?_ h
   ·have hb1' : i < ((len (α := t.den) xs : Nat) : Int) := hb1
    simp [execOp, ho, hv, hcy, Instr.indexAt, asIntOf, run_underlying hu, run_size hP hq, hb0, hb1', hsz]
   ·exact ⟨ad.add (i.toNat * t.size), vs, by rw [Addr.add_zero'], by simpa using hF, h1, h2⟩
 ·rename_i e n hd e2
  split at h <;> try cases h
  rename_i e' t xs hm
  split at h <;> try cases h
  rename_i hsz
  obtain ⟨hb, h⟩ := chk_some h
  simp only [Bool.and_eq_true, leI_true, ltI_true] at hb
  obtain ⟨hb0, hb1⟩ := hb
  obtain ⟨hu, q, hq⟩ := td_slice hP hd
  rw [e2] at hx
  obtain ⟨h1, h2, _⟩ := VR.CR hx (by simp)
  obtain ⟨vs, h3, h4⟩ := hs.mr.obj _ _ hm
  rw [tab_size hq] at hsz
  rcases h3.2 with ⟨_, h5⟩ | ⟨g, cap, cur, h5, _⟩
  ·exfalso; omega
  ·rw [h5] at h2
   refine qg (v := .pointer (some ⟨g, i.toNat * t.size, none⟩)) (fun w' hw' => ?_) ?_ h
   ·simp [execOp, ho, h2, hcy, Instr.indexAt, asIntOf, run_underlying hu, run_size hP hq, hb0, hb1, hsz, Addr.add_plain]
   ·exact ⟨h1, g, _, cap, h5, by omega, by simp⟩
 ·rename_i e n lo sz hd e2
  split at h <;> try cases h
  rename_i e' t xs hm
  split at h <;> try cases h
  rename_i hsz
  obtain ⟨hsz, hszt⟩ := hsz
  obtain ⟨hb, h⟩ := chk_some h
  simp only [Bool.and_eq_true, leI_true, ltI_true] at hb
  obtain ⟨hb0, hb1⟩ := hb
  obtain ⟨hu, q, hq⟩ := td_slice hP hd
  rw [e2] at hx
  obtain ⟨h1, hlo, b, l0, c0, h2, h3, h4, h5⟩ := VR.CR hx (by simp)
  obtain ⟨vs, k1, k2⟩ := hs.mr.obj _ _ hm
  rw [tab_size hq] at hsz
  rcases k1.2 with ⟨k3, k4⟩ | ⟨g, cap, cur, k3, _⟩
  ·exfalso; omega
  ·rw [k3] at h2
   simp only [Value.slice.injEq] at h2
   obtain ⟨rfl, rfl, rfl⟩ := h2
   have hv : a.eval x = .slice (some ⟨g, lo.toNat * sz, none⟩) (xs.length - lo.toNat) (cap - lo.toNat) := by
    rw [h5]
    unfold sliced
    rw [if_neg (by omega)]
    simp [Addr.add_plain]
   have hi : i < ((xs.length - lo.toNat : Nat) : Int) := by omega
   have hadd : (lo + i).toNat = lo.toNat + i.toNat := by omega
   refine qg (v := .pointer (some ⟨g, (lo + i).toNat * t.size, none⟩)) (fun w' hw' => ?_) ?_ h
   ·simp [execOp, ho, hv, hcy, Instr.indexAt, asIntOf, run_underlying hu, run_size hP hq, hb0, hi, hsz, Addr.add_plain, hadd, Nat.add_mul, hszt]
   ·exact ⟨h1, g, _, cap, k3, by omega, by simp⟩
 ·rename_i e p n hd e2
  split at h <;> try cases h
  rename_i hsz
  obtain ⟨hb, h⟩ := chk_some h
  simp only [Bool.and_eq_true, leI_true, ltI_true] at hb
  obtain ⟨hb0, hb1⟩ := hb
  obtain ⟨hu, q, hq⟩ := td_slice hP hd
  rw [e2] at hx
  obtain ⟨h1, h2, h3, ⟨h4, h5⟩ | ⟨h4, b, c, h5⟩⟩ := VR.CR hx (by simp)
  ·exfalso; omega
  ·rw [tab_size hq] at hsz
   have hi : i < ((n.toNat : Nat) : Int) := by omega
   refine qg (v := .pointer (some ⟨b, i.toNat, none⟩)) (fun w' hw' => ?_) ?_ h
   ·simp [execOp, ho, h5, hcy, Instr.indexAt, asIntOf, run_underlying hu, run_size hP hq, hb0, hi, hsz, Addr.add_plain]
    omega
   ·exact ⟨⟨h1, hb0, hb1⟩, b, _, c, by rw [← h5]; exact h3, rfl⟩
 ·rename_i n e m off hd e2
  obtain ⟨j, _, hj, hi, h⟩ := selK_ok _ _ h
  rw [e2] at hx
  obtain ⟨h1, b, h2, h3⟩ := VR.CR hx (by simp)
  refine qg (v := _) (fun w' _ => arr n e hd _ h3 j (by omega) hi w') ?_ h
  exact ⟨h1, b, h2, by rw [Addr.add_plain]⟩
 ·rename_i n e t q off hd e2
  obtain ⟨j, _, hj, hi, h⟩ := selK_ok _ _ h
  rw [e2] at hx
  obtain ⟨ad, vs, h3, h4⟩ := VR.CR hx (by simp)
  refine qg (v := _) (fun w' _ => arr n e hd _ h3 j (by omega) hi w') ?_ h
  exact ⟨ad, vs, by rw [Addr.add_add], h4⟩
 ·rename_i n e m q z off hd e2
  obtain ⟨j, _, hj, hi, h⟩ := selK_ok _ _ h
  rw [e2] at hx
  obtain ⟨h1, g, l, c, h2, h4, h3⟩ := VR.CR hx (by simp)
  refine qg (v := _) (fun w' _ => arr n e hd _ h3 j (by omega) hi w') ?_ h
  exact ⟨h1, g, l, c, h2, h4, by rw [Addr.add_plain, Nat.add_assoc]⟩
 ·cases h
theorem ok_index {T : Nat} {x y : Operand} (ho : o.op = .index T x y) (hs : SX g ρ F s a w) (h : absOp tt Γ s o κ = some r) : QG P w ρ F s κ r o a := by
 simp only [absOp, ho] at h
 split at h <;> try cases h
 rename_i k i e1
 have hx := hs.ev x
 have hy := hs.ev y
 rw [e1] at hy
 have hcy : a.eval y = .int k i := VR.CR hy (by simp)
 split at h
 ·rename_i n e l hd e2
  obtain ⟨j, _, hj, hi, h⟩ := selK_ok _ _ h
  obtain ⟨hu, q, hq⟩ := td_array hP hd
  rw [e2] at hx
  obtain ⟨vs, hv, hc⟩ := hx
  split at h <;> try cases h
  rename_i ag l' hag hl
  split at h <;> try cases h
  rename_i z hz
  obtain ⟨v, h1, h2⟩ := part_ok hP hag hc hl hz
  refine qg (v := v) (fun w' hw' => ?_) h2 h
  subst hi
  have hj' : j < n := by omega
  rw [tab_size hq] at h1
  simp [execOp, ho, hv, hcy, Instr.index, asIntOf, run_underlying hu, run_size hP hq, hj', h1]
 ·rename_i b hd e2
  have hu := td_str hP hd
  rw [e2] at hx
  have hcx : a.eval x = .string b := VR.CR hx (by simp)
  obtain ⟨hb, h⟩ := chk_some h
  simp only [Bool.and_eq_true, leI_true, ltI_true] at hb
  obtain ⟨hb0, hb1⟩ := hb
  have hi : i.toNat < b.size := by omega
  refine qg (v := .int .u8 (bt b i)) (fun w' hw' => ?_) (VR.of_CR (c := .int .u8 _) rfl) h
  simp [execOp, ho, hcx, hcy, Instr.index, asIntOf, run_underlying hu, hb0, bt, hi]
 ·cases h
omit hP in
theorem ok_extract {i : Nat} {x : Operand} (ho : o.op = .extract x i) (hs : SX g ρ F s a w) (h : absOp tt Γ s o κ = some r) : QG P w ρ F s κ r o a := by
 simp only [absOp, ho] at h
 have hx := hs.ev x
 split at h <;> try cases h
 rename_i l e
 rw [e] at hx
 obtain ⟨vs, hv, hc⟩ := hx
 split at h <;> try cases h
 rename_i p hp
 obtain ⟨v, h1, h2⟩ := F2.get hc i p hp
 refine qg (v := v) (x := AV.ofComp p) (fun w' hw' => ?_) ?_ h
 ·rw [Array.getElem?_toList] at h1
  simp [execOp, ho, hv, Instr.extract, h1]
 ·obtain ⟨b, l'⟩ := p
  cases b with
  | true => exact h2
  | false =>
   match l', h2 with
   | [], _ => trivial
   | [c], h2 => exact h2
   | _ :: _ :: _, _ => trivial
end
end Go.Proofs.YtfihdjjilofklaaGreat.Am
