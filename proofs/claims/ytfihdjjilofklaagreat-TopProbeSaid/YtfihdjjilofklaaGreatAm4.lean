/- Each operation of the abstract machine is sound. -/
import Derived.Test.YtfihdjjilofklaaGreatAm23
import Derived.Laws.Small
import Derived.Laws.Entries
import Derived.Laws.Slices
set_option linter.unusedVariables false
set_option linter.unusedSimpArgs false
namespace Go.Proofs.YtfihdjjilofklaaGreat.Am
open Go
theorem F2.of_get {α β : Type} {R : α → β → Prop} : ∀ {l : List α} {r : List β}, l.length = r.length → (∀ (j : Nat) (a : α) (b : β), l[j]? = some a → r[j]? = some b → R a b) → F2 R l r
 | [], [], _, _ => .nil
 | a :: l, b :: r, h, k => .cons (k 0 a b (by simp) (by simp)) (F2.of_get (by simpa using h) fun j a b h1 h2 => k (j + 1) a b (by simpa using h1) (by simpa using h2))
theorem VR_cells {w : World} {ρ : Nat → Value} {F : FS} {N : Nat} {x : AV} {v : Value} (h : VR w ρ F N x v) (h1 : x ≠ .one .any) (h2 : ∀ l, x ≠ .tup l) : CRs w ρ F N x.cells v.cells.toList := by
 cases x with
 | one c =>
  have hc := VR.CR h (fun e => h1 (by rw [e]))
  have : v.cells = #[v] := by have := hc.one; cases v <;> first | rfl | (simp [Value.oneCell'] at this)
  rw [this]
  exact .cons hc .nil
 | agg l => obtain ⟨vs, rfl, h⟩ := h; exact h
 | tup l => exact absurd rfl (h2 l)
section
variable {R : Type} {P : Program} {tt : Tab} (hP : TabOk P tt) {Γ : GamF} {pu : Prop} {g : Beg} {ρ : Nat → Value} {F : FS} {s : St} {a : Act} {w : World} {κ : St → Option R} {r : R} {o : Oper}
include hP
theorem zero_ok {T : Nat} {i : TI} (h : tt T = some i) : ∃ z, (zeroValue T).run P w = .ok z w ∧ CRs w ρ F s.mem.length i.zero z.cells.toList := by
 obtain ⟨inf, z, h1, h2, h3, h4, h5⟩ := tab_info hP h
 refine ⟨z, by simp [zeroValue, typeInfo, h1, h4], ?_⟩
 have hna := (hP T i h).noAny
 rw [← h5] at hna ⊢
 refine F2.of_get (by simp) fun j c v hj hv => ?_
 rw [List.getElem?_map, hv] at hj
 simp at hj
 subst hj
 refine CR_ofV ?_
 have : AC.ofV v ∈ z.cells.toList.map AC.ofV := List.mem_map.2 ⟨v, List.mem_of_getElem? hv, rfl⟩
 have := List.all_eq_true.1 hna _ this
 intro e
 rw [e] at this
 simp [isAny] at this
theorem ok_alloc {T : Nat} {i : TI} (ho : o.op = .alloc T) (hs : SX g ρ F s a w) (hT : tt T = some i)
  (h : (match allocA T i.zero s.mem with
   | some (m, j) => κ ((⟨s.tmps, m⟩ : St).put o.dst (.one (.np j 0)))
   | none => κ ((⟨s.tmps, s.mem ++ [.var T i.zero]⟩ : St).put o.dst (.one (.ptr s.mem.length 0)))) = some r) : Goes P g κ r o a w := by
 obtain ⟨z, h1, h2⟩ := zero_ok hP (w := w) (ρ := ρ) (F := F) (s := s) hT
 have hs' := hs.newObj (w' := w.alloc (.cells z.cells T)) (o := .var T i.zero) (v := .pointer (some ⟨w.heap.size, 0, none⟩)) (World.grownBy_alloc w _ none) (fun b hb => by simp [blk, blk1] at hb; omega)
  ⟨w.heap.size, z.cells, rfl, heap_alloc_new w _, h2.mono (Mv.grown (World.grownBy_alloc w _ none) hs.mr.lt) (fun c _ n hn _ => upd_ne _ _ (by omega)) (by omega)⟩
 split at h
 ·rename_i m j hp
  obtain ⟨ρ', F', k1, k2, k3, k4, k5, bk, k6, k7⟩ := hs'.push hp
  rw [upd_same] at k6
  cases k6
  refine goes_new (v := .pointer (some ⟨w.heap.size, 0, none⟩)) ?_ k4 ?_ h (fun _ _ => Ext.of_grown (World.grownBy_alloc w _ none))
  ·simp [execOp, ho, Instr.alloc, h1, newVar, newRow]
  ·exact ⟨k5, _, k7, rfl⟩
 refine goes_new (v := .pointer (some ⟨w.heap.size, 0, none⟩)) ?_ hs' ?_ h (fun _ _ => Ext.of_grown (World.grownBy_alloc w _ none))
 ·simp [execOp, ho, Instr.alloc, h1, newVar, newRow]
 ·exact ⟨by simp, w.heap.size, by rw [upd_same], rfl⟩
omit hP in
theorem ok_box {T : Nat} {x : Operand} (ho : o.op = .box T x) (hs : SX g ρ F s a w) (h1 : s.ev x ≠ .one .any) (h2 : ∀ l, s.ev x ≠ .tup l)
  (h : (match allocA T (s.ev x).cells s.mem with
   | some (m, j) => κ ((⟨s.tmps, m⟩ : St).put o.dst (.one (.np j 0)))
   | none => κ ((⟨s.tmps, s.mem ++ [.var T (s.ev x).cells]⟩ : St).put o.dst (.one (.ptr s.mem.length 0)))) = some r) : Goes P g κ r o a w := by
 have hc := VR_cells (hs.ev x) h1 h2
 have hs' := hs.newObj (w' := w.alloc (.cells (a.eval x).cells T)) (o := .var T (s.ev x).cells) (v := .pointer (some ⟨w.heap.size, 0, none⟩)) (World.grownBy_alloc w _ none) (fun b hb => by simp [blk, blk1] at hb; omega)
  ⟨w.heap.size, _, rfl, heap_alloc_new w _, hc.mono (Mv.grown (World.grownBy_alloc w _ none) hs.mr.lt) (fun c _ n hn _ => upd_ne _ _ (by omega)) (by omega)⟩
 split at h
 ·rename_i m j hp
  obtain ⟨ρ', F', k1, k2, k3, k4, k5, bk, k6, k7⟩ := hs'.push hp
  rw [upd_same] at k6
  cases k6
  refine goes_new (v := .pointer (some ⟨w.heap.size, 0, none⟩)) ?_ k4 ?_ h (fun _ _ => Ext.of_grown (World.grownBy_alloc w _ none))
  ·simp [execOp, ho, Instr.box, newVar, newRow]
  ·exact ⟨k5, _, k7, rfl⟩
 refine goes_new (v := .pointer (some ⟨w.heap.size, 0, none⟩)) ?_ hs' ?_ h (fun _ _ => Ext.of_grown (World.grownBy_alloc w _ none))
 ·simp [execOp, ho, Instr.box, newVar, newRow]
 ·exact ⟨by simp, w.heap.size, by rw [upd_same], rfl⟩
omit hP in
theorem setCells_ok {N : Nat} : ∀ {l cs : List AC} {vs us : List Value} (off : Nat), CRs w ρ F N l vs → CRs w ρ F N cs us → CRs w ρ F N (setCells l off cs) ((us.foldl (fun (p : List Value × Nat) u => (p.1.set p.2 u, p.2 + 1)) (vs, off)).1)
 | l, [], vs, us, off, h, k => by cases k; exact h
 | l, c :: cs, vs, us, off, h, k => by
  cases k with
  | cons k1 k2 =>
   unfold setCells
   simp only [List.foldl_cons]
   exact setCells_ok (off + 1) (F2.set h _ _ k1 off) k2
omit hP in
theorem foldl_set_eq : ∀ (us vs : List Value) (off : Nat), off + us.length ≤ vs.length → (us.foldl (fun (p : List Value × Nat) u => (p.1.set p.2 u, p.2 + 1)) (vs, off)).1 = vs.take off ++ us ++ vs.drop (off + us.length)
 | [], vs, off, h => by simp
 | u :: us, vs, off, h => by
  simp only [List.foldl_cons]
  simp only [List.length_cons] at h ⊢
  rw [foldl_set_eq us (vs.set off u) (off + 1) (by simp; omega)]
  rw [List.drop_set_of_lt (by omega), show off + 1 + us.length = off + (us.length + 1) by omega]
  congr 1
  rw [List.take_set, List.take_succ_eq_append_getElem (by omega), List.set_append]
  simp [Nat.min_eq_left (show off ≤ vs.length by omega)]
omit hP in
theorem setCells_ok' {N : Nat} {l cs : List AC} {vs us : List Value} (off : Nat) (h : CRs w ρ F N l vs) (k : CRs w ρ F N cs us) (hl : off + cs.length ≤ l.length) : CRs w ρ F N (setCells l off cs) (vs.take off ++ us ++ vs.drop (off + us.length)) := by
 rw [← foldl_set_eq us vs off (by rw [← F2.length h, ← F2.length k]; exact hl)]
 exact setCells_ok off h k
def spl (l : List Value) (A : Nat) (us : List Value) : List Value := l.take A ++ us ++ l.drop (A + us.length)
omit hP in
theorem spl_len (l us : List Value) (A : Nat) (h : A + us.length ≤ l.length) : (spl l A us).length = l.length := by simp [spl]; omega
omit hP in
theorem spl_get (l us : List Value) (A j : Nat) (h : A + us.length ≤ l.length) : (spl l A us)[j]? = if j < A then l[j]? else if j < A + us.length then us[j - A]? else l[j]? := by
 unfold spl
 have hA : (l.take A).length = A := by simp; omega
 split
 ·rename_i h1
  rw [List.append_assoc, List.getElem?_append_left (by omega), List.getElem?_take, if_pos h1]
 ·rename_i h1
  split
  ·rename_i h2
   rw [List.append_assoc, List.getElem?_append_right (by omega), hA, List.getElem?_append_left (by omega)]
  ·rename_i h2
   rw [List.getElem?_append_right (by simp; omega), List.getElem?_drop]
   congr 1
   simp
   omega
omit hP in
theorem spl_row (cur us : List Value) (n sz i off : Nat) (hi : i < n) (hoff : off + us.length ≤ sz) (hc : n * sz ≤ cur.length) :
  (spl cur (i * sz + off) us).take (n * sz) = (cur.take (n * sz)).take (i * sz) ++ spl (((cur.take (n * sz)).drop (i * sz)).take sz) off us ++ (cur.take (n * sz)).drop (i * sz + sz) := by
 have h1 : i * sz + sz ≤ n * sz := by
  have : (i + 1) * sz ≤ n * sz := Nat.mul_le_mul_right _ hi
  rw [Nat.add_mul] at this
  omega
 have hA : ((cur.take (n * sz)).take (i * sz)).length = i * sz := by simp; omega
 have hB : (((cur.take (n * sz)).drop (i * sz)).take sz).length = sz := by simp; omega
 have hC : (spl (((cur.take (n * sz)).drop (i * sz)).take sz) off us).length = sz := by rw [spl_len _ _ _ (by omega)]; exact hB
 have hin : ∀ q, q < sz → (((cur.take (n * sz)).drop (i * sz)).take sz)[q]? = cur[i * sz + q]? := fun q hq => by
  rw [List.getElem?_take, if_pos hq, List.getElem?_drop, List.getElem?_take, if_pos (by omega)]
 apply List.ext_getElem?
 intro j
 rw [List.getElem?_take]
 by_cases hj : j < n * sz
 ·rw [if_pos hj, spl_get _ _ _ _ (by omega)]
  by_cases h2 : j < i * sz
  ·rw [if_pos (show j < i * sz + off by omega), List.append_assoc, List.getElem?_append_left (by omega), List.getElem?_take, if_pos h2, List.getElem?_take, if_pos hj]
  ·by_cases h3 : j < i * sz + sz
   ·rw [List.append_assoc, List.getElem?_append_right (by omega), hA, List.getElem?_append_left (by omega), spl_get _ _ _ _ (by omega), hin _ (by omega), show i * sz + (j - i * sz) = j by omega]
    by_cases h4 : j < i * sz + off
    ·rw [if_pos h4, if_pos (show j - i * sz < off by omega)]
    ·rw [if_neg h4, if_neg (show ¬ j - i * sz < off by omega), show j - i * sz - off = j - (i * sz + off) by omega]
     by_cases h5 : j < i * sz + off + us.length
     ·rw [if_pos h5, if_pos (show j - i * sz < off + us.length by omega)]
     ·rw [if_neg h5, if_neg (show ¬ j - i * sz < off + us.length by omega)]
   ·rw [if_neg (show ¬ j < i * sz + off by omega), if_neg (show ¬ j < i * sz + off + us.length by omega), List.getElem?_append_right (by simp only [List.length_append, hA, hC]; omega), List.getElem?_drop, List.getElem?_take, if_pos (by simp only [List.length_append, hA, hC]; omega)]
    congr 1
    simp only [List.length_append, hA, hC]
    omega
 ·rw [if_neg hj, List.getElem?_eq_none]
  simp only [List.length_append, hA, hC, List.length_drop, List.length_take]
  omega
theorem ok_store {T : Nat} {x y : Operand} {p : AC} (ho : o.op = .store T x y) (hd : o.dst = none) (hs : SX g ρ F s a w) (hx : s.ev x = .one p) (h : absStore tt s T p (s.ev y) κ = some r) : Goes P g κ r o a w := by
 have hp := hs.ev x
 rw [hx] at hp
 unfold absStore at h
 split at h
 ·cases h
 ·cases h
 rename_i hn1 hn2
 have hc := VR_cells (hs.ev y) (fun e => hn2 e) (fun l e => hn1 l e)
 split at h
 case isFalse => cases h
 rename_i hlen
 obtain ⟨hlen, hT⟩ := hlen
 obtain ⟨i, hT⟩ := Option.isSome_iff_exists.1 hT
 rw [tab_size hT] at hlen
 have hcl : (a.eval y).cells.size = i.size := by have := F2.length hc; simp at this; omega
 have hone : ∀ v ∈ (a.eval y).cells.toList, v.oneCell' = true := CRs.one hc
 split at h
 ·
  rename_i n off
  have hp := VR.CR hp (by simp)
  obtain ⟨hn, b, h1, h2⟩ := hp
  split at h <;> try cases h
  rename_i U l hm
  split at h <;> try cases h
  rename_i hfit
  obtain ⟨b', vs, h3, h4, h5⟩ := hs.mr.obj _ _ hm
  rw [h1] at h3
  cases h3
  have hl := F2.length h5
  have hll := F2.length hc
  have hst := run_storeCells_at P b off U (a.eval y).cells.toList 0 vs w h4 (by simp at hl hll ⊢; omega) hone
  have hnl : live s.mem n := ⟨_, hm, by simp⟩
  simp only [Nat.add_zero] at hst
  have hrun : (execOp a.eval o).run P w = .ok .skip (w.setRow b (vs.toList.take off ++ (a.eval y).cells.toList ++ vs.toList.drop (off + (a.eval y).cells.toList.length)).toArray) := by
   simp [execOp, ho, h2, Instr.storeAt, Instr.sureAddr, storeVar, run_size hP hT, hcl]
   rw [hst]
   simp [hcl]
  have hg : w.grownBy (w.setRow b (vs.toList.take off ++ (a.eval y).cells.toList ++ vs.toList.drop (off + (a.eval y).cells.toList.length)).toArray) (some b) :=
   ⟨rfl, rfl, rfl, by simp, fun k hk hne => setRow_other w b k _ (fun e => hne (by rw [e]))⟩
  have hob : ∀ c, some b = some c → c ∈ blk (ρ n) := fun c e => by cases e; rw [h1]; simp [blk, blk1]
  have hm2 : Mv w (w.setRow b (vs.toList.take off ++ (a.eval y).cells.toList ++ vs.toList.drop (off + (a.eval y).cells.toList.length)).toArray) F F :=
   ⟨.refl _, fun c hc => hg.block c (hs.mr.lt c hc) (fun e => hs.mr.sep n c hnl (hob c e.symm) hc)⟩
  have hs' := hs.setObj (w' := w.setRow b (vs.toList.take off ++ (a.eval y).cells.toList ++ vs.toList.drop (off + (a.eval y).cells.toList.length)).toArray) hnl hob hg (o := .var U (setCells l off (s.ev y).cells))
   ⟨b, _, h1, setRow_heap w b vs _ U _ h4, CRs.mono hm2 (fun _ _ _ _ _ => rfl) (Nat.le_refl _) (setCells_ok' off h5 hc hfit)⟩
  exact goes_skip hd hrun hs' h (fun hg => by simp [growOp, ho] at hg) (.store ho fun T' x' y' e => by rw [ho] at e; cases e; exact ⟨_, h2, hg.size, fun c hc => setRow_other w b c _ hc⟩)
 ·rename_i n i' sz off
  have hp := VR.CR hp (by simp)
  obtain ⟨hn, g, len', cap, h1, hi, h2⟩ := hp
  split at h
  ·cases h
  rename_i cs m hf
  obtain ⟨F1, hm1, hs1, hc1, hlm⟩ := frz_ok hf hc hs
  split at h <;> try cases h
  rename_i e t xs hm
  split at h <;> try cases h
  rename_i hsz
  obtain ⟨rfl, hfit⟩ := hsz
  split at h <;> try cases h
  rename_i x' hx'
  obtain ⟨vs, h3, h4⟩ := hs1.mr.obj _ _ hm
  rw [h1] at h3
  rcases h3.2 with ⟨h5, _⟩ | ⟨g', cap', cur, h5, _, h6, h7, h8, h9, h10⟩
  ·cases h5
  cases h5
  have hnl : live m n := ⟨_, hm, by simp⟩
  have hrt := h4.at i'.toNat _ (rdd_get hi)
  have hll := F2.length hc1
  have hin : (i'.toNat + 1) * t.size ≤ xs.length * t.size := Nat.mul_le_mul_right _ hi
  rw [Nat.add_mul] at hin
  have hcap : xs.length * t.size ≤ cap * t.size := Nat.mul_le_mul_right _ h7
  have hnew := unflatAll_ok (ρ := ρ) (N := m.length) t hx' (setCells_ok' off (RT_flat t hrt) (by rw [hlm]; exact hc1) (by rw [F2.length (RT_flat (ρ := ρ) (N := m.length) t hrt), RT.len t hrt]; exact hfit))
  have hst := run_storeCells_at P g (i'.toNat * t.size + off) e (a.eval y).cells.toList 0 cur w h6 (by rw [h9]; omega) hone
  simp only [Nat.add_zero] at hst
  have hrun : (execOp a.eval o).run P w = .ok .skip (w.setRow g (spl cur.toList (i'.toNat * t.size + off) (a.eval y).cells.toList).toArray) := by
   unfold spl
   simp [execOp, ho, h2, Instr.storeAt, Instr.sureAddr, storeVar, run_size hP hT, hcl]
   rw [hst]
   simp [hcl]
  have hg : w.grownBy (w.setRow g (spl cur.toList (i'.toNat * t.size + off) (a.eval y).cells.toList).toArray) (some g) :=
   ⟨rfl, rfl, rfl, by simp, fun k hk hne => setRow_other w g k _ (fun e => hne (by rw [e]))⟩
  have hob : ∀ c, some g = some c → c ∈ blk (ρ n) := fun c e => by cases e; rw [h1]; simp [blk, blk1]
  have hm2 : Mv w (w.setRow g (spl cur.toList (i'.toNat * t.size + off) (a.eval y).cells.toList).toArray) F1 F1 :=
   ⟨.refl _, fun c hc => hg.block c (hs1.mr.lt c hc) (fun e => hs1.mr.sep n c hnl (hob c e.symm) hc)⟩
  have hcl' : cur.toList.length = cap * t.size := by simpa using h9
  have hrow := spl_row cur.toList (a.eval y).cells.toList xs.length t.size i'.toNat off hi (by omega) (by omega)
  rw [h10] at hrow
  have hs' := hs1.setObj (w' := w.setRow g (spl cur.toList (i'.toNat * t.size + off) (a.eval y).cells.toList).toArray) hnl hob hg (o := .row e t (xs.set i'.toNat x'))
   ⟨(spl cur.toList (i'.toNat * t.size + off) (a.eval y).cells.toList).take (xs.length * t.size), by
    rw [h1, List.length_set]
    refine ⟨by rw [List.length_take, spl_len _ _ _ (by omega)]; omega, .inr ⟨g, cap, _, rfl, Nat.zero_le _, setRow_heap w g cur _ e _ h6, h7, h8, ?_, ?_⟩⟩
    ·rw [List.size_toArray, spl_len _ _ _ (by omega)]; exact hcl'
    ·rfl, by
    rw [hrow]
    exact (h4.mono hm2.le hm2.same).set i'.toNat x' _ hi (RT.mono hm2.le hm2.same t hnew)⟩
  exact goes_skip hd hrun hs' h (fun hg => by simp [growOp, ho] at hg) (.store ho fun T' x' y' e => by rw [ho] at e; cases e; exact ⟨_, h2, hg.size, fun c hc => setRow_other w g c _ hc⟩)
 ·
  rename_i j off
  have hp := VR.CR hp (by simp)
  obtain ⟨hj, bk, hbk, h2⟩ := hp
  split at h
  ·cases h
  rename_i cs m hf
  obtain ⟨F1, hm1, hs1, hc1, hlm⟩ := frz_ok hf hc hs
  have hbk1 := hm1.le.nu _ _ hbk
  unfold absNode at h
  split at h
  ·cases h
  rename_i n hn
  have hll := F2.length hc1
  have fin : ∀ {T' e : Nat} {ta tb : Ty} {recs : List (ta.den × List Int × tb.den)} {pend pend' : Option (Int × List Int)} {r' : ta.den × List Int × tb.den}, m[n]? = some (.arena T' e ta tb recs pend) →
    (∀ q, q ≠ j.toNat → more pend' q = more pend q) → off + cs.length ≤ ta.size + 1 + tb.size →
    (∀ (vs : List Value) (kv k0 : Value) (w' : World), NC w F1 ta tb (recD ta tb recs j) k0 vs → F1.ka j.toNat (recD ta tb recs j).2.1.length = some k0 → KV (recD ta tb recs j).2.1.length k0 → F1.ka j.toNat ((recD ta tb recs j).2.1 ++ more pend j.toNat).length = some kv → KR w F1 e ((recD ta tb recs j).2.1 ++ more pend j.toNat) kv →
     (∃ k1, NC w F1 ta tb r' k1 (spl vs off (a.eval y).cells.toList) ∧ F1.ka j.toNat r'.2.1.length = some k1 ∧ KV r'.2.1.length k1) ∧ r'.2.1 ++ more pend' j.toNat = (recD ta tb recs j).2.1 ++ more pend j.toNat) →
    κ ⟨s.tmps, m.set n (.arena T' e ta tb (recs.set j.toNat r') pend')⟩ = some r → Goes P g κ r o a w := by
   intro T' e ta tb recs pend pend' r' hmn hpp hoff hnew hk
   obtain ⟨ks, _, har⟩ := hs1.mr.obj _ _ hmn
   obtain ⟨hlt, kv, hkv, hnode⟩ := har.at hbk1
   obtain ⟨vs, k0, g1, g2, g3, g4⟩ := hnode.cells
   have hvl : vs.toList.length = ta.size + 1 + tb.size := by
    obtain ⟨l1, l2, e1, e2, e3⟩ := g2
    rw [e1, List.length_append, List.length_cons, RT.len ta e2, RT.len tb e3]
    omega
   have hst := run_storeCells_at P bk off T' (a.eval y).cells.toList 0 vs w g1 (by rw [← Array.length_toList, hvl]; omega) hone
   simp only [Nat.add_zero] at hst
   have hrun : (execOp a.eval o).run P w = .ok .skip (w.setRow bk (spl vs.toList off (a.eval y).cells.toList).toArray) := by
    unfold spl
    simp [execOp, ho, h2, Instr.storeAt, Instr.sureAddr, storeVar, run_size hP hT, hcl]
    rw [hst]
    simp [hcl]
   have hg : w.grownBy (w.setRow bk (spl vs.toList off (a.eval y).cells.toList).toArray) (some bk) :=
    ⟨rfl, rfl, rfl, by simp, fun k hk hne => setRow_other w bk k _ (fun e => hne (by rw [e]))⟩
   have hs' := hs1.setNode hmn hbk1 hg (r := r') (pend' := pend') hpp (fun kv' r0 q1 q2 q3 q4 => by
    rw [recD_get hlt] at q1
    cases q1
    obtain ⟨cs', k0', p1, p2, p3, p4⟩ := q2.cells
    rw [g1] at p1
    cases p1
    obtain ⟨⟨k1, x1, x2, x3⟩, x4⟩ := hnew vs.toList kv' k0' w p2 p3 p4 q2.now q2.row
    refine ⟨q2.nu, ⟨_, k1, setRow_heap w bk vs _ T' _ g1, ?_, x2, x3⟩, by rw [x4]; exact q2.now, by rw [x4]; exact q2.row.mono q4 q3, fun n hn => q2.top n (by rw [← x4]; exact hn)⟩
    exact x1.mono q4)
   exact goes_skip hd hrun hs' hk (fun hg => by simp [growOp, ho] at hg) (.store ho fun T' x' y' e => by rw [ho] at e; cases e; exact ⟨_, h2, hg.size, fun c hc => setRow_other w bk c _ hc⟩)
  split at h <;> try cases h
  ·rename_i T' e ta tb recs hmn
   split at h
   ·rename_i hfit
    split at h <;> try cases h
    rename_i x' hx'
    refine fin hmn (fun _ _ => rfl) (by omega) (fun vs kv k0 w' q1 q2 q3 q4 q5 => ?_) h
    obtain ⟨l1, l2, rfl, e2, e3⟩ := q1
    have h1l := RT.len ta e2
    refine ⟨⟨k0, ⟨spl l1 off (a.eval y).cells.toList, l2, ?_, ?_, e3⟩, q2, q3⟩, rfl⟩
    ·unfold spl
     rw [List.take_append_of_le_length (by omega), List.drop_append_of_le_length (by omega), List.append_assoc, List.append_assoc, List.append_assoc]
    ·exact unflatAll_ok (ρ := ρ) (N := m.length) ta hx' (setCells_ok' off (RT_flat ta e2) (by rw [hlm]; exact hc1) (by rw [F2.length (RT_flat (ρ := ρ) (N := m.length) ta e2), h1l]; exact hfit))
   ·split at h
    ·rename_i hfit
     obtain ⟨hf1, hf2⟩ := hfit
     split at h <;> try cases h
     rename_i y' hy'
     refine fin hmn (fun _ _ => rfl) (by omega) (fun vs kv k0 w' q1 q2 q3 q4 q5 => ?_) h
     obtain ⟨l1, l2, rfl, e2, e3⟩ := q1
     have h1l := RT.len ta e2
     have h2l := RT.len tb e3
     refine ⟨⟨k0, ⟨l1, spl l2 (off - (ta.size + 1)) (a.eval y).cells.toList, ?_, e2, ?_⟩, q2, q3⟩, rfl⟩
     ·have e0 : l1 ++ k0 :: l2 = (l1 ++ [k0]) ++ l2 := by simp
      have hl0 : (l1 ++ [k0]).length = ta.size + 1 := by simp [h1l]
      have eo : off = (l1 ++ [k0]).length + (off - (ta.size + 1)) := by omega
      unfold spl
      rw [e0, eo, takeA, Nat.add_assoc, dropA]
      simp [List.append_assoc, hl0, h1l]
     ·exact unflatAll_ok (ρ := ρ) (N := m.length) tb hy' (setCells_ok' (off - (ta.size + 1)) (RT_flat tb e3) (by rw [hlm]; exact hc1) (by rw [F2.length (RT_flat (ρ := ρ) (N := m.length) tb e3), h2l]; exact hf2))
    ·cases h
  ·rename_i T' e ta tb recs ip ys hmn
   split at h <;> try cases h
   rename_i i2 n2
   split at h <;> try cases h
   rename_i hoff
   obtain ⟨hck, hk⟩ := chkA h
   clear h
   simp only [eqI, Bool.and_eq_true, decide_eq_true_eq] at hck
   obtain ⟨rfl, rfl, hn2⟩ := hck
   refine fin (pend' := none) (r' := ((recD ta tb recs j).1, (recD ta tb recs j).2.1 ++ ys, (recD ta tb recs j).2.2)) hmn (fun q hq => by simp only [more]; rw [if_neg (fun e => hq e.symm)]) (by simp; omega) (fun vs kv k0 w' q1 q2 q3 q4 q5 => ?_) hk
   obtain ⟨l1, l2, rfl, e2, e3⟩ := q1
   have h1l := RT.len ta e2
   have hmore : more (some (j, ys)) j.toNat = ys := by simp [more]
   rw [hmore] at q4 q5
   cases hcv : (a.eval y).cells.toList with
   | nil => rw [hcv] at hc1; cases hc1
   | cons u us =>
    rw [hcv] at hc1
    cases hc1 with
    | cons g1 g2 =>
     cases g2
     obtain ⟨g1, g2, g3, g4⟩ := g1
     have hn3 : n2.toNat = ((recD ta tb recs j).2.1 ++ ys).length := by rw [List.length_append]; omega
     refine ⟨⟨u, ⟨l1, l2, ?_, e2, e3⟩, by rw [← hn3]; exact g3, ?_⟩, by rw [hmore]; simp [more]⟩
     ·subst hoff
      unfold spl
      rw [← h1l]
      simp
     ·rcases g4 with ⟨g5, g6⟩ | ⟨g5, b', c, g6⟩
      ·exact .inl ⟨by rw [← hn3]; omega, g6⟩
      ·exact .inr ⟨by rw [← hn3]; omega, b', c, by rw [← hn3]; exact g6⟩
 ·cases h
end
end Go.Proofs.YtfihdjjilofklaaGreat.Am
