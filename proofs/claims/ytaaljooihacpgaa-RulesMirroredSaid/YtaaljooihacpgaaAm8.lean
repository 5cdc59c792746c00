/- Each operation of the abstract machine is sound, last part. -/
import Derived.Test.YtaaljooihacpgaaAm7
set_option linter.unusedVariables false
set_option linter.unusedSimpArgs false
namespace Go.Proofs.Ytaaljooihacpgaa.Am
open Go

section
variable {R : Type} {P : Program} {tt : Tab} (hP : TabOk P tt) {Γ : GamF} {pu : Prop} {g : Beg} {ρ : Nat → Value} {F : Nat → Prop} {s : St} {a : Act} {w : World} {κ : St → Option R} {r : R} {o : Oper}

theorem bnd_ok {q : Option Operand} {d l : Int} (hs : SX g ρ F s a w) (h : s.bnd q d = some l) : (q = none ∧ l = d) ∨ ∃ x k, q = some x ∧ a.eval x = .int k l := by
  unfold St.bnd at h
  split at h
  · cases h; exact .inl ⟨rfl, rfl⟩
  · rename_i x
    split at h <;> cases h
    rename_i k e
    have hx := hs.ev x
    rw [e] at hx
    exact .inr ⟨x, k, rfl, VR.CR hx (by simp)⟩

theorem bounds_ok {lo hi : Option Operand} {l h : Int} {n c : Nat} {b : Bool} (hs : SX g ρ F s a w) (h1 : s.bnd lo 0 = some l) (h2 : s.bnd hi n = some h) (h3 : 0 ≤ l) (h4 : l ≤ h) (h5 : h ≤ n) (h6 : n ≤ c) :
    ∀ w' : World, (Instr.sliceBounds b n c (lo.map a.eval) (hi.map a.eval) none).run P w' = .ok (l.toNat, h.toNat, c) w' := by
  intro w'
  have hb : ∀ (k : IntKind) (i : Int) (y : Nat) (code : BoundsCode), 0 ≤ i → i ≤ y → (Instr.sliceBound (.int k i) y code).run P w' = .ok i.toNat w' := fun k i y code => run_sliceBound w' k i y code
  have hh : (h.toNat : Int) = h := Int.toNat_of_nonneg (by omega)
  rcases bnd_ok hs h1 with ⟨rfl, rfl⟩ | ⟨x, k, rfl, hx⟩ <;> rcases bnd_ok hs h2 with ⟨rfl, rfl⟩ | ⟨y, k', rfl, hy⟩
  · simp [Instr.sliceBounds]
  · simp [Instr.sliceBounds, hy, hb k' h c _ (by omega) (by omega)]
  · simp [Instr.sliceBounds, hx, hb k l n _ h3 h4]
  · simp [Instr.sliceBounds, hx, hy, hb k' h c _ (by omega) (by omega), hb k l h.toNat _ h3 (by omega)]

include hP
theorem ok_slice {T : Nat} {x : Operand} {lo hi mx : Option Operand} (ho : o.op = .slice T x lo hi mx) (hs : SX g ρ F s a w) (h : absOp tt Γ s o κ = some r) : QG P w ρ F s κ r o a := by
  simp only [absOp, ho] at h
  split at h
  · cases h
  have hx := hs.ev x
  split at h
  · rename_i b hd e
    have hu := td_str hP hd
    rw [e] at hx
    have hv : a.eval x = .string b := VR.CR hx (by simp)
    split at h <;> try cases h
    rename_i l q e1 e2
    obtain ⟨hb, h⟩ := chk_some h
    simp only [Bool.and_eq_true, leI_true] at hb
    obtain ⟨h3, h4, h5⟩ := hb
    have hbd := bounds_ok (P := P) (b := false) (c := b.size) hs e1 e2 h3 h4 h5 (Nat.le_refl _)
    refine qg (v := _) (fun w' hw' => ?_) (VR.of_CR (c := .str _) rfl) h
    simp [execOp, ho, hv, run_sliceAt_string (P := P) w' T _ _ _ _ hu, Instr.slice, run_underlying hu, hbd]
  · rename_i e0 e' t xs hd e
    obtain ⟨hu, q, hq⟩ := td_slice hP hd
    rw [e] at hx
    have hrt : RT w F (.slice e' t) xs [a.eval x] := VR.CR hx (by simp)
    obtain ⟨b, c, hv, hcap, hrt⟩ := hrt
    simp only [List.cons.injEq, and_true] at hv
    split at h <;> try cases h
    rename_i l q' e1 e2
    split at h <;> try cases h
    rename_i hsz
    obtain ⟨hb, h⟩ := chk_some h
    simp only [Bool.and_eq_true, leI_true] at hb
    obtain ⟨h3, h4, h5⟩ := hb
    have hcap' : xs.length ≤ c := hcap
    have hbd := bounds_ok (P := P) (b := true) (c := c) hs e1 e2 h3 h4 h5 hcap'
    rw [tab_size hq] at hsz
    have hel : P.elem T = e0 := by unfold Program.elem; rw [hu]
    have hv' : a.eval x = .slice b xs.length c := hv
    have hrun : ∀ w' : World, (freeOp o = true ∨ Ext w w') → (execOp a.eval o).run P w' = .ok (.value (sliced b l.toNat q'.toNat c t.size)) w' := by
      intro w' _
      simp [execOp, ho, Instr.sliceAt, Instr.slice, run_underlying hu, hv', hbd, run_size hP hq, sliced, hsz]
    refine qg hrun ?_ h
    show RT w F (.slice e' t) ((xs.take q'.toNat).drop l.toNat) [_]
    have hlen : ((xs.take q'.toNat).drop l.toNat).length = q'.toNat - l.toNat := by simp; omega
    have hget : ∀ (i : Nat) (y : t.den), ((xs.take q'.toNat).drop l.toNat)[i]? = some y → xs[l.toNat + i]? = some y := by
      intro i y h7
      rw [List.getElem?_drop, List.getElem?_take] at h7
      split at h7
      · exact h7
      · cases h7
    have key : ∀ ys : (Ty.slice e' t).den, len (α := t.den) ys = q'.toNat - l.toNat → (∀ (i : Nat) (y : t.den), nth (α := t.den) ys i = some y → xs[l.toNat + i]? = some y) → RT w F (.slice e' t) ys [sliced b l.toNat q'.toNat c t.size] := by
      intro ys hl hg
      unfold RT
      refine ⟨_, _, by unfold sliced; rw [hl], by rw [hl]; omega, ?_⟩
      rcases hrt with h0 | ⟨ad, rfl, hF, hrt⟩
      · left
        have : xs.length = 0 := h0
        rw [hl]
        omega
      · by_cases hz : q'.toNat = l.toNat
        · left
          rw [hl]
          omega
        · right
          refine ⟨ad.add (l.toNat * t.size), ?_, by simpa using hF, fun i y hi => ?_⟩
          · rw [if_neg (by omega)]; rfl
          · obtain ⟨vs, h8, h9⟩ := hrt _ _ (hg i y hi)
            refine ⟨vs, h8, ?_⟩
            rw [Addr.add_add, ← Nat.add_mul]
            exact h9
    exact key _ hlen hget
  · cases h

omit hP in
theorem rep_eq (n : Nat) (l : List AC) : rep n l = (List.replicate n l).flatten := by
  induction n with
  | zero => rfl
  | succ n ih => rw [List.replicate_succ, List.flatten_cons, ← ih]; rfl
omit hP in
theorem CRs_rep {N : Nat} {l : List AC} {vs : List Value} (h : CRs w ρ F N l vs) (n : Nat) : CRs w ρ F N (rep n l) (List.replicate n vs).flatten := by
  induction n with
  | zero => exact .nil
  | succ n ih => rw [List.replicate_succ, List.flatten_cons]; exact F2.append h ih

theorem ok_buildSlice {T n : Nat} {parts : Array (Nat × Operand)} (ho : o.op = .buildSlice T n parts) (hs : SX g ρ F s a w) (h : absOp tt Γ s o κ = some r) : Goes P g κ r o a w := by
  simp only [absOp, ho] at h
  split at h <;> try cases h
  rename_i e hd
  split at h <;> try cases h
  rename_i i hT
  split at h <;> try cases h
  rename_i t hty
  split at h <;> try cases h
  rename_i hsz
  obtain ⟨hsz, hbig⟩ := hsz
  split at h <;> try cases h
  rename_i l hl
  split at h <;> try cases h
  rename_i l' m hf
  split at h <;> try cases h
  rename_i xs hxs
  obtain ⟨hu, _⟩ := td_slice hP hd
  obtain ⟨inf, z, k1, k2, k3, k4, k5⟩ := tab_info hP hT
  obtain ⟨k6, k7⟩ := (hP e i hT).ty t hty
  have hzl : z.cells.size = i.size := by
    have := congrArg List.length k5
    rw [← (hP e i hT).len]
    simpa using this
  have hzr : (zeroValue e).run P w = .ok z w := by simp [zeroValue, typeInfo, k1, k4]
  obtain ⟨z', h11, hz0⟩ := zero_ok hP (w := w) (ρ := ρ) (F := F) (s := s) hT
  rw [hzr] at h11
  cases (Result.ok.inj h11).1
  have hmade : CRs w ρ F s.mem.length (rep n i.zero) (madeCells z.cells (n * i.size)).toList := by
    rw [madeCells_flat _ _ _ hzl hsz]
    exact CRs_rep hz0 n
  obtain ⟨us, h5, h6⟩ := fill_ok hl hmade rfl hs
  obtain ⟨F1, hm1, hs1, hc1, hlm⟩ := frz_ok hf h6 hs
  obtain ⟨hn, hrt⟩ := unflatN_ok t n hxs hc1
  have hus : us.size = n * t.size := by rw [← hn, ← hrt.len]; simp
  have hrun : (execOp a.eval o).run P w = .ok (.value (.slice (some ⟨w.heap.size, 0, none⟩) n n)) (w.alloc (.cells us e)) := by
    have hbig' : ¬ (16777216 < n * i.size) := by omega
    by_cases h0 : n * i.size = 0
    · have hm0 : madeCells z.cells (n * i.size) = (Array.range (n * i.size)).map ((#[] : Array Value)[· % (#[] : Array Value).size]!) := by
        rw [h0]; simp [madeCells]
      rw [hm0] at h5
      simp only [execOp, ho, Instr.buildSlice, Sem.run_bind, run_underlying hu, Result.andThen_ok, run_size hP hT]
      simp [h0, Array.map_map] at h5 ⊢
      simp [h5, newRow]
    · unfold madeCells at h5
      simp only [execOp, ho, Instr.buildSlice, Sem.run_bind, run_underlying hu, Result.andThen_ok, run_size hP hT]
      simp [h0, hbig', hzr] at h5 ⊢
      simp [h5, newRow]
  have hmv : Mv w (w.alloc (.cells us e)) F1 F1 := Mv.grown (World.grownBy_alloc w _ none) hs1.mr.lt
  have hs' := hs1.newObj (w' := w.alloc (.cells us e)) (World.grownBy_alloc w _ none) (o := .row e t xs) (v := .slice (some ⟨w.heap.size, 0, none⟩) n n) (fun b hb => by simp [blk] at hb; omega)
    ⟨us.toList, by
      rw [hn]
      exact World.ownsRow_lit w us n (Nat.zero_le _) (by simp only [maxLen]; have := Nat.le_mul_of_pos_right n hsz; omega) hus,
      hrt.mono hmv.sub hmv.same⟩
  refine goes_new (x := .one (.own m.length)) hrun hs' ?_ h (fun _ _ => Ext.of_grown (World.grownBy_alloc w _ none))
  exact ⟨by simp, by rw [upd_same], rfl⟩

/-- every operation -/
theorem absOp_ok (hG : GamFOk P pu Γ) (hs : SR g s a w) (h : absOp tt Γ s o κ = some r) : Goes P g κ r o a w := by
  obtain ⟨ρ, F, hs⟩ := hs
  cases ho : o.op with
  | move x =>
    simp only [absOp, ho] at h
    exact goes_new (by simp [execOp, ho]) hs (hs.ev x) h (fun _ _ => Ext.refl w)
  | assign x =>
    simp only [absOp, ho] at h
    exact goes_new (by simp [execOp, ho]) hs (hs.ev x) h (fun _ _ => Ext.refl w)
  | pick c x y =>
    simp only [absOp, ho] at h
    have hc := hs.ev c
    have hx := hs.ev x
    have hy := hs.ev y
    split at h <;> try cases h
    rename_i z e
    rw [e] at hc
    have hcv : a.eval c = .bool z := VR.CR hc (by simp)
    split at h
    · rename_i p q e1 e2
      rw [e1] at hx
      rw [e2] at hy
      have hxv : a.eval x = .bool p := VR.CR hx (by simp)
      have hyv : a.eval y = .bool q := VR.CR hy (by simp)
      refine goes_new (v := .bool (bif z then p else q)) ?_ hs (VR.of_CR (c := .bool _) rfl) h (fun _ _ => Ext.refl w)
      cases z <;> simp [execOp, ho, hcv, hxv, hyv, asBool]
    · cases z with
      | true => exact goes_new (v := a.eval x) (by simp [execOp, ho, hcv, asBool]) hs hx (by simpa using h) (fun _ _ => Ext.refl w)
      | false => exact goes_new (v := a.eval y) (by simp [execOp, ho, hcv, asBool]) hs hy (by simpa using h) (fun _ _ => Ext.refl w)
  | alloc T =>
    simp only [absOp, ho] at h
    split at h <;> try cases h
    rename_i i hT
    exact ok_alloc hP ho hs hT h
  | box T x =>
    simp only [absOp, ho] at h
    split at h
    · cases h
    · cases h
    · rename_i v h1 h2
      exact ok_box ho hs (fun e => h2 e) (fun l e => h1 l e) h
  | build T parts => exact ok_build hP ho hs h
  | buildSlice T n parts => exact ok_buildSlice hP ho hs h
  | load T x => exact (ok_load hP ho hs h).goes hs
  | store T x y =>
    simp only [absOp, ho] at h
    split at h <;> try cases h
    rename_i p hd hp
    exact ok_store hP ho hd hs hp h
  | nilCheck x => exact (ok_nilCheck ho hs h).goes hs
  | binOp op T x y U => exact (ok_binOp hP ho hs h).goes hs
  | unOp op T x => exact (ok_unOp ho hs h).goes hs
  | convert T U x => exact (ok_convert hP ho hs h).goes hs
  | makeSlice T x y => exact ok_makeSlice hP ho hs h
  | slice T x lo hi mx => exact (ok_slice hP ho hs h).goes hs
  | fieldAddr T x f => exact (ok_fieldAddr hP ho hs h).goes hs
  | field T x f => exact (ok_field hP ho hs h).goes hs
  | indexAddr T x y => exact (ok_indexAddr hP ho hs h).goes hs
  | index T x y => exact (ok_index hP ho hs h).goes hs
  | extract x i => exact (ok_extract ho hs h).goes hs
  | call c =>
    cases hc : c.callee with
    | value f =>
      have h' := h
      simp only [absOp, ho, hc] at h'
      split at h' <;> try cases h'
      rename_i g hg
      exact ok_callF hG ho hc hg hs h
    | invoke x m => simp only [absOp, ho, hc] at h; cases h
    | builtin b =>
      simp only [absOp, ho, hc] at h
      split at h
      · rename_i x T e1 e2
        exact (ok_len hP ho hc e1 e2 hs h).goes hs
      · rename_i x y S S' e1 e2
        split at h <;> try cases h
        rename_i hS
        subst hS
        split at h <;> try cases h
        rename_i p q hp hq
        exact ok_append hP ho hc e1 e2 hp hq hs h
      · split at h <;> try cases h
        rename_i c' hm
        exact (ok_minmax (mx := false) ho hc hs hm h).goes hs
      · split at h <;> try cases h
        rename_i c' hm
        exact (ok_minmax (mx := true) ho hc hs hm h).goes hs
      · cases h
  | _ => simp only [absOp, ho] at h; cases h
end
end Go.Proofs.Ytaaljooihacpgaa.Am
