/- Each operation of the abstract machine is sound, last part. -/
import Derived.Test.YtfihdjjilofklaaGreatAm18
set_option linter.unusedVariables false
set_option linter.unusedSimpArgs false
namespace Go.Proofs.YtfihdjjilofklaaGreat.Am
open Go
section
variable {R : Type} {P : Program} {tt : Tab} (hP : TabOk P tt) {Γ : GamF} {pu : Prop} {g : Beg} {ρ : Nat → Value} {F : FS} {s : St} {a : Act} {w : World} {κ : St → Option R} {r : R} {o : Oper}
theorem bnd_ok {q : Option Operand} {d l : Int} (hs : SX g ρ F s a w) (h : s.bnd q d = some l) : (q = none ∧ l = d) ∨ ∃ x k, q = some x ∧ a.eval x = .int k l := by
 unfold St.bnd at h
 split at h
 ·cases h; exact .inl ⟨rfl, rfl⟩
 ·rename_i x
  split at h <;> cases h
  rename_i k e
  have hx := hs.ev x
  rw [e] at hx
  exact .inr ⟨x, k, rfl, VR.CR hx (by simp)⟩
theorem bounds_ok {lo hi : Option Operand} {l h : Int} {n c : Nat} {b : Bool} (hs : SX g ρ F s a w) (h1 : s.bnd lo 0 = some l) (h2 : s.bnd hi n = some h) (h3 : 0 ≤ l) (h4 : l ≤ h) (h5 : h ≤ n) (h6 : n ≤ c) :
  ∀ w' : World, (Instr.sliceBounds b n c (lo.map a.eval) (hi.map a.eval) none).run P w' = .ok (l.toNat, h.toNat, c) w' := by
 intro w'
 have hb : ∀ (k : IntKind) (i : Int) (y : Nat) (code : BoundsCode), 0 ≤ i → i ≤ y → (Instr.sliceBound (.int k i) y code).run P w' = .ok i.toNat w' := fun k i y code => run_sliceBound w' k i y code
 have hh : (h.toNat : Int) = h := Int.toNat_of_nonneg (by omega)
 rcases bnd_ok hs h1 with ⟨rfl, rfl⟩ | ⟨x, k, rfl, hx⟩ <;> rcases bnd_ok hs h2 with ⟨rfl, rfl⟩ | ⟨y, k', rfl, hy⟩
 ·simp [Instr.sliceBounds]
 ·simp [Instr.sliceBounds, hy, hb k' h c _ (by omega) (by omega)]
 ·simp [Instr.sliceBounds, hx, hb k l n _ h3 h4]
 ·simp [Instr.sliceBounds, hx, hy, hb k' h c _ (by omega) (by omega), hb k l h.toNat _ h3 (by omega)]
include hP
theorem run_sliced {T e0 : Nat} {j : TI} {x : Operand} {lo hi : Option Operand} {l h : Int} {n c : Nat} {b : Option Addr} (ho : o.op = .slice T x lo hi none) (hs : SX g ρ F s a w) (hu : P.underlying T = some (.slice e0)) (hq : tt e0 = some j)
  (hv : a.eval x = .slice b n c) (h1 : s.bnd lo 0 = some l) (h2 : s.bnd hi n = some h) (h3 : 0 ≤ l) (h4 : l ≤ h) (h5 : h ≤ n) (h6 : n ≤ c) : ∀ w' : World, (execOp a.eval o).run P w' = .ok (.value (sliced b l.toNat h.toNat c j.size)) w' := by
 intro w'
 have hbd := bounds_ok (P := P) (b := true) (c := c) hs h1 h2 h3 h4 h5 h6
 have hel : P.elem T = e0 := by unfold Program.elem; rw [hu]
 simp [execOp, ho, Instr.sliceAt, Instr.slice, run_underlying hu, hv, hbd, run_size hP hq, sliced]
theorem ok_slice {T : Nat} {x : Operand} {lo hi mx : Option Operand} (ho : o.op = .slice T x lo hi mx) (hqu : (strT T || (lo.isSome || hi.isNone)) = true) (hs : SX g ρ F s a w) (h : absOp tt Γ s o κ = some r) : QG P w ρ F s κ r o a := by
 simp only [absOp, ho] at h
 split at h
 ·cases h
 have hx := hs.ev x
 split at h
 ·rename_i b hd e
  have hu := td_str hP hd
  rw [e] at hx
  have hv : a.eval x = .string b := VR.CR hx (by simp)
  split at h <;> try cases h
  rename_i l q e1 e2
  obtain ⟨hb, h⟩ := chk_some h
  simp only [Bool.and_eq_true, leI_true] at hb
  obtain ⟨h3, h4, h5⟩ := hb
  have hbd := bounds_ok (P := P) (b := false) (c := b.size) hs e1 e2 h3 h4 h5 (Nat.le_refl _)
  refine qg (v := _) (fun w' hw' => ?_) (VR.of_CR (c := .str _) rfl) h
  simp [execOp, ho, hv, run_sliceAt_string (P := P) w' T _ _ _ _ hu, Instr.slice, run_underlying hu, hbd]
 ·rename_i e0 e' t xs hd e
  obtain ⟨hu, q, hq⟩ := td_slice hP hd
  rw [e] at hx
  have hrt : RT w F (.slice e' t) xs [a.eval x] := VR.CR hx (by simp)
  obtain ⟨b, c, hv, hcap, hrt⟩ := hrt
  simp only [List.cons.injEq, and_true] at hv
  split at h <;> try cases h
  rename_i l q' e1 e2
  split at h <;> try cases h
  rename_i hsz
  obtain ⟨hb, h⟩ := chk_some h
  simp only [Bool.and_eq_true, leI_true] at hb
  obtain ⟨h3, h4, h5⟩ := hb
  have hcap' : xs.length ≤ c := hcap.1
  rw [tab_size hq] at hsz
  have hv' : a.eval x = .slice b xs.length c := hv
  have hrun : ∀ w' : World, (freeOp o = true ∨ Rd o a w w') → (execOp a.eval o).run P w' = .ok (.value (sliced b l.toNat q'.toNat c t.size)) w' := by
   intro w' _
   rw [← hsz]
   exact run_sliced hP ho hs hu hq hv' e1 e2 h3 h4 h5 hcap' w'
  refine qg hrun ?_ h
  show RT w F (.slice e' t) ((xs.take q'.toNat).drop l.toNat) [_]
  have hlen : ((xs.take q'.toNat).drop l.toNat).length = q'.toNat - l.toNat := by simp; omega
  have hget : ∀ (i : Nat) (y : t.den), ((xs.take q'.toNat).drop l.toNat)[i]? = some y → xs[l.toNat + i]? = some y := by
   intro i y h7
   rw [List.getElem?_drop, List.getElem?_take] at h7
   split at h7
   ·exact h7
   ·cases h7
  have key : ∀ ys : (Ty.slice e' t).den, len (α := t.den) ys = q'.toNat - l.toNat → (∀ (i : Nat) (y : t.den), nth (α := t.den) ys i = some y → xs[l.toNat + i]? = some y) → RT w F (.slice e' t) ys [sliced b l.toNat q'.toNat c t.size] := by
   intro ys hl hg
   unfold RT
   refine ⟨_, _, by unfold sliced; rw [hl], ⟨by rw [hl]; omega, fun hbn => ?_⟩, ?_⟩
   ·have := hcap.2
    cases b with
    | none => have := this rfl; omega
    | some b => split at hbn <;> simp at hbn
   rcases hrt with h0 | ⟨ad, rfl, hF, hrt⟩
   ·left
    have : xs.length = 0 := h0
    rw [hl]
    omega
   ·by_cases hz : q'.toNat = l.toNat
    ·left
     rw [hl]
     omega
    ·right
     refine ⟨ad.add (l.toNat * t.size), ?_, by simpa using hF, fun i y hi => ?_⟩
     ·rw [if_neg (by omega)]; rfl
     ·obtain ⟨vs, h8, h9⟩ := hrt _ _ (hg i y hi)
      refine ⟨vs, h8, ?_⟩
      rw [Addr.add_add, ← Nat.add_mul]
      exact h9
  exact key _ hlen hget
 ·rename_i e0 n hd e
  obtain ⟨hu, q, hq⟩ := td_slice hP hd
  rw [e] at hx
  obtain ⟨g1, g2, g3⟩ := VR.CR hx (by simp)
  split at h <;> try cases h
  rename_i e' t xs hm
  split at h <;> try cases h
  rename_i hsz
  split at h
  ·have hst : strT T = true := by simpa using hqu
   split at h <;> try cases h
   rw [hst] at h
   cases h
  ·rename_i q'
   split at h <;> try cases h
   rename_i l e1
   obtain ⟨hb, h⟩ := chk_some h
   simp only [Bool.and_eq_true, leI_true] at hb
   obtain ⟨h3, h4⟩ := hb
   obtain ⟨vs, k1, k2⟩ := hs.mr.obj _ _ hm
   rw [tab_size hq] at hsz
   have hval : ∃ b c, ρ n = .slice b xs.length c ∧ xs.length ≤ c := by
    rcases k1.2 with ⟨k3, k4⟩ | ⟨g, cap, cur, k3, _, _, k4, _⟩
    ·exact ⟨none, 0, by rw [k4]; exact k3, by omega⟩
    ·exact ⟨_, cap, k3, k4⟩
   obtain ⟨b, c, k3, k4⟩ := hval
   have hrun : ∀ w' : World, (freeOp o = true ∨ Rd o a w w') → (execOp a.eval o).run P w' = .ok (.value (sliced b l.toNat xs.length c t.size)) w' := by
    intro w' _
    rw [← hsz]
    exact run_sliced hP (h := (xs.length : Int)) ho hs hu hq (g2.trans k3) e1 rfl h3 h4 (Int.le_refl _) k4 w'
   exact qg hrun (VR.of_CR (c := .vw n l t.size) ⟨g1, h3, b, xs.length, c, k3, by omega, k4, rfl⟩) h
  ·rename_i q1 q2
   split at h <;> try cases h
   rename_i l q e1 e2
   obtain ⟨hb, h⟩ := chk_some h
   simp only [Bool.and_eq_true, leI_true] at hb
   obtain ⟨h3, h4, h5⟩ := hb
   obtain ⟨vs, k1, k2⟩ := hs.mr.obj _ _ hm
   rw [tab_size hq] at hsz
   have hval : ∃ b c, ρ n = .slice b xs.length c ∧ xs.length ≤ c := by
    rcases k1.2 with ⟨k3, k4⟩ | ⟨g, cap, cur, k3, _, _, k4, _⟩
    ·exact ⟨none, 0, by rw [k4]; exact k3, by omega⟩
    ·exact ⟨_, cap, k3, k4⟩
   obtain ⟨b, c, k3, k4⟩ := hval
   have hrun : ∀ w' : World, (freeOp o = true ∨ Rd o a w w') → (execOp a.eval o).run P w' = .ok (.value (sliced b l.toNat q.toNat c t.size)) w' := by
    intro w' _
    rw [← hsz]
    exact run_sliced hP (h := q) ho hs hu hq (g2.trans k3) e1 e2 h3 h4 h5 k4 w'
   exact qg hrun (VR.of_CR (c := .vwh n l q t.size) ⟨g1, h3, h4, b, xs.length, c, k3, by omega, k4, rfl⟩) h
  ·cases h
 ·cases h
theorem ok_sliceG {T : Nat} {x : Operand} {lo hi mx : Option Operand} (ho : o.op = .slice T x lo hi mx) (hs : SX g ρ F s a w) (h : absOp tt Γ s o κ = some r) : Goes P g κ r o a w := by
 by_cases hqu : (strT T || (lo.isSome || hi.isNone)) = true
 ·exact (ok_slice hP ho hqu hs h).goes hs
 obtain ⟨hlo, q', hhi⟩ : lo = none ∧ ∃ q', hi = some q' := by
  cases lo <;> cases hi <;> simp at hqu
  exact ⟨rfl, _, rfl⟩
 subst hlo
 subst hhi
 have h' := h
 simp only [absOp, ho] at h
 split at h
 ·cases h
 rename_i hmx
 have hx := hs.ev x
 split at h
 ·rename_i b hd e
  have hu := td_str hP hd
  rw [e] at hx
  have hv : a.eval x = .string b := VR.CR hx (by simp)
  split at h <;> try cases h
  rename_i l q e1 e2
  obtain ⟨hb, h⟩ := chk_some h
  simp only [Bool.and_eq_true, leI_true] at hb
  obtain ⟨h3, h4, h5⟩ := hb
  have hbd := bounds_ok (P := P) (b := false) (c := b.size) hs e1 e2 h3 h4 h5 (Nat.le_refl _)
  refine (qg (v := _) (fun w' hw' => ?_) (VR.of_CR (c := .str _) rfl) h : QG P w ρ F s κ r o a).goes hs
  simp only [Option.map_none, Option.map_some] at hbd
  simp [execOp, ho, hv, run_sliceAt_string (P := P) w' T _ _ _ _ hu, Instr.slice, run_underlying hu, hbd]
  rw [hbd]
  rfl
 ·rename_i e0 e' t xs hd e
  obtain ⟨hu, q, hq⟩ := td_slice hP hd
  rw [e] at hx
  have hrt : RT w F (.slice e' t) xs [a.eval x] := VR.CR hx (by simp)
  obtain ⟨b, c, hv, hcap, hrt⟩ := hrt
  simp only [List.cons.injEq, and_true] at hv
  split at h <;> try cases h
  rename_i l q2 e1 e2
  split at h <;> try cases h
  rename_i hsz
  obtain ⟨hb, h⟩ := chk_some h
  simp only [Bool.and_eq_true, leI_true] at hb
  obtain ⟨h3, h4, h5⟩ := hb
  have hcap' : xs.length ≤ c := hcap.1
  rw [tab_size hq] at hsz
  have hv' : a.eval x = .slice b xs.length c := hv
  have hrun : ∀ w' : World, (freeOp o = true ∨ Rd o a w w') → (execOp a.eval o).run P w' = .ok (.value (sliced b l.toNat q2.toNat c t.size)) w' := by
   intro w' _
   rw [← hsz]
   exact run_sliced hP ho hs hu hq hv' e1 e2 h3 h4 h5 hcap' w'
  refine (qg hrun ?_ h : QG P w ρ F s κ r o a).goes hs
  cases e1
  show RT w F (.slice e' t) ((xs.take q2.toNat).drop 0) [_]
  rw [List.drop_zero]
  have key : ∀ ys : (Ty.slice e' t).den, ys = xs.take q2.toNat → RT w F (.slice e' t) ys [sliced b 0 q2.toNat c t.size] := by
   intro ys hy
   have hl : len (α := t.den) ys = q2.toNat := by rw [hy]; show (xs.take q2.toNat).length = _; simp; omega
   unfold RT
   refine ⟨_, _, by unfold sliced; rw [hl]; rfl, ⟨by rw [hl]; omega, fun hbn => ?_⟩, ?_⟩
   ·have := hcap.2
    cases b with
    | none => have := this rfl; omega
    | some b => split at hbn <;> simp at hbn
   rcases hrt with h0 | ⟨ad, rfl, hF, hrt⟩
   ·left
    have : xs.length = 0 := h0
    rw [hl]
    omega
   ·by_cases hz : q2.toNat = 0
    ·left
     rw [hl]
     omega
    ·right
     refine ⟨ad, ?_, hF, fun i y hi => ?_⟩
     ·by_cases hc0 : c = 0
      ·rw [if_pos hc0]
      ·rw [if_neg hc0, Nat.zero_mul]
       show some (ad.add 0) = _
       rw [Addr.add_zero']
     ·rw [hy] at hi
      have hi' : (xs.take q2.toNat)[i]? = some y := hi
      rw [List.getElem?_take] at hi'
      split at hi'
      ·exact hrt i y hi'
      ·cases hi'
  exact key _ rfl
 ·rename_i e0 n hd e
  obtain ⟨hu, q, hq⟩ := td_slice hP hd
  rw [e] at hx
  obtain ⟨g1, g2, g3⟩ := VR.CR hx (by simp)
  split at h <;> try cases h
  rename_i e' t xs hm
  split at h <;> try cases h
  rename_i hsz
  split at h <;> try cases h
  rename_i l e1
  have hst : strT T = false := by
   cases hst : strT T
   ·rfl
   ·rw [hst] at hqu; simp at hqu
  rw [hst] at h
  simp only [cond_false] at h
  obtain ⟨hb, h⟩ := chk_some h
  simp only [Bool.and_eq_true, leI_true] at hb
  obtain ⟨h3, h4⟩ := hb
  obtain ⟨vs, k1, k2⟩ := hs.mr.obj _ _ hm
  rw [tab_size hq] at hsz
  have e2 : s.bnd (some q') (xs.length : Int) = some l := e1
  have hval : ∃ b c, ρ n = .slice b xs.length c ∧ xs.length ≤ c ∧ (∃ us, w.ownsRow 0 e' t.size (sliced b 0 l.toNat c t.size) l.toNat us ∧ us = vs.take (l.toNat * t.size)) ∧ ∀ k, k ∈ blk (sliced b 0 l.toNat c t.size) → k ∈ blk (ρ n) := by
   rcases k1.2 with ⟨k3, k4⟩ | ⟨g, cap, cur, k3, k4, k5, k6, k7, k8, k9⟩
   ·have : l.toNat = 0 := by omega
    refine ⟨none, 0, by rw [k4]; exact k3, by omega, ⟨_, ?_, rfl⟩, fun k hk => ?_⟩
    ·rw [this]
     simp only [sliced, if_true, Nat.sub_zero, Nat.zero_mul, List.take_zero]
     exact World.ownsRow_nil w 0 e' t.size
    ·simp [sliced, blk, blk1] at hk
   ·refine ⟨_, cap, k3, k6, ⟨_, ⟨?_, .inr ⟨g, cap, cur, ?_, k4, k5, by omega, k7, k8, ?_⟩⟩, rfl⟩, fun k hk => ?_⟩
    ·have := k1.1
     have hle : l.toNat * t.size ≤ xs.length * t.size := Nat.mul_le_mul_right _ (by omega)
     rw [List.length_take]
     omega
    ·unfold sliced
     simp [Addr.add_zero']
    ·rw [← k9, List.take_take]
     congr 1
     have hle : l.toNat * t.size ≤ xs.length * t.size := Nat.mul_le_mul_right _ (by omega)
     omega
    ·rw [k3]
     unfold sliced at hk
     by_cases hc0 : cap = 0
     ·rw [if_pos hc0] at hk; exact hk
     ·rw [if_neg hc0] at hk; simpa [blk, blk1] using hk
  obtain ⟨b, c, k3, k4, ⟨us, k5, k6⟩, k7⟩ := hval
  have hrun : (execOp a.eval o).run P w = .ok (.value (sliced b 0 l.toNat c t.size)) w := by
   rw [← hsz]
   exact run_sliced hP (l := 0) (h := l) ho hs hu hq (g2.trans k3) rfl e2 (Int.le_refl _) h3 h4 k4 w
  have hnl : live s.mem n := ⟨_, hm, by simp⟩
  have hs' := hs.renew (w' := w) hnl (ob := none) (fun _ e => by cases e) ⟨rfl, rfl, rfl, Nat.le_refl _, fun _ _ _ => rfl⟩ (o := .row e' t (xs.take l.toNat)) (v := sliced b 0 l.toNat c t.size) (fun k hk => .inl (k7 k hk)) ⟨us, by
   have : (xs.take l.toNat).length = l.toNat := by simp; omega
   rw [this]
   exact k5, by
   rw [k6]
   exact k2.take l.toNat⟩
  refine goes_new (v := _) (x := .one (.own s.mem.length)) hrun hs' ⟨by simp, by rw [upd_same], ?_⟩ h (fun _ _ => Ext.refl w)
  unfold sliced
  rfl
 ·cases h
omit hP in
theorem CRs_rep {N : Nat} {l : List AC} {vs : List Value} (h : CRs w ρ F N l vs) (n : Nat) : CRs w ρ F N (rep n l) (List.replicate n vs).flatten := by
 induction n with
 | zero => exact .nil
 | succ n ih => rw [List.replicate_succ, List.flatten_cons]; exact F2.append h ih
theorem ok_buildSlice {T n : Nat} {parts : Array (Nat × Operand)} (ho : o.op = .buildSlice T n parts) (hs : SX g ρ F s a w) (h : absOp tt Γ s o κ = some r) : Goes P g κ r o a w := by
 simp only [absOp, ho] at h
 split at h <;> try cases h
 rename_i e hd
 split at h <;> try cases h
 rename_i i hT
 have tail : ∀ {t : Ty} {l : List AC}, i.ty = some t → 0 < i.size → n * i.size ≤ 16777216 → fillK (fun j => some (j * i.size, i.size)) (rep n i.zero) (parts.toList.map fun p => (p.1, s.ev p.2)) = some l → ∃ us : Array Value, CRs w ρ F s.mem.length l us.toList ∧
   ∀ {ρ1 : Nat → Value} {F1 : FS} {m : List AO} {xs : List t.den}, SX g ρ1 F1 ⟨s.tmps, m⟩ a w → xs.length = n → RTL w F1 t xs us.toList → κ ((⟨s.tmps, m ++ [.row e t xs]⟩ : St).put o.dst (.one (.own m.length))) = some r → Goes P g κ r o a w := by
  intro t l hty hsz hbig hl
  obtain ⟨hu, _⟩ := td_slice hP hd
  obtain ⟨inf, z, k1, k2, k3, k4, k5⟩ := tab_info hP hT
  obtain ⟨k6, k7⟩ := (hP e i hT).ty t hty
  have hzl : z.cells.size = i.size := by
   have := congrArg List.length k5
   rw [← (hP e i hT).len]
   simpa using this
  have hzr : (zeroValue e).run P w = .ok z w := by simp [zeroValue, typeInfo, k1, k4]
  obtain ⟨z', h11, hz0⟩ := zero_ok hP (w := w) (ρ := ρ) (F := F) (s := s) hT
  rw [hzr] at h11
  cases (Result.ok.inj h11).1
  have hmade : CRs w ρ F s.mem.length (rep n i.zero) (madeCells z.cells (n * i.size)).toList := by
   rw [madeCells_flat _ _ _ hzl hsz]
   exact CRs_rep hz0 n
  obtain ⟨us, h5, h6⟩ := fill_ok hl hmade rfl hs
  refine ⟨us, h6, fun {ρ1 F1 m xs} hs1 hn hrt h => ?_⟩
  have hus : us.size = n * t.size := by rw [← hn, ← hrt.len]; simp
  have hrun : (execOp a.eval o).run P w = .ok (.value (.slice (some ⟨w.heap.size, 0, none⟩) n n)) (w.alloc (.cells us e)) := by
   have hbig' : ¬ (16777216 < n * i.size) := by omega
   by_cases h0 : n * i.size = 0
   ·have hm0 : madeCells z.cells (n * i.size) = (Array.range (n * i.size)).map ((#[] : Array Value)[· % (#[] : Array Value).size]!) := by
     rw [h0]; simp [madeCells]
    rw [hm0] at h5
    simp only [execOp, ho, Instr.buildSlice, Sem.run_bind, run_underlying hu, Result.andThen_ok, run_size hP hT]
    simp [h0, Array.map_map] at h5 ⊢
    simp [h5, newRow]
   ·unfold madeCells at h5
    simp only [execOp, ho, Instr.buildSlice, Sem.run_bind, run_underlying hu, Result.andThen_ok, run_size hP hT]
    simp [h0, hbig', hzr] at h5 ⊢
    simp [h5, newRow]
  have hmv : Mv w (w.alloc (.cells us e)) F1 F1 := Mv.grown (World.grownBy_alloc w _ none) hs1.mr.lt
  have hs' := hs1.newObj (w' := w.alloc (.cells us e)) (World.grownBy_alloc w _ none) (o := .row e t xs) (v := .slice (some ⟨w.heap.size, 0, none⟩) n n) (fun b hb => by simp [blk, blk1] at hb; omega)
   ⟨us.toList, by
    rw [hn]
    exact World.ownsRow_lit w us n (Nat.zero_le _) (by simp only [maxLen]; have := Nat.le_mul_of_pos_right n hsz; omega) hus,
    hrt.mono hmv.le hmv.same⟩
  refine goes_new (x := .one (.own m.length)) hrun hs' ?_ h (fun _ _ => Ext.of_grown (World.grownBy_alloc w _ none))
  exact ⟨by simp, by rw [upd_same], rfl⟩
 split at h <;> try cases h
 ·rename_i hty
  split at h <;> try cases h
  rename_i hsz
  obtain ⟨hsz, rfl⟩ := hsz
  obtain ⟨k6, k7⟩ := (hP e i hT).ty _ hty
  have hfill : ∀ c : AC, c ≠ .any → fillK (fun j => some (j * i.size, i.size)) (rep 1 i.zero) [(0, .one c)] = some [c] := by
   intro c hc
   rw [hsz, ← k7]
   cases c <;> first | exact absurd rfl hc | rfl
  split at h <;> try cases h
  ·rename_i k hparts
   split at h <;> try cases h
   rename_i m j hp
   obtain ⟨us, h6, htail⟩ := tail hty (by omega) (by omega) (by rw [hparts]; exact hfill (.ptr k 0) (by simp))
   obtain ⟨ρ', F', q1, q2, q3, q4, q5, bk, q6, q7⟩ := hs.push hp
   refine htail (xs := [j]) q4 rfl ?_ h
   cases hul : us.toList with
   | nil => rw [hul] at h6; cases h6
   | cons u us' =>
    rw [hul] at h6
    cases h6 with
    | cons g1 g2 =>
     cases g2
     obtain ⟨_, b, g3, g4⟩ := g1
     rw [q6] at g3
     cases g3
     exact RTL.cons (t := .nod) (x := j) (xs := []) (l := [u]) (r := []) (show RT w F' .nod j [u] from ⟨u, rfl, .inr ⟨q5, bk, q7, g4⟩⟩) .nil
  ·rename_i c hc hparts
   split at h <;> try cases h
   rename_i j hj
   obtain ⟨us, h6, htail⟩ := tail hty (by omega) (by omega) (by rw [hparts]; exact hfill c (by intro e; subst e; simp [unflatAll, unflat] at hj))
   refine htail (xs := [j]) hs rfl ?_ h
   have := RTL.cons (unflatAll_ok .nod hj h6) (RTL.nil (w := w) (F := F) (t := .nod))
   rw [List.append_nil] at this
   exact this
 rename_i t hty' hty
 split at h <;> try cases h
 rename_i hsz
 obtain ⟨hsz, hbig⟩ := hsz
 split at h <;> try cases h
 rename_i l hl
 split at h <;> try cases h
 rename_i l' m hf
 split at h <;> try cases h
 rename_i xs hxs
 obtain ⟨us, h6, htail⟩ := tail hty hsz hbig hl
 obtain ⟨F1, hm1, hs1, hc1, hlm⟩ := frz_ok hf h6 hs
 obtain ⟨hn, hrt⟩ := unflatN_ok t n hxs hc1
 exact htail hs1 hn hrt h
omit hP in
theorem VR_undef' {N : Nat} {w : World} : VR w ρ F N (.tup []) (.tuple #[]) := ⟨#[], rfl, .nil⟩
theorem ok_clear {c : Call} {x : Operand} {T : Nat} (ho : o.op = .call c) (hc : c.callee = .builtin .clear) (h1 : c.args.toList = [x]) (h2 : c.argTypes.toList = [T]) (hs : SX g ρ F s a w)
  (h : (match tt.td T, s.ev x with
    | .slice e0, .one (.vw n lo sz) => match s.mem[n]? with
     | some (.row e t xs) => match tt e0 with
      | some i => if ((e0 = e ∧ t.size = sz) ∧ 0 < t.size) ∧ i.ty = some t then κ ((⟨s.tmps, s.mem.set n (.row e t (xs.take lo.toNat ++ List.replicate (xs.length - lo.toNat) t.dflt))⟩ : St).put o.dst (.tup [])) else none
      | none => none
     | _ => none
    | _, _ => none) = some r) : Goes P g κ r o a w := by
 have ha : c.args = #[x] := by rw [← Array.toArray_toList (xs := c.args), h1]
 have ht : c.argTypes = #[T] := by rw [← Array.toArray_toList (xs := c.argTypes), h2]
 have hx := hs.ev x
 split at h <;> try cases h
 rename_i e0 n lo sz hd e
 rw [e] at hx
 split at h <;> try cases h
 rename_i e' t xs hm
 split at h <;> try cases h
 rename_i i hT
 split at h <;> try cases h
 rename_i hk
 obtain ⟨⟨⟨rfl, rfl⟩, hpos⟩, hty⟩ := hk
 obtain ⟨hu, _⟩ := td_slice hP hd
 obtain ⟨g1, g0, b, l0, c0, g2, g3, g4, g5⟩ := VR.CR hx (by simp)
 obtain ⟨vs, k1, k2⟩ := hs.mr.obj _ _ hm
 obtain ⟨inf, z, q1, q2, q3, q4, q5⟩ := tab_info hP hT
 obtain ⟨q6, q7⟩ := (hP e0 i hT).ty t hty
 have hzl : z.cells.size = t.size := by
  have := congrArg List.length q5
  rw [q6, ← (hP e0 i hT).len]
  simpa using this
 have hzr : (zeroValue e0).run P w = .ok z w := by simp [zeroValue, typeInfo, q1, q4]
 have hz0 : CRs w ρ F s.mem.length i.zero z.cells.toList := by
  obtain ⟨z', h11, h12⟩ := zero_ok hP (w := w) (ρ := ρ) (F := F) (s := s) hT
  rw [hzr] at h11
  cases (Result.ok.inj h11).1
  exact h12
 have hl : l0 = xs.length := by
  rw [g2] at k1
  rcases k1.2 with ⟨k7, k8⟩ | ⟨g, cap, cur, k7, _⟩
  ·simp only [Value.slice.injEq] at k7; omega
  ·simp only [Value.slice.injEq] at k7; exact k7.2.1
 subst hl
 have hnl : live s.mem n := ⟨_, hm, by simp⟩
 have hrunc : ∀ w', (Builtin.clear_ #[T] o.type #[a.eval x]).run P w = .ok (.tuple #[]) w' → (execOp a.eval o).run P w = .ok (.value (.tuple #[])) w' := by
  intro w' hw'
  unfold execOp
  simp [ho, resolve, hc, ha, ht, invoke, builtin, hw']
 have hzrt : RT w F t t.dflt z.cells.toList := zcells_RT t (by rw [q7]; exact (hP e0 i hT).noAny) (by rw [q7]; exact hz0)
 have hrow : ∀ k, RTL w F t (List.replicate k t.dflt) (Builtin.zeroCells z.cells k).toList := by
  intro k
  have h0 : Builtin.zeroCells z.cells k = madeCells z.cells (k * t.size) := by unfold Builtin.zeroCells madeCells; rw [hzl]
  rw [h0, madeCells_flat _ _ _ hzl hpos]
  clear h0
  induction k with
  | zero => exact .nil
  | succ k ih => rw [List.replicate_succ, List.replicate_succ, List.flatten_cons]; exact .cons hzrt ih
 by_cases hk0 : xs.length - lo.toNat = 0
 ·
  have hsame : xs.take lo.toNat ++ List.replicate (xs.length - lo.toNat) t.dflt = xs := by
   rw [hk0, List.replicate_zero, List.append_nil, List.take_of_length_le (by omega)]
  rw [hsame] at h
  have hmem : s.mem.set n (.row e0 t xs) = s.mem := by
   apply List.ext_getElem?
   intro k
   by_cases hkn : k = n
   ·subst hkn; rw [List.getElem?_set_self (live_lt hnl), hm]
   ·rw [List.getElem?_set_ne (fun e => hkn e.symm)]
  rw [hmem] at h
  have hrun : (Builtin.clear_ #[T] o.type #[a.eval x]).run P w = .ok (.tuple #[]) w := by
   rw [g5]
   unfold sliced
   rw [hk0]
   simp only [Builtin.clear_]
   generalize (if c0 = lo.toNat then b else Option.map (fun x => x.add (lo.toNat * t.size)) b) = q
   cases q <;> simp [run_underlying hu]
  exact goes_new (hrunc w hrun) hs VR_undef' h (fun _ hn => absurd ho (hn _)) (hap := fun c' e' => by rw [ho] at e'; cases e'; rw [hc]; exact fun q => by cases q)
 ·rcases k1.2 with ⟨k3, k4⟩ | ⟨g, cap, cur, k3, k5, k6, k7, k8, k9, k10⟩
  ·omega
  ·rw [k3] at g2
   simp only [Value.slice.injEq] at g2
   obtain ⟨rfl, _, rfl⟩ := g2
   have hv : a.eval x = .slice (some ⟨g, lo.toNat * t.size, none⟩) (xs.length - lo.toNat) (cap - lo.toNat) := by
    rw [g5]
    unfold sliced
    rw [if_neg (by omega)]
    simp [Addr.add_plain]
   have hzs : (Builtin.zeroCells z.cells (xs.length - lo.toNat)).toList.length = (xs.length - lo.toNat) * t.size := by simp [Builtin.zeroCells, hzl]
   have hmul : lo.toNat * t.size + (xs.length - lo.toNat) * t.size = xs.length * t.size := by rw [← Nat.add_mul]; congr 1; omega
   have hcap : xs.length * t.size ≤ cap * t.size := Nat.mul_le_mul_right _ k7
   have hst := run_storeCells_at P g (lo.toNat * t.size) e0 (Builtin.zeroCells z.cells (xs.length - lo.toNat)).toList 0 cur w k6 (by rw [hzs, k9]; omega) (RTL.one (hrow _))
   simp only [Nat.add_zero] at hst
   have hrun : (Builtin.clear_ #[T] o.type #[a.eval x]).run P w = .ok (.tuple #[]) (w.setRow g (spl cur.toList (lo.toNat * t.size) (Builtin.zeroCells z.cells (xs.length - lo.toNat)).toList).toArray) := by
    rw [hv]
    unfold spl
    obtain ⟨k', hk'⟩ : ∃ k', xs.length - lo.toNat = k' + 1 := ⟨xs.length - lo.toNat - 1, by omega⟩
    rw [hk'] at hst ⊢
    simp [Builtin.clear_, run_underlying hu, hzr, hst]
   have hg : w.grownBy (w.setRow g (spl cur.toList (lo.toNat * t.size) (Builtin.zeroCells z.cells (xs.length - lo.toNat)).toList).toArray) (some g) :=
    ⟨rfl, rfl, rfl, by simp, fun k hk hne => setRow_other w g k _ (fun e => hne (by rw [e]))⟩
   have hob : ∀ c, some g = some c → c ∈ blk (ρ n) := fun c e => by cases e; rw [k3]; simp [blk, blk1]
   have hm2 : Mv w (w.setRow g (spl cur.toList (lo.toNat * t.size) (Builtin.zeroCells z.cells (xs.length - lo.toNat)).toList).toArray) F F :=
    ⟨.refl F, fun c hc => hg.block c (hs.mr.lt c hc) (fun e => hs.mr.sep n c hnl (hob c e.symm) hc)⟩
   have hcl' : cur.toList.length = cap * t.size := by simpa using k9
   have hnew : (spl cur.toList (lo.toNat * t.size) (Builtin.zeroCells z.cells (xs.length - lo.toNat)).toList).take (xs.length * t.size) = vs.take (lo.toNat * t.size) ++ (Builtin.zeroCells z.cells (xs.length - lo.toNat)).toList := by
    unfold spl
    have hA : (cur.toList.take (lo.toNat * t.size)).length = lo.toNat * t.size := by rw [List.length_take]; omega
    rw [hzs, List.take_append_of_le_length (by simp only [List.length_append, hA, hzs]; omega), List.take_of_length_le (by simp only [List.length_append, hA, hzs]; omega)]
    congr 1
    rw [← k10, List.take_take]
    congr 1
    omega
   have hlen2 : (xs.take lo.toNat ++ List.replicate (xs.length - lo.toNat) t.dflt).length = xs.length := by simp; omega
   have hs' := hs.setObj (w' := w.setRow g (spl cur.toList (lo.toNat * t.size) (Builtin.zeroCells z.cells (xs.length - lo.toNat)).toList).toArray) hnl hob hg (o := .row e0 t (xs.take lo.toNat ++ List.replicate (xs.length - lo.toNat) t.dflt))
    ⟨(spl cur.toList (lo.toNat * t.size) (Builtin.zeroCells z.cells (xs.length - lo.toNat)).toList).take (xs.length * t.size), by
     rw [hlen2, k3]
     refine ⟨by rw [List.length_take, spl_len _ _ _ (by omega)]; omega, .inr ⟨g, cap, _, rfl, Nat.zero_le _, setRow_heap w g cur _ e0 _ k6, k7, k8, ?_, ?_⟩⟩
     ·rw [List.size_toArray, spl_len _ _ _ (by omega)]; exact hcl'
     ·rfl, by
     rw [hnew]
     exact ((k2.mono hm2.le hm2.same).take lo.toNat).append ((hrow _).mono hm2.le hm2.same)⟩
   exact goes_new (hrunc _ hrun) hs' VR_undef' h (fun _ hn => absurd ho (hn _)) (hap := fun c' e' => by rw [ho] at e'; cases e'; rw [hc]; exact fun q => by cases q)
theorem absOp_ok (hG : GamFOk P pu Γ) (hs : SR g s a w) (h : absOp tt Γ s o κ = some r) : Goes P g κ r o a w := by
 obtain ⟨ρ, F, hs⟩ := hs
 cases ho : o.op with
 | move x =>
  simp only [absOp, ho] at h
  exact goes_new (by simp [execOp, ho]) hs (hs.ev x) h (fun _ _ => Ext.refl w)
 | assign x =>
  simp only [absOp, ho] at h
  exact goes_new (by simp [execOp, ho]) hs (hs.ev x) h (fun _ _ => Ext.refl w)
 | pick c x y =>
  simp only [absOp, ho] at h
  have hc := hs.ev c
  have hx := hs.ev x
  have hy := hs.ev y
  split at h <;> try cases h
  rename_i z e
  rw [e] at hc
  have hcv : a.eval c = .bool z := VR.CR hc (by simp)
  split at h
  ·rename_i p q e1 e2
   rw [e1] at hx
   rw [e2] at hy
   have hxv : a.eval x = .bool p := VR.CR hx (by simp)
   have hyv : a.eval y = .bool q := VR.CR hy (by simp)
   refine goes_new (v := .bool (bif z then p else q)) ?_ hs (VR.of_CR (c := .bool _) rfl) h (fun _ _ => Ext.refl w)
   cases z <;> simp [execOp, ho, hcv, hxv, hyv, asBool]
  ·cases z with
   | true => exact goes_new (v := a.eval x) (by simp [execOp, ho, hcv, asBool]) hs hx (by simpa using h) (fun _ _ => Ext.refl w)
   | false => exact goes_new (v := a.eval y) (by simp [execOp, ho, hcv, asBool]) hs hy (by simpa using h) (fun _ _ => Ext.refl w)
 | alloc T =>
  simp only [absOp, ho] at h
  split at h <;> try cases h
  rename_i i hT
  exact ok_alloc hP ho hs hT h
 | box T x =>
  simp only [absOp, ho] at h
  split at h
  ·cases h
  ·cases h
  ·rename_i v h1 h2
   exact ok_box ho hs (fun e => h2 e) (fun l e => h1 l e) h
 | build T parts => exact (ok_build hP ho hs h).goes hs
 | buildSlice T n parts => exact ok_buildSlice hP ho hs h
 | load T x => exact (ok_load hP ho hs h).goes hs
 | store T x y =>
  simp only [absOp, ho] at h
  split at h <;> try cases h
  rename_i p hd hp
  exact ok_store hP ho hd hs hp h
 | nilCheck x => exact (ok_nilCheck ho hs h).goes hs
 | binOp op T x y U => exact (ok_binOp hP ho hs h).goes hs
 | unOp op T x => exact (ok_unOp ho hs h).goes hs
 | convert T U x => exact ok_convertG hP ho hs h
 | makeInterface T x => exact ok_makeI hP ho hs h
 | makeMap T q => exact ok_makeMap ho hs h
 | lookup T m x q => exact ok_lookup hP ho hs h
 | mapUpdate T m x y => exact ok_mapUpdate hP ho hs h
 | makeSlice T x y => exact ok_makeSlice hP ho hs h
 | slice T x lo hi mx => exact ok_sliceG hP ho hs h
 | fieldAddr T x f => exact (ok_fieldAddr hP ho hs h).goes hs
 | field T x f => exact (ok_field hP ho hs h).goes hs
 | indexAddr T x y => exact (ok_indexAddr hP ho hs h).goes hs
 | index T x y => exact (ok_index hP ho hs h).goes hs
 | extract x i => exact (ok_extract ho hs h).goes hs
 | makeFunc fn fi ca =>
  simp only [absOp, ho] at h
  split at h <;> try cases h
  rename_i f x e1 e2
  split at h <;> try cases h
  rename_i n off hx
  split at h <;> try cases h
  rename_i hoff
  subst hoff
  have hx0 := hs.ev x
  rw [hx] at hx0
  obtain ⟨h1, b, h2, h3⟩ : CR w ρ F s.mem.length (.ptr n 0) (a.eval x) := VR.CR hx0 (by simp)
  have ef : fi = #[] := by rw [← Array.toArray_toList (xs := fi), e1]
  have ec : ca = #[x] := by rw [← Array.toArray_toList (xs := ca), e2]
  refine goes_new (v := .func (.func f) #[] #[.pointer (some ⟨b, 0, none⟩)]) ?_ hs (VR.of_CR (c := .clo f n) ⟨h1, b, h2, rfl⟩) h (fun _ _ => Ext.refl w)
  simp [execOp, ho, ef, ec, h3, Instr.makeFunc]
 | call c =>
  cases hc : c.callee with
  | value f =>
   have h' := h
   simp only [absOp, ho, hc] at h'
   split at h' <;> try cases h'
   ·rename_i g hg
    exact ok_callF hG ho hc hg hs h
   ·rename_i g n hg
    exact ok_callG hG ho hc hg hs h
   ·rename_i g t0 x0 hg
    exact ok_callH hG ho hc hg hs h
  | invoke x m => exact ok_invoke hP hG ho hc hs h
  | builtin b =>
   simp only [absOp, ho, hc] at h
   split at h
   ·rename_i x T e1 e2
    exact QG.goes (ok_len hP ho hc e1 e2 hs h) hs (hap := fun c' e' => by rw [ho] at e'; cases e'; rw [hc]; exact fun q => by cases q)
   ·rename_i x y S S' e1 e2
    split at h <;> try cases h
    rename_i hS
    subst hS
    split at h <;> try cases h
    rename_i p q hp hq
    exact ok_append hP ho hc e1 e2 hp hq hs h
   ·rename_i x T e1 e2
    exact ok_clear hP ho hc e1 e2 hs h
   ·split at h <;> try cases h
    rename_i c' hm
    exact QG.goes (ok_minmax (mx := false) ho hc hs hm h) hs (hap := fun c' e' => by rw [ho] at e'; cases e'; rw [hc]; exact fun q => by cases q)
   ·split at h <;> try cases h
    rename_i c' hm
    exact QG.goes (ok_minmax (mx := true) ho hc hs hm h) hs (hap := fun c' e' => by rw [ho] at e'; cases e'; rw [hc]; exact fun q => by cases q)
   ·cases h
 | _ => simp only [absOp, ho] at h; cases h
end
end Go.Proofs.YtfihdjjilofklaaGreat.Am
