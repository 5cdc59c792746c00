/- Code, loops and functions: what the abstract machine says, the program does. -/
import Derived.Test.YtaaljooihacpgaaAm8
import Derived.Tactics
set_option linter.unusedVariables false
set_option linter.unusedSimpArgs false
namespace Go.Proofs.Ytaaljooihacpgaa.Am
open Go

section
variable {R : Type} {P : Program} {tt : Tab} (hP : TabOk P tt) {Γ : Gam} (hG : GamOk P Γ) {g : Beg} {ρ : Nat → Value} {F : Nat → Prop} {s : St} {a : Act} {w : World} {κ : St → Option R} {r : R} {o : Oper}

theorem F2.setL {α β : Type} {R : α → β → Prop} {l : List α} {r : List β} (h : F2 R l r) (x : α) : ∀ n, (∀ b, r[n]? = some b → R x b) → F2 R (l.set n x) r := by
  induction h with
  | nil => intro n _; simp; exact .nil
  | @cons a b l r h hr ih =>
    intro n hx
    cases n with
    | zero => exact .cons (hx b (by simp)) hr
    | succ n => exact .cons h (ih n fun b hb => hx b (by simpa using hb))

/-- a slot is told anew -/
theorem SX.tell (hs : SX g ρ F s a w) (d : Nat) (x : AV) (h : ∀ v, a.tmps[d]? = some v → VR w ρ F s.mem.length x v) : SX g ρ F (s.put (some d) x) a w :=
  ⟨F2.setL hs.tr x d fun b hb => h b (by rw [← Array.getElem?_toList]; exact hb), hs.mr, hs.gl, hs.defers⟩

theorem SX.slot (hs : SX g ρ F s a w) {d : Nat} {x : AV} (h : s.tmps[d]? = some x) : ∃ v, a.tmps[d]? = some v ∧ VR w ρ F s.mem.length x v := by
  obtain ⟨v, h1, h2⟩ := F2.get hs.tr d x h
  exact ⟨v, by rw [← Array.getElem?_toList]; exact h1, h2⟩

theorem VR_undef {N : Nat} : VR w ρ F N (.tup []) undef := ⟨#[], rfl, .nil⟩

/-- what a guard says -/
theorem guard_bool {ops : Array Oper} {j d : Nat} {want b : Bool} (hd : (ops[j]?).bind (·.dst) = some d) (hg : o.guard = some (j, want)) (hv : a.tmps[d]? = some (.bool b)) : Region.wanted o (yielded ops a.tmps) = (b == want) := by
  unfold Region.wanted yielded
  rw [hg]
  simp only [hd, Option.bind_some, hv]
  cases b <;> cases want <;> rfl
theorem guard_undef {ops : Array Oper} {j d : Nat} {want : Bool} {vs : Array Value} (hd : (ops[j]?).bind (·.dst) = some d) (hg : o.guard = some (j, want)) (hv : a.tmps[d]? = some (.tuple vs)) : Region.wanted o (yielded ops a.tmps) = false := by
  unfold Region.wanted yielded
  rw [hg]
  simp only [hd, Option.bind_some, hv]
  cases want <;> rfl

theorem put_comm_none (s : St) (d : Option Nat) (x : AV) : (s.put d x).mem = s.mem := by cases d <;> rfl

include hP hG
theorem absOps_ok {ops : Array Oper} {Q : Exit → Act → World → Prop} : ∀ (l : List Oper) {s : St} {a : Act} {w : World}, absOps tt Γ ops l s κ = some r → SR g s a w → (∀ s' a' w', κ s' = some r → SR g s' a' w' → Q .normal a' w') → wpList P ops Q l a w
  | [], s, a, w, h, hs, hQ => hQ _ _ _ h hs
  | o :: rest, s, a, w, h, hs, hQ => by
    have exec : ∀ {s : St}, absOp tt Γ s o (fun s' => absOps tt Γ ops rest s' κ) = some r → SR g s a w → Region.wanted o (yielded ops a.tmps) = true → wpList P ops Q (o :: rest) a w := by
      intro s h hs hw
      unfold wpList
      rw [if_pos hw]
      exact .inl (absOp_ok hP hG hs h _ _ fun s' a' w' h' hs' => absOps_ok rest h' hs' hQ)
    have skip : ∀ {s : St}, absOps tt Γ ops rest (s.put o.dst (.tup [])) κ = some r → SR g s a w → Region.wanted o (yielded ops a.tmps) = false → wpList P ops Q (o :: rest) a w := by
      intro s h hs hw
      unfold wpList
      rw [if_neg (by rw [hw]; simp)]
      obtain ⟨ρ, F, hs⟩ := hs
      exact absOps_ok rest h ⟨ρ, F, hs.put o.dst VR_undef⟩ hQ
    unfold absOps at h
    split at h
    · rename_i hg
      exact exec h hs (by unfold Region.wanted; rw [hg])
    · rename_i j want hg
      split at h <;> try cases h
      rename_i d hd
      split at h
      · rename_i b hb
        obtain ⟨ρ, F, hs⟩ := hs
        obtain ⟨v, hv, hvr⟩ := hs.slot hb
        have hvb : v = .bool b := VR.CR hvr (by simp)
        subst hvb
        have hgd := guard_bool (o := o) (a := a) (ops := ops) hd hg hv
        have tell : SX g ρ F (s.put (some d) (.one (.bool b))) a w := hs.tell d _ fun u hu => by rw [hv] at hu; cases hu; exact rfl
        cases want <;> cases b <;> simp only [cond_true, cond_false] at h
        · exact exec h ⟨ρ, F, tell⟩ (by rw [hgd]; rfl)
        · exact skip h ⟨ρ, F, tell⟩ (by rw [hgd]; rfl)
        · exact skip h ⟨ρ, F, tell⟩ (by rw [hgd]; rfl)
        · exact exec h ⟨ρ, F, tell⟩ (by rw [hgd]; rfl)
      · rename_i hb
        obtain ⟨ρ, F, hs⟩ := hs
        obtain ⟨v, hv, hvr⟩ := hs.slot hb
        obtain ⟨vs, rfl, _⟩ := hvr
        exact skip h ⟨ρ, F, hs⟩ (guard_undef hd hg hv)
      · cases h

omit hG in
/-- operations that only read -/
theorem absOp_quiet (hq : quietOp o = true) (hs : SX g ρ F s a w) (h : absOp tt Γ s o κ = some r) : QG P w ρ F s κ r o a := by
  cases ho : o.op with
  | move x =>
    simp only [absOp, ho] at h
    exact qg (fun w' _ => by simp [execOp, ho]) (hs.ev x) h
  | assign x =>
    simp only [absOp, ho] at h
    exact qg (fun w' _ => by simp [execOp, ho]) (hs.ev x) h
  | pick c x y =>
    simp only [absOp, ho] at h
    have hc := hs.ev c
    have hx := hs.ev x
    have hy := hs.ev y
    split at h <;> try cases h
    rename_i z e
    rw [e] at hc
    have hcv : a.eval c = .bool z := VR.CR hc (by simp)
    split at h
    · rename_i p q e1 e2
      rw [e1] at hx
      rw [e2] at hy
      have hxv : a.eval x = .bool p := VR.CR hx (by simp)
      have hyv : a.eval y = .bool q := VR.CR hy (by simp)
      refine qg (v := .bool (bif z then p else q)) (fun w' _ => ?_) (VR.of_CR (c := .bool _) rfl) h
      cases z <;> simp [execOp, ho, hcv, hxv, hyv, asBool]
    · cases z with
      | true => exact qg (v := a.eval x) (fun w' _ => by simp [execOp, ho, hcv, asBool]) hx (by simpa using h)
      | false => exact qg (v := a.eval y) (fun w' _ => by simp [execOp, ho, hcv, asBool]) hy (by simpa using h)
  | load T x => exact ok_load hP ho hs h
  | nilCheck x => exact ok_nilCheck ho hs h
  | binOp op T x y U => exact ok_binOp hP ho hs h
  | unOp op T x => exact ok_unOp ho hs h
  | convert T U x => exact ok_convert hP ho hs h
  | slice T x lo hi mx => exact ok_slice hP ho hs h
  | fieldAddr T x f => exact ok_fieldAddr hP ho hs h
  | field T x f => exact ok_field hP ho hs h
  | indexAddr T x y => exact ok_indexAddr hP ho hs h
  | index T x y => exact ok_index hP ho hs h
  | extract x i => exact ok_extract ho hs h
  | call c =>
    cases hc : c.callee with
    | value f => unfold quietOp at hq; rw [ho] at hq; cases c; simp_all
    | invoke x m => simp only [absOp, ho, hc] at h; cases h
    | builtin b =>
      simp only [absOp, ho, hc] at h
      split at h
      · rename_i x T e1 e2
        exact ok_len hP ho hc e1 e2 hs h
      · unfold quietOp at hq; rw [ho] at hq; cases c; simp_all
      · split at h <;> try cases h
        rename_i c' hm
        exact ok_minmax (mx := false) ho hc hs hm h
      · split at h <;> try cases h
        rename_i c' hm
        exact ok_minmax (mx := true) ho hc hs hm h
      · cases h
  | _ => unfold quietOp at hq; rw [ho] at hq; cases hq

omit hG in
theorem absOps_quiet {ops : Array Oper} {Q : Act → Prop} {C : World → Prop} (hC : ∀ w', C w' → w'.heap = w.heap) : ∀ (l : List Oper) {s : St} {a : Act}, l.all quietOp = true → absOps tt Γ ops l s κ = some r → SX g ρ F s a w → (∀ s' a', κ s' = some r → SX g ρ F s' a' w → Q a') → wpQuiet P ops C Q l a
  | [], s, a, _, h, hs, hQ => hQ _ _ h hs
  | o :: rest, s, a, hq, h, hs, hQ => by
    simp only [List.all_cons, Bool.and_eq_true] at hq
    have exec : ∀ {s : St}, absOp tt Γ s o (fun s' => absOps tt Γ ops rest s' κ) = some r → SX g ρ F s a w → Region.wanted o (yielded ops a.tmps) = true → wpQuiet P ops C Q (o :: rest) a := by
      intro s h hs hw
      unfold wpQuiet
      rw [if_pos hw]
      obtain ⟨x, v, h1, h2, h3⟩ := absOp_quiet hP hq.1 hs h
      refine ⟨v, fun w' hw' => ?_, absOps_quiet hC rest hq.2 h1 (hs.put o.dst h2) hQ⟩
      unfold Oper.quietAt
      rw [h3 w' (hC w' hw')]
      exact ⟨rfl, rfl⟩
    have skip : ∀ {s : St}, absOps tt Γ ops rest (s.put o.dst (.tup [])) κ = some r → SX g ρ F s a w → Region.wanted o (yielded ops a.tmps) = false → wpQuiet P ops C Q (o :: rest) a := by
      intro s h hs hw
      unfold wpQuiet
      rw [if_neg (by rw [hw]; simp)]
      exact absOps_quiet hC rest hq.2 h (hs.put o.dst VR_undef) hQ
    unfold absOps at h
    split at h
    · rename_i hg
      exact exec h hs (by unfold Region.wanted; rw [hg])
    · rename_i j want hg
      split at h <;> try cases h
      rename_i d hd
      split at h
      · rename_i b hb
        obtain ⟨v, hv, hvr⟩ := hs.slot hb
        have hvb : v = .bool b := VR.CR hvr (by simp)
        subst hvb
        have hgd := guard_bool (o := o) (a := a) (ops := ops) hd hg hv
        have tell : SX g ρ F (s.put (some d) (.one (.bool b))) a w := hs.tell d _ fun u hu => by rw [hv] at hu; cases hu; exact rfl
        cases want <;> cases b <;> simp only [cond_true, cond_false] at h
        · exact exec h tell (by rw [hgd]; rfl)
        · exact skip h tell (by rw [hgd]; rfl)
        · exact skip h tell (by rw [hgd]; rfl)
        · exact exec h tell (by rw [hgd]; rfl)
      · rename_i hb
        obtain ⟨v, hv, hvr⟩ := hs.slot hb
        obtain ⟨vs, rfl, _⟩ := hvr
        exact skip h hs (guard_undef hd hg hv)
      · cases h

omit hP hG in
/-- only the count of draws has turned -/
theorem SX.drewN (hs : SX g ρ F s a w) (n : Nat) : SX g ρ F s a (w.drewN n) := by
  have hh : (w.drewN n).heap = w.heap := rfl
  have hm : Mv w (w.drewN n) F F := ⟨fun _ h => h, fun _ _ => by rw [hh]⟩
  refine ⟨hs.tr.mono hm (fun _ _ _ _ _ _ _ => rfl) (Nat.le_refl _), ⟨fun n o ho => (hs.mr.obj n o ho).mono hm (fun _ _ _ _ _ _ _ _ => rfl) (Nat.le_refl _) (fun _ _ => by rw [hh]), hs.mr.inj, hs.mr.sep, hs.mr.lt⟩, ⟨hs.gl.os, hs.gl.tape, hs.gl.output, hs.gl.size, hs.gl.keep, hs.gl.own, hs.gl.fro, hs.gl.froB, hs.gl.len, hs.gl.rho⟩, hs.defers⟩

variable (hmix : P.follows .mixedOrders = true)
include hmix
theorem region_ok {id : Nat} {ops : Array Oper} {draw : Bool} {Q : Exit → Act → World → Prop} (hs : SR g s a w)
    (h : (match draw with
      | false => absOps tt Γ ops ops.toList s κ
      | true => if Region.lexB .any ops && ops.toList.all quietOp then absOps tt Γ ops ops.toList s κ else none) = some r)
    (hQ : ∀ s' a' w', κ s' = some r → SR g s' a' w' → Q .normal a' w') : (Code.region id ops draw).wp P Q a w := by
  cases draw with
  | false => exact wp_region_list (absOps_ok hP hG ops.toList h hs hQ)
  | true =>
    simp only at h
    split at h <;> try cases h
    rename_i hb
    simp only [Bool.and_eq_true] at hb
    obtain ⟨ρ, F, hs⟩ := hs
    refine wp_region_quiet (C := fun w' => ∃ n, w' = w.drewN n) hmix hb.1 ⟨1, rfl⟩ ?_
    refine absOps_quiet hP (fun w' hw' => by obtain ⟨n, rfl⟩ := hw'; rfl) ops.toList hb.2 h hs fun s' a' h' hs' w' hw' => ?_
    obtain ⟨n, rfl⟩ := hw'
    exact hQ _ _ _ h' ⟨ρ, F, hs'.drewN n⟩
end
end Go.Proofs.Ytaaljooihacpgaa.Am
