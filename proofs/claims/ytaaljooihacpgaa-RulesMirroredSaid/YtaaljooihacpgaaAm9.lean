/- Code, loops and functions: what the abstract machine says, the program does. -/
import Derived.Test.YtaaljooihacpgaaAm8
import Derived.Tactics
import Derived.Orders
set_option linter.unusedVariables false
set_option linter.unusedSimpArgs false
namespace Go.Proofs.Ytaaljooihacpgaa.Am
open Go

section
variable {R : Type} {P : Program} {tt : Tab} (hP : TabOk P tt) {Γ : GamF} {pu : Prop} (hG : GamFOk P pu Γ) {g : Beg} {ρ : Nat → Value} {F : Nat → Prop} {s : St} {a : Act} {w : World} {κ : St → Option R} {r : R} {o : Oper}

theorem F2.setL {α β : Type} {R : α → β → Prop} {l : List α} {r : List β} (h : F2 R l r) (x : α) : ∀ n, (∀ b, r[n]? = some b → R x b) → F2 R (l.set n x) r := by
  induction h with
  | nil => intro n _; simp; exact .nil
  | @cons a b l r h hr ih =>
    intro n hx
    cases n with
    | zero => exact .cons (hx b (by simp)) hr
    | succ n => exact .cons h (ih n fun b hb => hx b (by simpa using hb))

/-- a slot is told anew -/
theorem SX.tell (hs : SX g ρ F s a w) (d : Nat) (x : AV) (h : ∀ v, a.tmps[d]? = some v → VR w ρ F s.mem.length x v) : SX g ρ F (s.put (some d) x) a w :=
  ⟨F2.setL hs.tr x d fun b hb => h b (by rw [← Array.getElem?_toList]; exact hb), hs.mr, hs.gl, hs.defers⟩

theorem SX.slot (hs : SX g ρ F s a w) {d : Nat} {x : AV} (h : s.tmps[d]? = some x) : ∃ v, a.tmps[d]? = some v ∧ VR w ρ F s.mem.length x v := by
  obtain ⟨v, h1, h2⟩ := F2.get hs.tr d x h
  exact ⟨v, by rw [← Array.getElem?_toList]; exact h1, h2⟩

theorem VR_undef {N : Nat} : VR w ρ F N (.tup []) undef := ⟨#[], rfl, .nil⟩

/-- what a guard says -/
theorem guard_bool {ops : Array Oper} {j d : Nat} {want b : Bool} (hd : (ops[j]?).bind (·.dst) = some d) (hg : o.guard = some (j, want)) (hv : a.tmps[d]? = some (.bool b)) : Region.wanted o (yielded ops a.tmps) = (b == want) := by
  unfold Region.wanted yielded
  rw [hg]
  simp only [hd, Option.bind_some, hv]
  cases b <;> cases want <;> rfl
theorem guard_undef {ops : Array Oper} {j d : Nat} {want : Bool} {vs : Array Value} (hd : (ops[j]?).bind (·.dst) = some d) (hg : o.guard = some (j, want)) (hv : a.tmps[d]? = some (.tuple vs)) : Region.wanted o (yielded ops a.tmps) = false := by
  unfold Region.wanted yielded
  rw [hg]
  simp only [hd, Option.bind_some, hv]
  cases want <;> rfl

theorem put_comm_none (s : St) (d : Option Nat) (x : AV) : (s.put d x).mem = s.mem := by cases d <;> rfl

include hP hG
theorem absOps_ok {ops : Array Oper} {Q : Exit → Act → World → Prop} : ∀ (l : List Oper) {s : St} {a : Act} {w : World}, absOps tt Γ ops l s κ = some r → SR g s a w → (∀ s' a' w', κ s' = some r → SR g s' a' w' → Q .normal a' w') → wpList P ops Q l a w
  | [], s, a, w, h, hs, hQ => hQ _ _ _ h hs
  | o :: rest, s, a, w, h, hs, hQ => by
    have exec : ∀ {s : St}, absOp tt Γ s o (fun s' => absOps tt Γ ops rest s' κ) = some r → SR g s a w → Region.wanted o (yielded ops a.tmps) = true → wpList P ops Q (o :: rest) a w := by
      intro s h hs hw
      unfold wpList
      rw [if_pos hw]
      exact .inl (absOp_ok hP hG hs h _ _ fun s' a' w' h' hs' _ => absOps_ok rest h' hs' hQ)
    have skip : ∀ {s : St}, absOps tt Γ ops rest (s.put o.dst (.tup [])) κ = some r → SR g s a w → Region.wanted o (yielded ops a.tmps) = false → wpList P ops Q (o :: rest) a w := by
      intro s h hs hw
      unfold wpList
      rw [if_neg (by rw [hw]; simp)]
      obtain ⟨ρ, F, hs⟩ := hs
      exact absOps_ok rest h ⟨ρ, F, hs.put o.dst VR_undef⟩ hQ
    unfold absOps at h
    split at h
    · rename_i hg
      exact exec h hs (by unfold Region.wanted; rw [hg])
    · rename_i j want hg
      split at h <;> try cases h
      rename_i d hd
      split at h
      · rename_i b hb
        obtain ⟨ρ, F, hs⟩ := hs
        obtain ⟨v, hv, hvr⟩ := hs.slot hb
        have hvb : v = .bool b := VR.CR hvr (by simp)
        subst hvb
        have hgd := guard_bool (o := o) (a := a) (ops := ops) hd hg hv
        have tell : SX g ρ F (s.put (some d) (.one (.bool b))) a w := hs.tell d _ fun u hu => by rw [hv] at hu; cases hu; exact rfl
        cases want <;> cases b <;> simp only [cond_true, cond_false] at h
        · exact exec h ⟨ρ, F, tell⟩ (by rw [hgd]; rfl)
        · exact skip h ⟨ρ, F, tell⟩ (by rw [hgd]; rfl)
        · exact skip h ⟨ρ, F, tell⟩ (by rw [hgd]; rfl)
        · exact exec h ⟨ρ, F, tell⟩ (by rw [hgd]; rfl)
      · rename_i hb
        obtain ⟨ρ, F, hs⟩ := hs
        obtain ⟨v, hv, hvr⟩ := hs.slot hb
        obtain ⟨vs, rfl, _⟩ := hvr
        exact skip h ⟨ρ, F, hs⟩ (guard_undef hd hg hv)
      · cases h

omit hG in
/-- operations that only read -/
theorem absOp_quiet (hq : quietOp o = true) (hs : SX g ρ F s a w) (h : absOp tt Γ s o κ = some r) : QG P w ρ F s κ r o a := by
  cases ho : o.op with
  | move x =>
    simp only [absOp, ho] at h
    exact qg (fun w' _ => by simp [execOp, ho]) (hs.ev x) h
  | assign x =>
    simp only [absOp, ho] at h
    exact qg (fun w' _ => by simp [execOp, ho]) (hs.ev x) h
  | pick c x y =>
    simp only [absOp, ho] at h
    have hc := hs.ev c
    have hx := hs.ev x
    have hy := hs.ev y
    split at h <;> try cases h
    rename_i z e
    rw [e] at hc
    have hcv : a.eval c = .bool z := VR.CR hc (by simp)
    split at h
    · rename_i p q e1 e2
      rw [e1] at hx
      rw [e2] at hy
      have hxv : a.eval x = .bool p := VR.CR hx (by simp)
      have hyv : a.eval y = .bool q := VR.CR hy (by simp)
      refine qg (v := .bool (bif z then p else q)) (fun w' _ => ?_) (VR.of_CR (c := .bool _) rfl) h
      cases z <;> simp [execOp, ho, hcv, hxv, hyv, asBool]
    · cases z with
      | true => exact qg (v := a.eval x) (fun w' _ => by simp [execOp, ho, hcv, asBool]) hx (by simpa using h)
      | false => exact qg (v := a.eval y) (fun w' _ => by simp [execOp, ho, hcv, asBool]) hy (by simpa using h)
  | load T x => exact ok_load hP ho hs h
  | nilCheck x => exact ok_nilCheck ho hs h
  | binOp op T x y U => exact ok_binOp hP ho hs h
  | unOp op T x => exact ok_unOp ho hs h
  | convert T U x => exact ok_convert hP ho hs h
  | slice T x lo hi mx => exact ok_slice hP ho hs h
  | fieldAddr T x f => exact ok_fieldAddr hP ho hs h
  | field T x f => exact ok_field hP ho hs h
  | indexAddr T x y => exact ok_indexAddr hP ho hs h
  | index T x y => exact ok_index hP ho hs h
  | extract x i => exact ok_extract ho hs h
  | call c =>
    cases hc : c.callee with
    | value f => unfold quietOp at hq; rw [ho] at hq; cases c; simp_all
    | invoke x m => simp only [absOp, ho, hc] at h; cases h
    | builtin b =>
      simp only [absOp, ho, hc] at h
      split at h
      · rename_i x T e1 e2
        exact ok_len hP ho hc e1 e2 hs h
      · unfold quietOp at hq; rw [ho] at hq; cases c; simp_all
      · split at h <;> try cases h
        rename_i c' hm
        exact ok_minmax (mx := false) ho hc hs hm h
      · split at h <;> try cases h
        rename_i c' hm
        exact ok_minmax (mx := true) ho hc hs hm h
      · cases h
  | _ => unfold quietOp at hq; rw [ho] at hq; cases hq

omit hP hG in
/-- does operation i keep what there was? -/
def Keeps (ops : Array Oper) (i : Nat) : Prop := ∃ o, ops[i]? = some o ∧ (quietOp o = true ∨ growOp o = true)

/-- any order from here on; what keeps what there was is seen to do so -/
def wpC (P : Program) (ops : Array Oper) (Q : Exit → Act → World → Prop) : Nat → Array Bool → Act → World → Prop
  | 0, listed, a, w => Region.ready .any ops listed = [] ∧ Q .normal a w
  | n + 1, listed, a, w => (Region.ready .any ops listed = [] → Q .normal a w) ∧
      ∀ i ∈ Region.ready .any ops listed, wpOp P ops Q i (fun a' w' => (Keeps ops i → Ext w w') ∧ wpC P ops Q n (listed.setIfInBounds i true) a' w') a w
omit hP hG in
theorem wpAny_of_wpC {ops : Array Oper} {Q : Exit → Act → World → Prop} : ∀ (n : Nat) (listed : Array Bool) (a : Act) (w : World), wpC P ops Q n listed a w → wpAny P .any ops Q n listed a w
  | 0, _, _, _, h => h
  | n + 1, _, _, _, h => ⟨h.1, fun i hi => wpOp_mono (fun a' w' hh => wpAny_of_wpC n _ a' w' hh.2) (h.2 i hi)⟩

/-- an operation's value, whatever is laid beside -/
def Still (P : Program) (ops : Array Oper) (o : Oper) (v : Value) (a : Act) (w : World) : Prop :=
  (Region.wanted o (yielded ops a.tmps) = true ∧ ∀ w', (freeOp o = true ∨ Ext w w') → (execOp a.eval o).run P w' = .ok (.value v) w') ∨ (Region.wanted o (yielded ops a.tmps) = false ∧ v = undef)
omit hP hG in
theorem Still.wpOp {ops : Array Oper} {Q : Exit → Act → World → Prop} {i : Nat} {v : Value} {K : Act → World → Prop} (hi : ops[i]? = some o) (hy : Still P ops o v a w) (h : K (a.put o.dst v) w) : Go.wpOp P ops Q i K a w := by
  unfold Go.wpOp
  simp only [hi]
  rcases hy with ⟨hw, hv⟩ | ⟨hw, rfl⟩
  · simp only [hw, if_true, Oper.wp, hv w (.inr (Ext.refl w)), Oper.upon]
    exact .inl h
  · simp only [hw, Bool.false_eq_true, if_false]
    exact h
omit hP hG in
theorem Still.later {ops : Array Oper} {v : Value} {a' : Act} {w' : World} (hy : Still P ops o v a w) (he : execOp a'.eval o = execOp a.eval o) (hw : Region.wanted o (yielded ops a'.tmps) = Region.wanted o (yielded ops a.tmps)) (hx : freeOp o = true ∨ Ext w w') : Still P ops o v a' w' := by
  unfold Still at *
  rw [he, hw]
  rcases hy with ⟨h1, h2⟩ | h
  · refine .inl ⟨h1, fun w'' h => h2 w'' ?_⟩
    rcases h with h | h
    · exact .inl h
    · rcases hx with hx | hx
      · exact .inl hx
      · exact .inr (hx.trans h)
  · exact .inr h
omit hP hG in
theorem wpOp_move {ops : Array Oper} {Q : Exit → Act → World → Prop} {j : Nat} {oi oj : Oper} {v : Value} (hj : ops[j]? = some oj) (hap : oi.apart ops oj = true) (hsi : ∀ cs b, oi.op ≠ .select cs b) (hsj : ∀ cs b, oj.op ≠ .select cs b)
    (hQ : ∀ c a w, ¬ Q (.panic c) a w) {K : Act → World → Prop} (hy : Still P ops oi v a w) (h : wpOp P ops Q j K (a.put oi.dst v) w) :
    wpOp P ops Q j (fun a' w' => (∀ w', (freeOp oi = true ∨ Ext w w') → Still P ops oi v a' w') ∧ K (a'.put oi.dst v) w') a w := by
  obtain ⟨h1, h2, h3⟩ := Oper.apart_spec hap
  have keep : ∀ u, ∀ w', (freeOp oi = true ∨ Ext w w') → Still P ops oi v (a.put oj.dst u) w' := fun u w' hx =>
    hy.later (execOp_put oi hsi a oj.dst u h3) (wanted_put oi a oj.dst u h3) hx
  have keepD : ∀ d u, ∀ w', (freeOp oi = true ∨ Ext w w') → Still P ops oi v (({ a with defers := d :: a.defers } : Act).put oj.dst u) w' := fun d u w' hx =>
    hy.later (execOp_put oi hsi ({ a with defers := d :: a.defers } : Act) oj.dst u h3) (wanted_put oi ({ a with defers := d :: a.defers } : Act) oj.dst u h3) hx
  unfold wpOp at *
  simp only [hj] at *
  rw [wanted_put oj a oi.dst v h1] at h
  split
  · rename_i hw
    simp only [hw, if_true] at h
    rcases h with h | ⟨hasks, hlets⟩
    · refine .inl ?_
      unfold Oper.wp at *
      rw [execOp_put oj hsj a oi.dst v h1] at h
      cases hr : (execOp a.eval oj).run P w with
      | ok n w' =>
        rw [hr] at h
        cases n <;> simp only [Oper.upon] at h ⊢
        case value u => exact ⟨keep u, by rw [← Act.put_comm a v u h2]; exact h⟩
        case skip => exact ⟨keep undef, by rw [← Act.put_comm a v undef h2]; exact h⟩
        case defer d =>
          refine ⟨keepD d undef, ?_⟩
          rw [← Act.put_comm _ v undef h2, ← Act.put_defers]
          exact h
        case enter f args =>
          refine Calls.mono h fun e w'' he => ?_
          cases e with
          | returned u => exact ⟨keep u, by rw [← Act.put_comm a v u h2]; exact he⟩
          | panicked c => exact absurd he (hQ _ _ _)
          | outgrown => exact he
        case row row args => exact Rows.mono h fun u w'' he => ⟨keep u, by rw [← Act.put_comm a v u h2]; exact he⟩
      | halt x w' =>
        rw [hr] at h
        cases x <;> simp only [Oper.upon] at h ⊢
        case panic u => exact absurd h (hQ _ _ _)
    · refine .inr ⟨?_, hlets⟩
      unfold Oper.asks at *
      rw [execOp_put oj hsj a oi.dst v h1] at hasks
      exact hasks
  · rename_i hw
    simp only [hw] at h
    exact ⟨keep undef, by rw [← Act.put_comm a v undef h2]; exact h⟩

omit hP hG in
/-- what may come first and minds nothing that is left is taken first -/
theorem wpC_first {ops : Array Oper} {Q : Exit → Act → World → Prop} {i : Nat} {oi : Oper} {v : Value} (hi : ops[i]? = some oi) (hsel : ∀ (j : Nat) (o : Oper) cs b, ops[j]? = some o → o.op ≠ .select cs b) (hQ : ∀ c a w, ¬ Q (.panic c) a w) :
    ∀ (n : Nat) (listed : Array Bool) (a : Act) (w : World),
      (∀ j oj, ops[j]? = some oj → j ≠ i → listed.getD j true = false → (∀ e ∈ oj.after, Region.binds .any e = true → e.on ≠ i) → oi.apart ops oj = true ∧ (freeOp oi = true ∨ (quietOp oj = true ∨ growOp oj = true))) →
      i ∈ Region.ready .any ops listed → Still P ops oi v a w → wpC P ops Q n (listed.setIfInBounds i true) (a.put oi.dst v) w → wpC P ops Q (n + 1) listed a w := by
  intro n
  induction n with
  | zero =>
    intro listed a w _ hr hy H
    refine ⟨fun h => (by rw [h] at hr; cases hr), fun j hj => ?_⟩
    by_cases hji : j = i
    · subst hji
      exact hy.wpOp hi ⟨fun _ => Ext.refl w, H⟩
    · have := ready_mono hj hji
      rw [H.1] at this
      cases this
  | succ n ih =>
    intro listed a w hfree hr hy H
    refine ⟨fun h => (by rw [h] at hr; cases hr), fun j hj => ?_⟩
    by_cases hji : j = i
    · subst hji
      exact hy.wpOp hi ⟨fun _ => Ext.refl w, H⟩
    · have h1 := H.2 j (ready_mono hj hji)
      obtain ⟨hjun, oj, hoj, hall⟩ := mem_ready.1 hj
      have hlisted : listed.getD i true = false := (mem_ready.1 hr).1
      have hnot : ∀ e ∈ oj.after, Region.binds .any e = true → e.on ≠ i := by
        intro e he hb heq
        have h2 := hall e he hb
        rw [heq] at h2
        rw [Array.getD_eq_getD_getElem?] at h2 hlisted
        cases hq : listed[i]? with
        | none => rw [hq] at hlisted; simp at hlisted
        | some b => rw [hq] at h2 hlisted; simp at h2 hlisted; rw [h2] at hlisted; cases hlisted
      obtain ⟨hap, hkind⟩ := hfree j oj hoj hji hjun hnot
      have h2 := wpOp_move hoj hap (fun cs b => hsel i oi cs b hi) (fun cs b => hsel j oj cs b hoj) hQ hy h1
      have hfree' : ∀ k ok, ops[k]? = some ok → k ≠ i → (listed.setIfInBounds j true).getD k true = false → (∀ e ∈ ok.after, Region.binds .any e = true → e.on ≠ i) → oi.apart ops ok = true ∧ (freeOp oi = true ∨ (quietOp ok = true ∨ growOp ok = true)) := by
        intro k ok hk hki hun hno
        refine hfree k ok hk hki ?_ hno
        by_cases hjk : j = k
        · subst hjk; exact hjun
        · rw [getD_set_ne true hjk] at hun; exact hun
      refine wpOp_mono (fun a' w' h3 => ?_) h2
      obtain ⟨h4, h5, h6⟩ := h3
      refine ⟨h5, ih (listed.setIfInBounds j true) a' w' hfree' (ready_mono hr (Ne.symm hji)) (h4 w' ?_) ?_⟩
      · rcases hkind with hk | hk
        · exact .inl hk
        · exact .inr (h5 ⟨oj, hoj, hk⟩)
      · rw [Array.setIfInBounds_comm _ _ hji]
        exact h6

omit hP hG in
theorem okFirst_spec {ops : Array Oper} {listed : Array Bool} {i : Nat} {oi : Oper} (hi : ops[i]? = some oi) (h : okFirst ops listed i = true) (j : Nat) (oj : Oper) (hj : ops[j]? = some oj) (hne : j ≠ i) (hun : listed.getD j true = false)
    (hno : ∀ e ∈ oj.after, Region.binds .any e = true → e.on ≠ i) : oi.apart ops oj = true ∧ (freeOp oi = true ∨ (quietOp oj = true ∨ growOp oj = true)) := by
  unfold okFirst at h
  simp only [hi, List.all_eq_true, List.mem_range] at h
  have h1 := h j (Array.getElem?_eq_some_iff.1 hj).1
  simp only [hj, Bool.or_eq_true, beq_iff_eq, hne, false_or, hun, Bool.false_eq_true, Bool.and_eq_true] at h1
  rcases h1 with h1 | h1
  · obtain ⟨e, he, hb⟩ := Array.any_eq_true'.1 h1
    simp only [Bool.and_eq_true, beq_iff_eq] at hb
    exact absurd hb.2 (hno e he hb.1)
  · exact h1

omit hG in
theorem absOpsD_ok (hG : GamFOk P True Γ) {ops : Array Oper} {Q : Exit → Act → World → Prop} (hsel : ∀ (j : Nat) (o : Oper) cs b, ops[j]? = some o → o.op ≠ .select cs b) (hQp : ∀ c a w, ¬ Q (.panic c) a w) :
    ∀ (n : Nat) (listed : Array Bool) {order : List Nat} {s : St} {a : Act} {w : World}, ordr ops n listed = some order → absOps tt Γ ops (opsAt ops order) s κ = some r → SR g s a w → (∀ s' a' w', κ s' = some r → SR g s' a' w' → Q .normal a' w') → wpC P ops Q n listed a w
  | 0, listed, order, s, a, w, ho, h, hs, hQ => by
    unfold ordr at ho
    split at ho <;> cases ho
    rename_i he
    exact ⟨by simpa using he, hQ _ _ _ h hs⟩
  | n + 1, listed, order, s, a, w, ho, h, hs, hQ => by
    unfold ordr at ho
    split at ho
    · -- a quiet operation
      rename_i i hf
      split at ho
      case isFalse => cases ho
      rename_i hfirst
      split at ho <;> cases ho
      rename_i l hl
      have hi : i ∈ Region.ready .any ops listed := List.mem_of_find?_eq_some hf
      obtain ⟨_, o, hoi, _⟩ := mem_ready.1 hi
      have hq : quietOp o = true := by
        have := List.find?_some hf
        simpa [hoi] using this
      have hop : opsAt ops (i :: l) = o :: opsAt ops l := by simp [opsAt, hoi]
      rw [hop] at h
      have fin : ∀ {s : St} {v : Value}, absOps tt Γ ops (opsAt ops l) s κ = some r → SR g s (a.put o.dst v) w → Still P ops o v a w → wpC P ops Q (n + 1) listed a w := fun h hs hst =>
        wpC_first hoi hsel hQp n listed a w (fun j oj => okFirst_spec hoi hfirst j oj) hi hst (absOpsD_ok hG hsel hQp n _ hl h hs hQ)
      obtain ⟨ρ, F, hs⟩ := hs
      have exec : ∀ {s : St}, absOp tt Γ s o (fun s' => absOps tt Γ ops (opsAt ops l) s' κ) = some r → SX g ρ F s a w → Region.wanted o (yielded ops a.tmps) = true → wpC P ops Q (n + 1) listed a w := by
        intro s h hs hw
        obtain ⟨x, v, h1, h2, h3⟩ := absOp_quiet hP hq hs h
        exact fin h1 ⟨ρ, F, hs.put o.dst h2⟩ (.inl ⟨hw, h3⟩)
      have skip : ∀ {s : St}, absOps tt Γ ops (opsAt ops l) (s.put o.dst (.tup [])) κ = some r → SX g ρ F s a w → Region.wanted o (yielded ops a.tmps) = false → wpC P ops Q (n + 1) listed a w :=
        fun h hs hw => fin h ⟨ρ, F, hs.put o.dst VR_undef⟩ (.inr ⟨hw, rfl⟩)
      unfold absOps at h
      split at h
      · rename_i hg
        exact exec h hs (by unfold Region.wanted; rw [hg])
      · rename_i j want hg
        split at h <;> try cases h
        rename_i d hd
        split at h
        · rename_i b hb
          obtain ⟨v, hv, hvr⟩ := hs.slot hb
          have hvb : v = .bool b := VR.CR hvr (by simp)
          subst hvb
          have hgd := guard_bool (o := o) (a := a) (ops := ops) hd hg hv
          have tell : SX g ρ F (s.put (some d) (.one (.bool b))) a w := hs.tell d _ fun u hu => by rw [hv] at hu; cases hu; exact rfl
          cases want <;> cases b <;> simp only [cond_true, cond_false] at h
          · exact exec h tell (by rw [hgd]; rfl)
          · exact skip h tell (by rw [hgd]; rfl)
          · exact skip h tell (by rw [hgd]; rfl)
          · exact exec h tell (by rw [hgd]; rfl)
        · rename_i hb
          obtain ⟨v, hv, hvr⟩ := hs.slot hb
          obtain ⟨vs, rfl, _⟩ := hvr
          exact skip h hs (guard_undef hd hg hv)
        · cases h
    · -- another one, alone
      rename_i hf
      split at ho <;> try cases ho
      rename_i i hready
      split at ho <;> cases ho
      rename_i l hl
      have hi : i ∈ Region.ready .any ops listed := by rw [hready]; simp
      obtain ⟨_, o, hoi, _⟩ := mem_ready.1 hi
      have hnq : quietOp o = false := by
        have := List.find?_eq_none.1 hf i hi
        simpa [hoi] using this
      have hop : opsAt ops (i :: l) = o :: opsAt ops l := by simp [opsAt, hoi]
      rw [hop] at h
      refine ⟨fun h0 => (by rw [hready] at h0; cases h0), fun j hj => ?_⟩
      have hji : j = i := by rw [hready] at hj; simpa using hj
      subst hji
      have keeps : Keeps ops j → growOp o = true := by
        rintro ⟨o', h1, h2⟩
        rw [hoi] at h1
        cases h1
        rcases h2 with h2 | h2
        · rw [hnq] at h2; cases h2
        · exact h2
      have exec : ∀ {s : St}, absOp tt Γ s o (fun s' => absOps tt Γ ops (opsAt ops l) s' κ) = some r → SR g s a w → Region.wanted o (yielded ops a.tmps) = true →
          wpOp P ops Q j (fun a' w' => (Keeps ops j → Ext w w') ∧ wpC P ops Q n (listed.setIfInBounds j true) a' w') a w := by
        intro s h hs hw
        unfold wpOp
        simp only [hoi, hw, if_true]
        refine .inl ?_
        by_cases hcall : growOp o = true ∧ ∃ c, o.op = .call c
        · obtain ⟨hgr, c, hc⟩ := hcall
          obtain ⟨f, hcf⟩ : ∃ f, c.callee = .value f := by
            unfold growOp at hgr
            rw [hc] at hgr
            cases hcc : c.callee with
            | value f => exact ⟨f, rfl⟩
            | _ => cases c; simp_all
          obtain ⟨fi, hfi⟩ : ∃ fi, s.ev f = .one (.fn fi) := by
            have h' := h
            simp only [absOp, hc, hcf] at h'
            split at h'
            · rename_i fi e; exact ⟨fi, e⟩
            · cases h'
          obtain ⟨ρ, F, hs⟩ := hs
          exact ok_callE hG hc hcf hfi hs h _ _ fun s' a' w' h1 h2 h3 => ⟨fun _ => h3 trivial, absOpsD_ok hG hsel hQp n _ hl h1 h2 hQ⟩
        · exact absOp_ok hP hG hs h _ _ fun s' a' w' h1 h2 h3 => ⟨fun hk => h3 (keeps hk) (fun c hc => hcall ⟨keeps hk, c, hc⟩), absOpsD_ok hG hsel hQp n _ hl h1 h2 hQ⟩
      have skip : ∀ {s : St}, absOps tt Γ ops (opsAt ops l) (s.put o.dst (.tup [])) κ = some r → SR g s a w → Region.wanted o (yielded ops a.tmps) = false →
          wpOp P ops Q j (fun a' w' => (Keeps ops j → Ext w w') ∧ wpC P ops Q n (listed.setIfInBounds j true) a' w') a w := by
        intro s h hs hw
        unfold wpOp
        simp only [hoi, hw, Bool.false_eq_true, if_false]
        obtain ⟨ρ, F, hs⟩ := hs
        exact ⟨fun _ => Ext.refl w, absOpsD_ok hG hsel hQp n _ hl h ⟨ρ, F, hs.put o.dst VR_undef⟩ hQ⟩
      unfold absOps at h
      split at h
      · rename_i hg
        exact exec h hs (by unfold Region.wanted; rw [hg])
      · rename_i j' want hg
        split at h <;> try cases h
        rename_i d hd
        split at h
        · rename_i b hb
          obtain ⟨ρ, F, hs⟩ := hs
          obtain ⟨v, hv, hvr⟩ := hs.slot hb
          have hvb : v = .bool b := VR.CR hvr (by simp)
          subst hvb
          have hgd := guard_bool (o := o) (a := a) (ops := ops) hd hg hv
          have tell : SX g ρ F (s.put (some d) (.one (.bool b))) a w := hs.tell d _ fun u hu => by rw [hv] at hu; cases hu; exact rfl
          cases want <;> cases b <;> simp only [cond_true, cond_false] at h
          · exact exec h ⟨ρ, F, tell⟩ (by rw [hgd]; rfl)
          · exact skip h ⟨ρ, F, tell⟩ (by rw [hgd]; rfl)
          · exact skip h ⟨ρ, F, tell⟩ (by rw [hgd]; rfl)
          · exact exec h ⟨ρ, F, tell⟩ (by rw [hgd]; rfl)
        · rename_i hb
          obtain ⟨ρ, F, hs⟩ := hs
          obtain ⟨v, hv, hvr⟩ := hs.slot hb
          obtain ⟨vs, rfl, _⟩ := hvr
          exact skip h ⟨ρ, F, hs⟩ (guard_undef hd hg hv)
        · cases h

omit hP hG in
/-- only the count of draws has turned -/
theorem SX.drewN (hs : SX g ρ F s a w) (n : Nat) : SX g ρ F s a (w.drewN n) := by
  have hh : (w.drewN n).heap = w.heap := rfl
  have hm : Mv w (w.drewN n) F F := ⟨fun _ h => h, fun _ _ => by rw [hh]⟩
  refine ⟨hs.tr.mono hm (fun _ _ _ _ _ _ _ => rfl) (Nat.le_refl _), ⟨fun n o ho => (hs.mr.obj n o ho).mono hm (fun _ _ _ _ _ _ _ _ => rfl) (Nat.le_refl _) (fun _ _ => by rw [hh]), hs.mr.inj, hs.mr.sep, hs.mr.lt⟩, ⟨hs.gl.os, hs.gl.tape, hs.gl.output, hs.gl.size, hs.gl.keep, hs.gl.own, hs.gl.fro, hs.gl.froB, hs.gl.len, hs.gl.rho⟩, hs.defers⟩

omit hG in
theorem region_ok {Γ : Gam} (hGc : GamFOk P False Γ.c) (hGd : GamFOk P True Γ.d) (hmix : P.follows .mixedOrders = true) {id : Nat} {ops : Array Oper} {draw : Bool} {Q : Exit → Act → World → Prop} (hs : SR g s a w)
    (h : (match draw with
      | false => absOps tt Γ.c ops ops.toList s κ
      | true => match orderOf ops with
        | some l => absOps tt Γ.d ops l s κ
        | none => none) = some r)
    (hQ : ∀ s' a' w', κ s' = some r → SR g s' a' w' → Q .normal a' w') (hQp : ∀ c a w, ¬ Q (.panic c) a w) : (Code.region id ops draw).wp P Q a w := by
  cases draw with
  | false => exact wp_region_list (absOps_ok hP hGc ops.toList h hs hQ)
  | true =>
    simp only at h
    split at h <;> try cases h
    rename_i l hl
    unfold orderOf at hl
    split at hl <;> try cases hl
    rename_i hsel
    split at hl <;> cases hl
    rename_i order hord
    obtain ⟨ρ, F, hs⟩ := hs
    exact wp_region_any hmix (wpAny_of_wpC _ _ _ _ (absOpsD_ok hP hGd (Region.noSelect_spec hsel) hQp _ _ hord h ⟨ρ, F, hs.drewN 1⟩ hQ))
end
end Go.Proofs.Ytaaljooihacpgaa.Am
