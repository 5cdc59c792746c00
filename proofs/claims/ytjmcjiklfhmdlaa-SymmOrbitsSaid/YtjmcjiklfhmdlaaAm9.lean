/- Code, loops and functions: what the abstract machine says, the program does. -/
import Derived.Test.YtjmcjiklfhmdlaaAm8
import Derived.Tactics
import Derived.Orders
set_option linter.unusedVariables false
set_option linter.unusedSimpArgs false
namespace Go.Proofs.Ytjmcjiklfhmdlaa.Am
open Go

section
variable {R : Type} {P : Program} {tt : Tab} (hP : TabOk P tt) {Γ : GamF} {pu : Prop} (hG : GamFOk P pu Γ) {g : Beg} {ρ : Nat → Value} {F : Nat → Prop} {s : St} {a : Act} {w : World} {κ : St → Option R} {r : R} {o : Oper}

theorem F2.setL {α β : Type} {R : α → β → Prop} {l : List α} {r : List β} (h : F2 R l r) (x : α) : ∀ n, (∀ b, r[n]? = some b → R x b) → F2 R (l.set n x) r := by
  induction h with
  | nil => intro n _; simp; exact .nil
  | @cons a b l r h hr ih =>
    intro n hx
    cases n with
    | zero => exact .cons (hx b (by simp)) hr
    | succ n => exact .cons h (ih n fun b hb => hx b (by simpa using hb))

/-- a slot is told anew -/
theorem SX.tell (hs : SX g ρ F s a w) (d : Nat) (x : AV) (h : ∀ v, a.tmps[d]? = some v → VR w ρ F s.mem.length x v) : SX g ρ F (s.put (some d) x) a w :=
  ⟨F2.setL hs.tr x d fun b hb => h b (by rw [← Array.getElem?_toList]; exact hb), hs.mr, hs.gl, hs.defers⟩

theorem SX.slot (hs : SX g ρ F s a w) {d : Nat} {x : AV} (h : s.tmps[d]? = some x) : ∃ v, a.tmps[d]? = some v ∧ VR w ρ F s.mem.length x v := by
  obtain ⟨v, h1, h2⟩ := F2.get hs.tr d x h
  exact ⟨v, by rw [← Array.getElem?_toList]; exact h1, h2⟩

theorem VR_undef {N : Nat} : VR w ρ F N (.tup []) undef := ⟨#[], rfl, .nil⟩

/-- what a guard says -/
theorem guard_bool {ops : Array Oper} {j d : Nat} {want b : Bool} (hd : (ops[j]?).bind (·.dst) = some d) (hg : o.guard = some (j, want)) (hv : a.tmps[d]? = some (.bool b)) : Region.wanted o (yielded ops a.tmps) = (b == want) := by
  unfold Region.wanted yielded
  rw [hg]
  simp only [hd, Option.bind_some, hv]
  cases b <;> cases want <;> rfl
theorem guard_undef {ops : Array Oper} {j d : Nat} {want : Bool} {vs : Array Value} (hd : (ops[j]?).bind (·.dst) = some d) (hg : o.guard = some (j, want)) (hv : a.tmps[d]? = some (.tuple vs)) : Region.wanted o (yielded ops a.tmps) = false := by
  unfold Region.wanted yielded
  rw [hg]
  simp only [hd, Option.bind_some, hv]
  cases want <;> rfl

theorem put_comm_none (s : St) (d : Option Nat) (x : AV) : (s.put d x).mem = s.mem := by cases d <;> rfl

include hP hG
theorem absOps_ok {ops : Array Oper} {Q : Exit → Act → World → Prop} : ∀ (l : List Oper) {s : St} {a : Act} {w : World}, absOps tt Γ ops l s κ = some r → SR g s a w → (∀ s' a' w', κ s' = some r → SR g s' a' w' → Q .normal a' w') → wpList P ops Q l a w
  | [], s, a, w, h, hs, hQ => hQ _ _ _ h hs
  | o :: rest, s, a, w, h, hs, hQ => by
    have exec : ∀ {s : St}, absOp tt Γ s o (fun s' => absOps tt Γ ops rest s' κ) = some r → SR g s a w → Region.wanted o (yielded ops a.tmps) = true → wpList P ops Q (o :: rest) a w := by
      intro s h hs hw
      unfold wpList
      rw [if_pos hw]
      exact .inl (absOp_ok hP hG hs h _ _ fun s' a' w' h' hs' _ _ => absOps_ok rest h' hs' hQ)
    have skip : ∀ {s : St}, absOps tt Γ ops rest (s.put o.dst (.tup [])) κ = some r → SR g s a w → Region.wanted o (yielded ops a.tmps) = false → wpList P ops Q (o :: rest) a w := by
      intro s h hs hw
      unfold wpList
      rw [if_neg (by rw [hw]; simp)]
      obtain ⟨ρ, F, hs⟩ := hs
      exact absOps_ok rest h ⟨ρ, F, hs.put o.dst VR_undef⟩ hQ
    unfold absOps at h
    split at h
    · rename_i hg
      exact exec h hs (by unfold Region.wanted; rw [hg])
    · rename_i j want hg
      split at h <;> try cases h
      rename_i d hd
      split at h
      · rename_i b hb
        obtain ⟨ρ, F, hs⟩ := hs
        obtain ⟨v, hv, hvr⟩ := hs.slot hb
        have hvb : v = .bool b := VR.CR hvr (by simp)
        subst hvb
        have hgd := guard_bool (o := o) (a := a) (ops := ops) hd hg hv
        have tell : SX g ρ F (s.put (some d) (.one (.bool b))) a w := hs.tell d _ fun u hu => by rw [hv] at hu; cases hu; exact rfl
        cases want <;> cases b <;> simp only [cond_true, cond_false] at h
        · exact exec h ⟨ρ, F, tell⟩ (by rw [hgd]; rfl)
        · exact skip h ⟨ρ, F, tell⟩ (by rw [hgd]; rfl)
        · exact skip h ⟨ρ, F, tell⟩ (by rw [hgd]; rfl)
        · exact exec h ⟨ρ, F, tell⟩ (by rw [hgd]; rfl)
      · rename_i hb
        obtain ⟨ρ, F, hs⟩ := hs
        obtain ⟨v, hv, hvr⟩ := hs.slot hb
        obtain ⟨vs, rfl, _⟩ := hvr
        exact skip h ⟨ρ, F, hs⟩ (guard_undef hd hg hv)
      · cases h

omit hG in
/-- operations that only read -/
theorem absOp_quiet (hq : quietOp o = true) (hs : SX g ρ F s a w) (h : absOp tt Γ s o κ = some r) : QG P w ρ F s κ r o a := by
  cases ho : o.op with
  | move x =>
    simp only [absOp, ho] at h
    exact qg (fun w' _ => by simp [execOp, ho]) (hs.ev x) h
  | assign x =>
    simp only [absOp, ho] at h
    exact qg (fun w' _ => by simp [execOp, ho]) (hs.ev x) h
  | pick c x y =>
    simp only [absOp, ho] at h
    have hc := hs.ev c
    have hx := hs.ev x
    have hy := hs.ev y
    split at h <;> try cases h
    rename_i z e
    rw [e] at hc
    have hcv : a.eval c = .bool z := VR.CR hc (by simp)
    split at h
    · rename_i p q e1 e2
      rw [e1] at hx
      rw [e2] at hy
      have hxv : a.eval x = .bool p := VR.CR hx (by simp)
      have hyv : a.eval y = .bool q := VR.CR hy (by simp)
      refine qg (v := .bool (bif z then p else q)) (fun w' _ => ?_) (VR.of_CR (c := .bool _) rfl) h
      cases z <;> simp [execOp, ho, hcv, hxv, hyv, asBool]
    · cases z with
      | true => exact qg (v := a.eval x) (fun w' _ => by simp [execOp, ho, hcv, asBool]) hx (by simpa using h)
      | false => exact qg (v := a.eval y) (fun w' _ => by simp [execOp, ho, hcv, asBool]) hy (by simpa using h)
  | load T x => exact ok_load hP ho hs h
  | build T parts => exact ok_build hP ho hs h
  | nilCheck x => exact ok_nilCheck ho hs h
  | binOp op T x y U => exact ok_binOp hP ho hs h
  | unOp op T x => exact ok_unOp ho hs h
  | convert T U x => exact ok_convert hP ho hs h
  | slice T x lo hi mx => exact ok_slice hP ho (by unfold quietOp at hq; rw [ho] at hq; exact hq) hs h
  | fieldAddr T x f => exact ok_fieldAddr hP ho hs h
  | field T x f => exact ok_field hP ho hs h
  | indexAddr T x y => exact ok_indexAddr hP ho hs h
  | index T x y => exact ok_index hP ho hs h
  | extract x i => exact ok_extract ho hs h
  | call c =>
    cases hc : c.callee with
    | value f => unfold quietOp at hq; rw [ho] at hq; cases c; simp_all
    | invoke x m => simp only [absOp, ho, hc] at h; cases h
    | builtin b =>
      simp only [absOp, ho, hc] at h
      split at h
      · rename_i x T e1 e2
        exact ok_len hP ho hc e1 e2 hs h
      · unfold quietOp at hq; rw [ho] at hq; cases c; simp_all
      · unfold quietOp at hq; rw [ho] at hq; cases c; simp_all
      · split at h <;> try cases h
        rename_i c' hm
        exact ok_minmax (mx := false) ho hc hs hm h
      · split at h <;> try cases h
        rename_i c' hm
        exact ok_minmax (mx := true) ho hc hs hm h
      · cases h
  | _ => unfold quietOp at hq; rw [ho] at hq; cases hq

omit hP hG in
/-- does operation i keep what there was? -/
def Keeps (ops : Array Oper) (i : Nat) : Prop := ∃ o, ops[i]? = some o ∧ (quietOp o = true ∨ growOp o = true)

/-- any order from here on; what keeps what there was is seen to do so, and what a store changes -/
def wpC (P : Program) (ops : Array Oper) (Q : Exit → Act → World → Prop) : Nat → Array Bool → Act → World → Prop
  | 0, listed, a, w => Region.ready .any ops listed = [] ∧ Q .normal a w
  | n + 1, listed, a, w => (Region.ready .any ops listed = [] → Q .normal a w) ∧
      ∀ i ∈ Region.ready .any ops listed, wpOp P ops Q i (fun a' w' => ((Keeps ops i → Ext w w') ∧ ∀ o, ops[i]? = some o → Region.wanted o (yielded ops a.tmps) = true → St1 o a w w') ∧ (∀ o, ops[i]? = some o → Region.wanted o (yielded ops a.tmps) = false → w' = w) ∧ wpC P ops Q n (listed.setIfInBounds i true) a' w') a w
omit hP hG in
theorem wpAny_of_wpC {ops : Array Oper} {Q : Exit → Act → World → Prop} : ∀ (n : Nat) (listed : Array Bool) (a : Act) (w : World), wpC P ops Q n listed a w → wpAny P .any ops Q n listed a w
  | 0, _, _, _, h => h
  | n + 1, _, _, _, h => ⟨h.1, fun i hi => wpOp_mono (fun a' w' hh => wpAny_of_wpC n _ a' w' hh.2.2) (h.2 i hi)⟩

/-- an operation's value, whatever is laid beside; it looks at the blocks of B alone -/
def Still (P : Program) (ops : Array Oper) (o : Oper) (v : Value) (B : Nat → Prop) (a : Act) (w : World) : Prop :=
  (Region.wanted o (yielded ops a.tmps) = true ∧ ∀ w' : World, (∀ b, B b → w'.heap[b]? = w.heap[b]?) → (execOp a.eval o).run P w' = .ok (.value v) w') ∨ (Region.wanted o (yielded ops a.tmps) = false ∧ v = undef)
omit hP hG in
theorem Still.wpOp {ops : Array Oper} {Q : Exit → Act → World → Prop} {i : Nat} {v : Value} {B : Nat → Prop} {K : Act → World → Prop} (hi : ops[i]? = some o) (hy : Still P ops o v B a w) (h : K (a.put o.dst v) w) : Go.wpOp P ops Q i K a w := by
  unfold Go.wpOp
  simp only [hi]
  rcases hy with ⟨hw, hv⟩ | ⟨hw, rfl⟩
  · simp only [hw, if_true, Oper.wp, hv w (fun _ _ => rfl), Oper.upon]
    exact .inl h
  · simp only [hw, Bool.false_eq_true, if_false]
    exact h
omit hP hG in
theorem Still.later {ops : Array Oper} {v : Value} {B : Nat → Prop} {a' : Act} {w' : World} (hy : Still P ops o v B a w) (he : execOp a'.eval o = execOp a.eval o) (hw : Region.wanted o (yielded ops a'.tmps) = Region.wanted o (yielded ops a.tmps)) (hx : ∀ b, B b → w'.heap[b]? = w.heap[b]?) : Still P ops o v B a' w' := by
  unfold Still at *
  rw [he, hw]
  rcases hy with ⟨h1, h2⟩ | h
  · exact .inl ⟨h1, fun w'' h => h2 w'' fun b hb => (h b hb).trans (hx b hb)⟩
  · exact .inr h
omit hP hG in
theorem wpOp_move {ops : Array Oper} {Q : Exit → Act → World → Prop} {j : Nat} {oi oj : Oper} {v : Value} {B : Nat → Prop} (hj : ops[j]? = some oj) (hap : oi.apart ops oj = true) (hsi : ∀ cs b, oi.op ≠ .select cs b) (hsj : ∀ cs b, oj.op ≠ .select cs b)
    (hQ : ∀ c a w, ¬ Q (.panic c) a w) {K : Act → World → Prop} (hy : Still P ops oi v B a w) (h : wpOp P ops Q j K (a.put oi.dst v) w) :
    wpOp P ops Q j (fun a' w' => ((∀ w' : World, (∀ b, B b → w'.heap[b]? = w.heap[b]?) → Still P ops oi v B a' w') ∧ ∀ d, oj.dst ≠ some d → a'.tmps[d]? = a.tmps[d]?) ∧ K (a'.put oi.dst v) w') a w := by
  obtain ⟨h1, h2, h3⟩ := Oper.apart_spec hap
  have slot : ∀ (a : Act) (u : Value) (d : Nat), oj.dst ≠ some d → (a.put oj.dst u).tmps[d]? = a.tmps[d]? := by
    intro a u d hd
    cases hdst : oj.dst with
    | none => rfl
    | some e =>
      have : e ≠ d := fun q => hd (by rw [hdst, q])
      show (a.tmps.setIfInBounds e u)[d]? = _
      rw [Array.getElem?_setIfInBounds_ne this]
  have keep : ∀ u, (∀ w' : World, (∀ b, B b → w'.heap[b]? = w.heap[b]?) → Still P ops oi v B (a.put oj.dst u) w') ∧ ∀ d, oj.dst ≠ some d → (a.put oj.dst u).tmps[d]? = a.tmps[d]? := fun u =>
    ⟨fun w' hx => hy.later (execOp_put oi hsi a oj.dst u h3) (wanted_put oi a oj.dst u h3) hx, slot a u⟩
  have keepD : ∀ d u, (∀ w' : World, (∀ b, B b → w'.heap[b]? = w.heap[b]?) → Still P ops oi v B (({ a with defers := d :: a.defers } : Act).put oj.dst u) w') ∧ ∀ e, oj.dst ≠ some e → (({ a with defers := d :: a.defers } : Act).put oj.dst u).tmps[e]? = a.tmps[e]? := fun d u =>
    ⟨fun w' hx => hy.later (execOp_put oi hsi ({ a with defers := d :: a.defers } : Act) oj.dst u h3) (wanted_put oi ({ a with defers := d :: a.defers } : Act) oj.dst u h3) hx, slot _ u⟩
  unfold wpOp at *
  simp only [hj] at *
  rw [wanted_put oj a oi.dst v h1] at h
  split
  · rename_i hw
    simp only [hw, if_true] at h
    rcases h with h | ⟨hasks, hlets⟩
    · refine .inl ?_
      unfold Oper.wp at *
      rw [execOp_put oj hsj a oi.dst v h1] at h
      cases hr : (execOp a.eval oj).run P w with
      | ok n w' =>
        rw [hr] at h
        cases n <;> simp only [Oper.upon] at h ⊢
        case value u => exact ⟨keep u, by rw [← Act.put_comm a v u h2]; exact h⟩
        case skip => exact ⟨keep undef, by rw [← Act.put_comm a v undef h2]; exact h⟩
        case defer d =>
          refine ⟨keepD d undef, ?_⟩
          rw [← Act.put_comm _ v undef h2, ← Act.put_defers]
          exact h
        case enter f args =>
          refine Calls.mono h fun e w'' he => ?_
          cases e with
          | returned u => exact ⟨keep u, by rw [← Act.put_comm a v u h2]; exact he⟩
          | panicked c => exact absurd he (hQ _ _ _)
          | outgrown => exact he
        case row row args => exact Rows.mono h fun u w'' he => ⟨keep u, by rw [← Act.put_comm a v u h2]; exact he⟩
      | halt x w' =>
        rw [hr] at h
        cases x <;> simp only [Oper.upon] at h ⊢
        case panic u => exact absurd h (hQ _ _ _)
    · refine .inr ⟨?_, hlets⟩
      unfold Oper.asks at *
      rw [execOp_put oj hsj a oi.dst v h1] at hasks
      exact hasks
  · rename_i hw
    simp only [hw] at h
    exact ⟨keep undef, by rw [← Act.put_comm a v undef h2]; exact h⟩

omit hP hG in
/-- what is left leaves the blocks of B as they are -/
def Spares (ops : Array Oper) (B : Nat → Prop) (listed : Array Bool) (a : Act) (oj : Oper) : Prop :=
  (∀ b, ¬ B b) ∨ (quietOp oj = true ∨ growOp oj = true) ∨ ∃ T d y ad, oj.op = .store T (.tmp d) y ∧ a.tmps[d]? = some (.pointer (some ad)) ∧ ¬ B ad.block ∧ ∀ (k : Nat) (ok : Oper), ops[k]? = some ok → listed.getD k true = false → ok.dst ≠ some d

omit hP hG in
/-- what may come first and minds nothing that is left is taken first -/
theorem wpC_first {ops : Array Oper} {Q : Exit → Act → World → Prop} {i : Nat} {oi : Oper} {v : Value} {B : Nat → Prop} (hi : ops[i]? = some oi) (hsel : ∀ (j : Nat) (o : Oper) cs b, ops[j]? = some o → o.op ≠ .select cs b) (hQ : ∀ c a w, ¬ Q (.panic c) a w) (hio : ∀ T x y, oi.op ≠ .store T x y)
    {desc : Nat → Bool} (hcl : ∀ j oj, ops[j]? = some oj → desc j = true → ∃ e ∈ oj.after, Region.binds .any e = true ∧ (e.on = i ∨ desc e.on = true)) :
    ∀ (n : Nat) (listed : Array Bool) (a : Act) (w : World), (∀ b, B b → b < w.heap.size) → (∀ j, desc j = true → listed.getD j true = false) →
      (∀ j oj, ops[j]? = some oj → j ≠ i → listed.getD j true = false → desc j = false → oi.apart ops oj = true ∧ Spares ops B listed a oj) →
      i ∈ Region.ready .any ops listed → Still P ops oi v B a w → wpC P ops Q n (listed.setIfInBounds i true) (a.put oi.dst v) w → wpC P ops Q (n + 1) listed a w := by
  intro n
  have self : ∀ (a : Act) (w : World), ((Keeps ops i → Ext w w) ∧ ∀ o, ops[i]? = some o → Region.wanted o (yielded ops a.tmps) = true → St1 o a w w) ∧ (∀ o, ops[i]? = some o → Region.wanted o (yielded ops a.tmps) = false → w = w) := by
    intro a w
    refine ⟨⟨fun _ => Ext.refl w, fun o ho _ T x y e => ?_⟩, fun _ _ _ => rfl⟩
    rw [hi] at ho
    cases ho
    exact absurd e (hio T x y)
  induction n with
  | zero =>
    intro listed a w _ _ _ hr hy H
    refine ⟨fun h => (by rw [h] at hr; cases hr), fun j hj => ?_⟩
    by_cases hji : j = i
    · subst hji
      exact hy.wpOp hi ⟨(self a w).1, (self a w).2, H⟩
    · have := ready_mono hj hji
      rw [H.1] at this
      cases this
  | succ n ih =>
    intro listed a w hBlt hun hfree hr hy H
    refine ⟨fun h => (by rw [h] at hr; cases hr), fun j hj => ?_⟩
    by_cases hji : j = i
    · subst hji
      exact hy.wpOp hi ⟨(self a w).1, (self a w).2, H⟩
    · have h1 := H.2 j (ready_mono hj hji)
      obtain ⟨hjun, oj, hoj, hall⟩ := mem_ready.1 hj
      have hlisted : listed.getD i true = false := (mem_ready.1 hr).1
      have hno : ∀ k, listed.getD k true = false → listed.getD k false = true → False := by
        intro k h1 h2
        rw [Array.getD_eq_getD_getElem?] at h1 h2
        cases hq : listed[k]? with
        | none => rw [hq] at h1; simp at h1
        | some b => rw [hq] at h1 h2; simp at h1 h2; rw [h2] at h1; cases h1
      have hnd : desc j = false := by
        cases hd : desc j with
        | false => rfl
        | true =>
          exfalso
          obtain ⟨e, he, hb, hk⟩ := hcl j oj hoj hd
          have h2 := hall e he hb
          rcases hk with hk | hk
          · rw [hk] at h2
            exact hno i hlisted h2
          · exact hno e.on (hun _ hk) h2
      obtain ⟨hap, hkind⟩ := hfree j oj hoj hji hjun hnd
      obtain ⟨ap1, ap2, ap3⟩ := Oper.apart_spec hap
      have h2 := wpOp_move hoj hap (fun cs b => hsel i oi cs b hi) (fun cs b => hsel j oj cs b hoj) hQ hy h1
      have hun' : ∀ k, desc k = true → (listed.setIfInBounds j true).getD k true = false := by
        intro k hk
        have hjk : j ≠ k := fun e => by subst e; rw [hnd] at hk; cases hk
        rw [getD_set_ne true hjk]
        exact hun k hk
      have hunl : ∀ k, k ≠ j → (listed.setIfInBounds j true).getD k true = false → listed.getD k true = false := by
        intro k hkj h
        rw [getD_set_ne true (fun e => hkj e.symm)] at h
        exact h
      have hnj : ∀ k, (listed.setIfInBounds j true).getD k true = false → k ≠ j := by
        intro k h e
        subst e
        rw [Array.getD_eq_getD_getElem?] at h
        by_cases hlt : k < listed.size
        · simp [Array.getElem?_setIfInBounds_self_of_lt hlt] at h
        · rw [Array.getElem?_eq_none (by simp only [Array.size_setIfInBounds]; omega)] at h; simp at h
      refine wpOp_mono (fun a' w' h3 => ?_) h2
      obtain ⟨⟨h4, hslot⟩, ⟨h5, h5s⟩, h5n, h6⟩ := h3
      have hsz : w.heap.size ≤ w'.heap.size ∨ ∀ b, ¬ B b := by
        cases hw : Region.wanted oj (yielded ops (a.put oi.dst v).tmps) with
        | false => rw [h5n oj hoj hw]; exact .inl (Nat.le_refl _)
        | true =>
          rcases hkind with hk | hk | ⟨T, d, y, ad, k1, _⟩
          · exact .inr hk
          · exact .inl (h5 ⟨oj, hoj, hk⟩).1
          · obtain ⟨ad', _, q, _⟩ := h5s oj hoj hw T (.tmp d) y k1
            exact .inl q
      have hB : ∀ b, B b → w'.heap[b]? = w.heap[b]? := by
        intro b hb
        cases hw : Region.wanted oj (yielded ops (a.put oi.dst v).tmps) with
        | false => rw [h5n oj hoj hw]
        | true =>
          rcases hkind with hk | hk | ⟨T, d, y, ad, k1, k2, k3, _⟩
          · exact absurd hb (hk b)
          · exact (h5 ⟨oj, hoj, hk⟩).2 b (hBlt b hb)
          · obtain ⟨ad', q1, _, q2⟩ := h5s oj hoj hw T (.tmp d) y k1
            have hne : oi.dst ≠ some d := fun e => ap1 d e (by
              unfold Oper.looksAt
              refine List.mem_append_left _ (List.mem_filterMap.2 ⟨.tmp d, ?_, rfl⟩)
              rw [k1]
              simp [Op.operands])
            have hev : (a.put oi.dst v).eval (.tmp d) = .pointer (some ad) := by
              rw [Act.eval_put (fun e he hx => hne (by cases hx; exact he))]
              simp [Act.eval, k2]
            rw [hev] at q1
            cases q1
            exact q2 b (fun e => k3 (e ▸ hb))
      refine ⟨⟨h5, fun o ho hw => ?_⟩, fun o ho hw => ?_, ih (listed.setIfInBounds j true) a' w' ?_ hun' ?_ (ready_mono hr (Ne.symm hji)) (h4 w' hB) ?_⟩
      · rw [hoj] at ho
        cases ho
        intro T x y e
        obtain ⟨ad, q1, q2⟩ := h5s oj hoj (by rw [wanted_put oj a oi.dst v ap1]; exact hw) T x y e
        refine ⟨ad, ?_, q2⟩
        rw [← q1, Act.eval_put]
        intro d hd hx
        refine ap1 d hd ?_
        unfold Oper.looksAt
        refine List.mem_append_left _ (List.mem_filterMap.2 ⟨.tmp d, ?_, rfl⟩)
        rw [e, hx]
        simp [Op.operands]
      · rw [hoj] at ho
        cases ho
        exact h5n oj hoj (by rw [wanted_put oj a oi.dst v ap1]; exact hw)
      · intro b hb
        rcases hsz with q | q
        · exact Nat.lt_of_lt_of_le (hBlt b hb) q
        · exact absurd hb (q b)
      · intro k ok hk hki hunk hnk
        have hkj := hnj k hunk
        obtain ⟨q1, q2⟩ := hfree k ok hk hki (hunl k hkj hunk) hnk
        refine ⟨q1, ?_⟩
        rcases q2 with q2 | q2 | ⟨T, d, y, ad, k1, k2, k3, k4⟩
        · exact .inl q2
        · exact .inr (.inl q2)
        · exact .inr (.inr ⟨T, d, y, ad, k1, by rw [hslot d (k4 j oj hoj hjun)]; exact k2, k3, fun m om hm hmu => k4 m om hm (hunl m (hnj m hmu) hmu)⟩)
      · rw [Array.setIfInBounds_comm _ _ hji]
        exact h6

omit hP hG in
theorem descs_mono {ops : Array Oper} {i : Nat} : ∀ (n j : Nat), descs ops n i j = true → descs ops (n + 1) i j = true
  | 0, j, h => by simp [descs] at h
  | n + 1, j, h => by
    unfold descs at h ⊢
    split at h
    · obtain ⟨e, he, hb⟩ := Array.any_eq_true'.1 h
      refine Array.any_eq_true'.2 ⟨e, he, ?_⟩
      simp only [Bool.and_eq_true, Bool.or_eq_true] at hb ⊢
      exact ⟨hb.1, hb.2.imp id (descs_mono n e.on)⟩
    · cases h
omit hP hG in
theorem descs_cl {ops : Array Oper} {i : Nat} (n : Nat) : ∀ j oj, ops[j]? = some oj → descs ops n i j = true → ∃ e ∈ oj.after, Region.binds .any e = true ∧ (e.on = i ∨ descs ops n i e.on = true) := by
  intro j oj hj h
  cases n with
  | zero => simp [descs] at h
  | succ n =>
    have h0 := h
    unfold descs at h
    rw [hj] at h
    obtain ⟨e, he, hb⟩ := Array.any_eq_true'.1 h
    simp only [Bool.and_eq_true, Bool.or_eq_true, beq_iff_eq] at hb
    exact ⟨e, he, hb.1, hb.2.imp id (descs_mono n e.on)⟩
omit hP hG in
theorem isLive_spec {m : List AO} {n : Nat} (h : isLive m n = true) : live m n := by
  unfold isLive at h
  split at h
  · cases h
  · rename_i o hne hn
    exact ⟨_, hn, fun e => hne e⟩
  · cases h
omit hP hG in
theorem okFirst_spec {ops : Array Oper} {listed : Array Bool} {i : Nat} {oi : Oper} (hs : SX g ρ F s a w) (hi : ops[i]? = some oi) (h : okFirst s ops listed i = true) {B : Nat → Prop} (hBf : freeOp oi = true → ∀ b, ¬ B b) (hBl : ∀ b, B b → ∃ T x ad, oi.op = .load T x ∧ a.eval x = .pointer (some ad) ∧ b = ad.block) :
    (∀ j, descs ops ops.size i j = true → listed.getD j true = false) ∧
    ∀ (j : Nat) (oj : Oper), ops[j]? = some oj → j ≠ i → listed.getD j true = false → descs ops ops.size i j = false → oi.apart ops oj = true ∧ Spares ops B listed a oj := by
  unfold okFirst at h
  simp only [hi, List.all_eq_true, List.mem_range] at h
  refine ⟨fun j hd => ?_, fun j oj hj hne hun hd => ?_⟩
  · have hlt : j < ops.size := by
      by_cases hlt : j < ops.size
      · exact hlt
      · exfalso
        have hn : ops[j]? = none := by simp; omega
        cases hs : ops.size with
        | zero => rw [hs] at hd; simp [descs] at hd
        | succ n => rw [hs] at hd; simp only [descs, hn] at hd; cases hd
    have h1 := h j hlt
    rw [hd] at h1
    simpa using h1
  · have h1 := h j (Array.getElem?_eq_some_iff.1 hj).1
    rw [hd] at h1
    simp only [cond_false, hj, Bool.or_eq_true, beq_iff_eq, hne, false_or, hun, Bool.false_eq_true, Bool.and_eq_true] at h1
    refine ⟨h1.1, ?_⟩
    rcases h1.2 with (h2 | h2) | h2
    · exact .inl (hBf h2)
    · exact .inr (.inl h2)
    · unfold okStore at h2
      split at h2
      case h_2 => cases h2
      rename_i T q T' p y e1 e2
      simp only [Bool.and_eq_true] at h2
      obtain ⟨h3, h4⟩ := h2
      split at h4
      case h_2 => cases h4
      rename_i c d hq hp
      obtain ⟨vq, hvq, hrq⟩ := hs.slot hq
      obtain ⟨vp, hvp, hrp⟩ := hs.slot hp
      have hdst : ∀ (k : Nat) (ok : Oper), ops[k]? = some ok → listed.getD k true = false → ok.dst ≠ some p := by
        intro k ok hk hku
        have := List.all_eq_true.1 h3 k (List.mem_range.2 (Array.getElem?_eq_some_iff.1 hk).1)
        rw [hku, hk] at this
        simpa using this
      have hBq : ∀ b, B b → ∃ ad, vq = .pointer (some ad) ∧ b = ad.block := by
        intro b hb
        obtain ⟨T2, x2, ad, g1, g2, g3⟩ := hBl b hb
        rw [e1] at g1
        cases g1
        refine ⟨ad, ?_, g3⟩
        simpa [Act.eval, hvq] using g2
      have fin : ∀ (k bk off : Nat), live s.mem k → blk (ρ k) = some bk → vp = .pointer (some ⟨bk, off, none⟩) → okPl s.mem k c = true → Spares ops B listed a oj := by
        intro k bk off hlk hbk hvpe hc
        refine .inr (.inr ⟨T', p, y, ⟨bk, off, none⟩, e2, by rw [hvp, hvpe], fun hb => ?_, hdst⟩)
        obtain ⟨ad, g1, g2⟩ := hBq _ hb
        have g2 : bk = ad.block := g2
        have two : ∀ n b0 off0, live s.mem n → n ≠ k → blk (ρ n) = some b0 → vq = .pointer (some ⟨b0, off0, none⟩) → False := by
          intro n b0 off0 hln hnk hbn hvqe
          rw [hvqe] at g1
          cases g1
          exact hnk (hs.mr.inj n k bk hln hlk (by rw [hbn, g2]) hbk)
        cases c with
        | ptr n off0 =>
          simp only [okPl, Bool.and_eq_true, Bool.not_eq_true'] at hc
          obtain ⟨_, b0, r1, r2⟩ := VR.CR hrq (by simp)
          exact two n b0 off0 (isLive_spec hc.1) (fun e => by rw [e, Nat.beq_refl] at hc; cases hc.2) (by rw [r1]; rfl) r2
        | ep n i0 z0 off0 =>
          simp only [okPl, Bool.and_eq_true, Bool.not_eq_true'] at hc
          obtain ⟨_, g0, l0, c0, r1, _, r2⟩ := VR.CR hrq (by simp)
          exact two n g0 _ (isLive_spec hc.1) (fun e => by rw [e, Nat.beq_refl] at hc; cases hc.2) (by rw [r1]; rfl) r2
        | fp t0 x0 off0 =>
          obtain ⟨ad0, vs0, r1, r2, _⟩ := VR.CR hrq (by simp)
          rw [r1] at g1
          cases g1
          refine hs.mr.sep k bk hlk hbk ?_
          rw [g2]
          simpa using r2
        | _ => simp [okPl] at hc
      cases d with
      | ptr k off =>
        simp only [Bool.and_eq_true] at h4
        obtain ⟨_, bk, r1, r2⟩ := VR.CR hrp (by simp)
        exact fin k bk off (isLive_spec h4.1) (by rw [r1]; rfl) r2 h4.2
      | ep k i0 z0 off =>
        simp only [Bool.and_eq_true] at h4
        obtain ⟨_, g0, l0, c0, r1, _, r2⟩ := VR.CR hrp (by simp)
        exact fin k g0 _ (isLive_spec h4.1) (by rw [r1]; rfl) r2 h4.2
      | _ => simp at h4

omit hP hG in
/-- one operation, by its guard -/
theorem absOps_one {ops : Array Oper} (h : absOps tt Γ ops [o] s κ = some r) (hs : SX g ρ F s a w) :
    (∃ s0, SX g ρ F s0 a w ∧ absOp tt Γ s0 o κ = some r ∧ Region.wanted o (yielded ops a.tmps) = true) ∨ (∃ s0, SX g ρ F s0 a w ∧ κ (s0.put o.dst (.tup [])) = some r ∧ Region.wanted o (yielded ops a.tmps) = false) := by
  unfold absOps at h
  split at h
  · rename_i hg
    exact .inl ⟨s, hs, h, by unfold Region.wanted; rw [hg]⟩
  · rename_i j want hg
    split at h <;> try cases h
    rename_i d hd
    split at h
    · rename_i b hb
      obtain ⟨v, hv, hvr⟩ := hs.slot hb
      have hvb : v = .bool b := VR.CR hvr (by simp)
      subst hvb
      have hgd := guard_bool (o := o) (a := a) (ops := ops) hd hg hv
      have tell : SX g ρ F (s.put (some d) (.one (.bool b))) a w := hs.tell d _ fun u hu => by rw [hv] at hu; cases hu; exact rfl
      cases want <;> cases b <;> simp only [cond_true, cond_false] at h
      · exact .inl ⟨_, tell, h, by rw [hgd]; rfl⟩
      · exact .inr ⟨_, tell, h, by rw [hgd]; rfl⟩
      · exact .inr ⟨_, tell, h, by rw [hgd]; rfl⟩
      · exact .inl ⟨_, tell, h, by rw [hgd]; rfl⟩
    · rename_i hb
      obtain ⟨v, hv, hvr⟩ := hs.slot hb
      obtain ⟨vs, rfl, _⟩ := hvr
      exact .inr ⟨s, hs, h, guard_undef hd hg hv⟩
    · cases h

omit hG in
theorem absOpsD_ok (hG : GamFOk P True Γ) {ops : Array Oper} {Q : Exit → Act → World → Prop} (hsel : ∀ (j : Nat) (o : Oper) cs b, ops[j]? = some o → o.op ≠ .select cs b) (hQp : ∀ c a w, ¬ Q (.panic c) a w) :
    ∀ (n : Nat) (listed : Array Bool) {s : St} {a : Act} {w : World}, absD tt Γ ops n listed s κ = some r → SR g s a w → (∀ s' a' w', κ s' = some r → SR g s' a' w' → Q .normal a' w') → wpC P ops Q n listed a w
  | 0, listed, s, a, w, h, hs, hQ => by
    unfold absD at h
    split at h <;> try cases h
    rename_i he
    exact ⟨by simpa using he, hQ _ _ _ h hs⟩
  | n + 1, listed, s, a, w, h, hs, hQ => by
    unfold absD at h
    split at h
    · -- a quiet operation
      rename_i i hf
      split at h <;> try cases h
      rename_i o hoi
      have hi : i ∈ Region.ready .any ops listed := List.mem_of_find?_eq_some hf
      have hqf : quietOp o = true ∧ okFirst s ops listed i = true := by
        have := List.find?_some hf
        simpa [hoi] using this
      obtain ⟨hq, hfirst⟩ := hqf
      have hio : ∀ T x y, o.op ≠ .store T x y := fun T x y e => by unfold quietOp at hq; rw [e] at hq; cases hq
      obtain ⟨ρ, F, hs⟩ := hs
      rcases absOps_one h hs with ⟨s0, hs0, h, hw⟩ | ⟨s0, hs0, h, hw⟩
      · obtain ⟨x, v, h1, h2, h3⟩ := absOp_quiet hP hq hs0 h
        let B : Nat → Prop := fun b => freeOp o = false ∧ ∃ T x ad, o.op = .load T x ∧ a.eval x = .pointer (some ad) ∧ b = ad.block ∧ b < w.heap.size
        have hBl : ∀ b, B b → ∃ T x ad, o.op = .load T x ∧ a.eval x = .pointer (some ad) ∧ b = ad.block := fun b ⟨_, T, x, ad, k1, k2, k3, _⟩ => ⟨T, x, ad, k1, k2, k3⟩
        obtain ⟨f1, f2⟩ := okFirst_spec hs hoi hfirst (B := B) (fun hf b hb => by have := hb.1; rw [hf] at this; cases this) hBl
        refine wpC_first hoi hsel hQp hio (descs_cl ops.size) n listed a w (fun b ⟨_, _, _, _, _, _, _, k4⟩ => k4) f1 f2 hi (.inl ⟨hw, fun w' hB => ?_⟩) (absOpsD_ok hG hsel hQp n _ h1 ⟨ρ, F, hs0.put o.dst h2⟩ hQ)
        refine h3 w' ?_
        cases hfr : freeOp o with
        | true => exact .inl rfl
        | false => exact .inr fun T x ad e1 e2 hlt => hB _ ⟨hfr, T, x, ad, e1, e2, rfl, hlt⟩
      · obtain ⟨f1, f2⟩ := okFirst_spec hs hoi hfirst (B := fun _ => False) (fun hf b hb => hb) (fun b hb => hb.elim)
        exact wpC_first hoi hsel hQp hio (descs_cl ops.size) n listed a w (fun b hb => hb.elim) f1 f2 hi (.inr ⟨hw, rfl⟩) (absOpsD_ok hG hsel hQp n _ h ⟨ρ, F, hs0.put o.dst VR_undef⟩ hQ)
    · -- another one, alone
      split at h <;> try cases h
      rename_i i hready
      split at h <;> try cases h
      rename_i o hoi
      have hi : i ∈ Region.ready .any ops listed := by rw [hready]; simp
      refine ⟨fun h0 => (by rw [hready] at h0; cases h0), fun j hj => ?_⟩
      have hji : j = i := by rw [hready] at hj; simpa using hj
      subst hji
      have keeps : Keeps ops j → quietOp o = true ∨ growOp o = true := by
        rintro ⟨o', h1, h2⟩
        rw [hoi] at h1
        cases h1
        exact h2
      obtain ⟨ρ, F, hs⟩ := hs
      rcases absOps_one h hs with ⟨s0, hs0, h, hw⟩ | ⟨s0, hs0, h, hw⟩
      · have hnw : ∀ o', ops[j]? = some o' → Region.wanted o' (yielded ops a.tmps) = false → ∀ w' : World, w' = w := by
          intro o' ho' hw' w'
          rw [hoi] at ho'
          cases ho'
          rw [hw] at hw'
          cases hw'
        unfold wpOp
        simp only [hoi, hw, if_true]
        have hnw' : ∀ o', some o = some o' → Region.wanted o' (yielded ops a.tmps) = false → ∀ w' : World, w' = w := fun o' ho' => hnw o' (hoi.trans ho')
        refine .inl ?_
        by_cases hqo : quietOp o = true
        · obtain ⟨x, v, h1, h2, h3⟩ := absOp_quiet hP hqo hs0 h
          unfold Oper.wp
          rw [h3 w (.inr (Rd.refl o a w))]
          exact ⟨⟨fun _ => Ext.refl w, fun o' ho' _ T x y e => by cases ho'; unfold quietOp at hqo; rw [e] at hqo; cases hqo⟩, fun o' ho' hw' => rfl, absOpsD_ok hG hsel hQp n _ h1 ⟨ρ, F, hs0.put o.dst h2⟩ hQ⟩
        by_cases hcall : growOp o = true ∧ ∃ c, o.op = .call c
        · obtain ⟨hgr, c, hc⟩ := hcall
          obtain ⟨f, hcf⟩ : ∃ f, c.callee = .value f := by
            unfold growOp at hgr
            rw [hc] at hgr
            cases hcc : c.callee with
            | value f => exact ⟨f, rfl⟩
            | _ => cases c; simp_all
          obtain ⟨fi, hfi⟩ : ∃ fi, s0.ev f = .one (.fn fi) := by
            have h' := h
            simp only [absOp, hc, hcf] at h'
            split at h'
            · rename_i fi e; exact ⟨fi, e⟩
            · cases h'
          exact ok_callE hG hc hcf hfi hs0 h _ _ fun s' a' w' h1 h2 h3 => ⟨⟨fun _ => h3 trivial, fun o' ho' _ T x y e => by cases ho'; rw [hc] at e; cases e⟩, fun o' ho' hw' => hnw' o' ho' hw' w', absOpsD_ok hG hsel hQp n _ h1 h2 hQ⟩
        · exact absOp_ok hP hG ⟨ρ, F, hs0⟩ h _ _ fun s' a' w' h1 h2 h3 h4 => ⟨⟨fun hk => h3 ((keeps hk).resolve_left hqo) (fun c hc => hcall ⟨(keeps hk).resolve_left hqo, c, hc⟩), fun o' ho' _ => by cases ho'; exact h4⟩, fun o' ho' hw' => hnw' o' ho' hw' w', absOpsD_ok hG hsel hQp n _ h1 h2 hQ⟩
      · unfold wpOp
        simp only [hoi, hw, Bool.false_eq_true, if_false]
        exact ⟨⟨fun _ => Ext.refl w, fun o' ho' hw' => by cases ho'; rw [hw] at hw'; cases hw'⟩, fun _ _ _ => trivial, absOpsD_ok hG hsel hQp n _ h ⟨ρ, F, hs0.put o.dst VR_undef⟩ hQ⟩

omit hP hG in
/-- only the count of draws has turned -/
theorem SX.drewN (hs : SX g ρ F s a w) (n : Nat) : SX g ρ F s a (w.drewN n) := by
  have hh : (w.drewN n).heap = w.heap := rfl
  have hm : Mv w (w.drewN n) F F := ⟨fun _ h => h, fun _ _ => by rw [hh]⟩
  refine ⟨hs.tr.mono hm (fun _ _ _ _ _ _ _ => rfl) (Nat.le_refl _), ⟨fun n o ho => (hs.mr.obj n o ho).mono hm (fun _ _ _ _ _ _ _ _ => rfl) (Nat.le_refl _) (fun _ _ => by rw [hh]), hs.mr.inj, hs.mr.sep, hs.mr.lt⟩, ⟨hs.gl.os, hs.gl.tape, hs.gl.output, hs.gl.size, hs.gl.keep, hs.gl.own, hs.gl.fro, hs.gl.froB, hs.gl.len, hs.gl.rho⟩, hs.defers⟩

omit hG in
theorem region_ok {Γ : Gam} (hGc : GamFOk P False Γ.c) (hGd : GamFOk P True Γ.d) (hmix : P.follows .mixedOrders = true) {id : Nat} {ops : Array Oper} {draw : Bool} {Q : Exit → Act → World → Prop} (hs : SR g s a w)
    (h : (match draw with
      | false => absOps tt Γ.c ops ops.toList s κ
      | true => bif Region.noSelect ops then absD tt Γ.d ops ops.size (Array.replicate ops.size false) s κ else none) = some r)
    (hQ : ∀ s' a' w', κ s' = some r → SR g s' a' w' → Q .normal a' w') (hQp : ∀ c a w, ¬ Q (.panic c) a w) : (Code.region id ops draw).wp P Q a w := by
  cases draw with
  | false => exact wp_region_list (absOps_ok hP hGc ops.toList h hs hQ)
  | true =>
    simp only at h
    cases hsel : Region.noSelect ops with
    | false => rw [hsel] at h; cases h
    | true =>
    rw [hsel] at h
    simp only [cond_true] at h
    obtain ⟨ρ, F, hs⟩ := hs
    exact wp_region_any hmix (wpAny_of_wpC _ _ _ _ (absOpsD_ok hP hGd (Region.noSelect_spec hsel) hQp _ _ h ⟨ρ, F, hs.drewN 1⟩ hQ))
end
end Go.Proofs.Ytjmcjiklfhmdlaa.Am
