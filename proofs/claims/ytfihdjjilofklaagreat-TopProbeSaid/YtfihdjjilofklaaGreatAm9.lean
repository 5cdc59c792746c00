/- Code, loops and functions: what the abstract machine says, the program does. -/
import Derived.Test.YtfihdjjilofklaaGreatAm8
import Derived.Tactics
import Derived.Orders
set_option linter.unusedVariables false
set_option linter.unusedSimpArgs false
namespace Go.Proofs.YtfihdjjilofklaaGreat.Am
open Go
section
variable {R : Type} {im : Nat → Bool} {P : Program} {tt : Tab} (hP : TabOk P tt) {Γ Γc : GamF} {pu : Prop} (hG : GamFOk P pu Γ) {g : Beg} {ρ : Nat → Value} {F : FS} {s : St} {a : Act} {w : World} {κ : St → Option R} {r : R} {o : Oper}
theorem F2.setL {α β : Type} {R : α → β → Prop} {l : List α} {r : List β} (h : F2 R l r) (x : α) : ∀ n, (∀ b, r[n]? = some b → R x b) → F2 R (l.set n x) r := by
 induction h with
 | nil => intro n _; simp; exact .nil
 | @cons a b l r h hr ih =>
  intro n hx
  cases n with
  | zero => exact .cons (hx b (by simp)) hr
  | succ n => exact .cons h (ih n fun b hb => hx b (by simpa using hb))
theorem SX.tell (hs : SX g ρ F s a w) (d : Nat) (x : AV) (h : ∀ v, a.tmps[d]? = some v → VR w ρ F s.mem.length x v) : SX g ρ F (s.put (some d) x) a w :=
 ⟨F2.setL hs.tr x d fun b hb => h b (by rw [← Array.getElem?_toList]; exact hb), hs.mr, hs.gl, hs.defers, hs.gb⟩
theorem SX.slot (hs : SX g ρ F s a w) {d : Nat} {x : AV} (h : s.tmps[d]? = some x) : ∃ v, a.tmps[d]? = some v ∧ VR w ρ F s.mem.length x v := by
 obtain ⟨v, h1, h2⟩ := F2.get hs.tr d x h
 exact ⟨v, by rw [← Array.getElem?_toList]; exact h1, h2⟩
theorem VR_undef {N : Nat} : VR w ρ F N (.tup []) undef := ⟨#[], rfl, .nil⟩
theorem guard_bool {ops : Array Oper} {j d : Nat} {want b : Bool} (hd : (ops[j]?).bind (·.dst) = some d) (hg : o.guard = some (j, want)) (hv : a.tmps[d]? = some (.bool b)) : Region.wanted o (yielded ops a.tmps) = (b == want) := by
 unfold Region.wanted yielded
 rw [hg]
 simp only [hd, Option.bind_some, hv]
 cases b <;> cases want <;> rfl
theorem guard_undef {ops : Array Oper} {j d : Nat} {want : Bool} {vs : Array Value} (hd : (ops[j]?).bind (·.dst) = some d) (hg : o.guard = some (j, want)) (hv : a.tmps[d]? = some (.tuple vs)) : Region.wanted o (yielded ops a.tmps) = false := by
 unfold Region.wanted yielded
 rw [hg]
 simp only [hd, Option.bind_some, hv]
 cases want <;> rfl
theorem put_comm_none (s : St) (d : Option Nat) (x : AV) : (s.put d x).mem = s.mem := by cases d <;> rfl
include hP hG
theorem absOps_ok {ops : Array Oper} {Q : Exit → Act → World → Prop} : ∀ (l : List Oper) {s : St} {a : Act} {w : World}, absOps tt Γ ops l s κ = some r → SR g s a w → (∀ s' a' w', κ s' = some r → SR g s' a' w' → Q .normal a' w') → wpList P ops Q l a w
 | [], s, a, w, h, hs, hQ => hQ _ _ _ h hs
 | o :: rest, s, a, w, h, hs, hQ => by
  have exec : ∀ {s : St}, absOp tt Γ s o (fun s' => absOps tt Γ ops rest s' κ) = some r → SR g s a w → Region.wanted o (yielded ops a.tmps) = true → wpList P ops Q (o :: rest) a w := by
   intro s h hs hw
   unfold wpList
   rw [if_pos hw]
   exact .inl (absOp_ok hP hG hs h _ _ fun s' a' w' h' hs' _ _ => absOps_ok rest h' hs' hQ)
  have skip : ∀ {s : St}, absOps tt Γ ops rest (s.put o.dst (.tup [])) κ = some r → SR g s a w → Region.wanted o (yielded ops a.tmps) = false → wpList P ops Q (o :: rest) a w := by
   intro s h hs hw
   unfold wpList
   rw [if_neg (by rw [hw]; simp)]
   obtain ⟨ρ, F, hs⟩ := hs
   exact absOps_ok rest h ⟨ρ, F, hs.put o.dst VR_undef⟩ hQ
  unfold absOps at h
  rw [frc_eq] at h
  split at h
  ·rename_i hg
   exact exec h hs (by unfold Region.wanted; rw [hg])
  ·rename_i j want hg
   split at h <;> try cases h
   rename_i d hd
   split at h
   ·rename_i b hb
    obtain ⟨ρ, F, hs⟩ := hs
    obtain ⟨v, hv, hvr⟩ := hs.slot hb
    have hvb : v = .bool b := VR.CR hvr (by simp)
    subst hvb
    have hgd := guard_bool (o := o) (a := a) (ops := ops) hd hg hv
    have tell : SX g ρ F (s.put (some d) (.one (.bool b))) a w := hs.tell d _ fun u hu => by rw [hv] at hu; cases hu; exact rfl
    cases want <;> cases b <;> simp only [cond_true, cond_false] at h
    ·exact exec h ⟨ρ, F, tell⟩ (by rw [hgd]; rfl)
    ·exact skip h ⟨ρ, F, tell⟩ (by rw [hgd]; rfl)
    ·exact skip h ⟨ρ, F, tell⟩ (by rw [hgd]; rfl)
    ·exact exec h ⟨ρ, F, tell⟩ (by rw [hgd]; rfl)
   ·rename_i hb
    obtain ⟨ρ, F, hs⟩ := hs
    obtain ⟨v, hv, hvr⟩ := hs.slot hb
    obtain ⟨vs, rfl, _⟩ := hvr
    exact skip h ⟨ρ, F, hs⟩ (guard_undef hd hg hv)
   ·cases h
omit hG in
theorem absOp_quiet (hq : quietOp o = true) (hs : SX g ρ F s a w) (h : absOp tt Γ s o κ = some r) : QG P w ρ F s κ r o a := by
 cases ho : o.op with
 | move x =>
  simp only [absOp, ho] at h
  exact qg (fun w' _ => by simp [execOp, ho]) (hs.ev x) h
 | assign x =>
  simp only [absOp, ho] at h
  exact qg (fun w' _ => by simp [execOp, ho]) (hs.ev x) h
 | pick c x y =>
  simp only [absOp, ho] at h
  have hc := hs.ev c
  have hx := hs.ev x
  have hy := hs.ev y
  split at h <;> try cases h
  rename_i z e
  rw [e] at hc
  have hcv : a.eval c = .bool z := VR.CR hc (by simp)
  split at h
  ·rename_i p q e1 e2
   rw [e1] at hx
   rw [e2] at hy
   have hxv : a.eval x = .bool p := VR.CR hx (by simp)
   have hyv : a.eval y = .bool q := VR.CR hy (by simp)
   refine qg (v := .bool (bif z then p else q)) (fun w' _ => ?_) (VR.of_CR (c := .bool _) rfl) h
   cases z <;> simp [execOp, ho, hcv, hxv, hyv, asBool]
  ·cases z with
   | true => exact qg (v := a.eval x) (fun w' _ => by simp [execOp, ho, hcv, asBool]) hx (by simpa using h)
   | false => exact qg (v := a.eval y) (fun w' _ => by simp [execOp, ho, hcv, asBool]) hy (by simpa using h)
 | load T x => exact ok_load hP ho hs h
 | build T parts => exact ok_build hP ho hs h
 | nilCheck x => exact ok_nilCheck ho hs h
 | binOp op T x y U => exact ok_binOp hP ho hs h
 | unOp op T x => exact ok_unOp ho hs h
 | convert T U x => exact ok_convert hP ho (by unfold quietOp at hq; rw [ho] at hq; simpa using hq) hs h
 | slice T x lo hi mx => exact ok_slice hP ho (by unfold quietOp at hq; rw [ho] at hq; exact hq) hs h
 | fieldAddr T x f => exact ok_fieldAddr hP ho hs h
 | field T x f => exact ok_field hP ho hs h
 | indexAddr T x y => exact ok_indexAddr hP ho hs h
 | index T x y => exact ok_index hP ho hs h
 | extract x i => exact ok_extract ho hs h
 | call c =>
  cases hc : c.callee with
  | value f => unfold quietOp at hq; rw [ho] at hq; cases c; simp_all
  | invoke x m => unfold quietOp at hq; rw [ho] at hq; cases c; simp_all
  | builtin b =>
   simp only [absOp, ho, hc] at h
   split at h
   ·rename_i x T e1 e2
    exact ok_len hP ho hc e1 e2 hs h
   ·unfold quietOp at hq; rw [ho] at hq; cases c; simp_all
   ·unfold quietOp at hq; rw [ho] at hq; cases c; simp_all
   ·split at h <;> try cases h
    rename_i c' hm
    exact ok_minmax (mx := false) ho hc hs hm h
   ·split at h <;> try cases h
    rename_i c' hm
    exact ok_minmax (mx := true) ho hc hs hm h
   ·cases h
 | _ => unfold quietOp at hq; rw [ho] at hq; cases hq
omit hP hG in
theorem growI_grow {o : Oper} (h : growI im o = true) : growOp o = true := by
 unfold growI at h
 rw [Bool.and_eq_true] at h
 exact h.2
omit hP hG in
def Keeps (im : Nat → Bool) (ops : Array Oper) (i : Nat) : Prop := ∃ o, ops[i]? = some o ∧ (quietOp o = true ∨ growI im o = true)
def wpC (im : Nat → Bool) (P : Program) (ops : Array Oper) (Q : Exit → Act → World → Prop) : Nat → Array Bool → Act → World → Prop
 | 0, listed, a, w => Region.ready .any ops listed = [] ∧ Q .normal a w
 | n + 1, listed, a, w => (Region.ready .any ops listed = [] → Q .normal a w) ∧
   ∀ i ∈ Region.ready .any ops listed, wpOp P ops Q i (fun a' w' => ((Keeps im ops i → Ext w w') ∧ ∀ o, ops[i]? = some o → Region.wanted o (yielded ops a.tmps) = true → St1 o a w w') ∧ (∀ o, ops[i]? = some o → Region.wanted o (yielded ops a.tmps) = false → w' = w) ∧ wpC im P ops Q n (listed.setIfInBounds i true) a' w') a w
omit hP hG in
theorem wpAny_of_wpC {ops : Array Oper} {Q : Exit → Act → World → Prop} : ∀ (n : Nat) (listed : Array Bool) (a : Act) (w : World), wpC im P ops Q n listed a w → wpAny P .any ops Q n listed a w
 | 0, _, _, _, h => h
 | n + 1, _, _, _, h => ⟨h.1, fun i hi => wpOp_mono (fun a' w' hh => wpAny_of_wpC n _ a' w' hh.2.2) (h.2 i hi)⟩
def Still (P : Program) (ops : Array Oper) (o : Oper) (v : Value) (B : Nat → Prop) (a : Act) (w : World) : Prop :=
 (Region.wanted o (yielded ops a.tmps) = true ∧ ∀ w' : World, (∀ b, B b → w'.heap[b]? = w.heap[b]?) → (execOp a.eval o).run P w' = .ok (.value v) w') ∨ (Region.wanted o (yielded ops a.tmps) = false ∧ v = undef)
omit hP hG in
theorem Still.wpOp {ops : Array Oper} {Q : Exit → Act → World → Prop} {i : Nat} {v : Value} {B : Nat → Prop} {K : Act → World → Prop} (hi : ops[i]? = some o) (hy : Still P ops o v B a w) (h : K (a.put o.dst v) w) : Go.wpOp P ops Q i K a w := by
 unfold Go.wpOp
 simp only [hi]
 rcases hy with ⟨hw, hv⟩ | ⟨hw, rfl⟩
 ·simp only [hw, if_true, Oper.wp, hv w (fun _ _ => rfl), Oper.upon]
  exact .inl h
 ·simp only [hw, Bool.false_eq_true, if_false]
  exact h
omit hP hG in
theorem Still.later {ops : Array Oper} {v : Value} {B : Nat → Prop} {a' : Act} {w' : World} (hy : Still P ops o v B a w) (he : execOp a'.eval o = execOp a.eval o) (hw : Region.wanted o (yielded ops a'.tmps) = Region.wanted o (yielded ops a.tmps)) (hx : ∀ b, B b → w'.heap[b]? = w.heap[b]?) : Still P ops o v B a' w' := by
 unfold Still at *
 rw [he, hw]
 rcases hy with ⟨h1, h2⟩ | h
 ·exact .inl ⟨h1, fun w'' h => h2 w'' fun b hb => (h b hb).trans (hx b hb)⟩
 ·exact .inr h
omit hP hG in
theorem wpOp_move {ops : Array Oper} {Q : Exit → Act → World → Prop} {j : Nat} {oi oj : Oper} {v : Value} {B : Nat → Prop} (hj : ops[j]? = some oj) (hap : oi.apart ops oj = true) (hsi : ∀ cs b, oi.op ≠ .select cs b) (hsj : ∀ cs b, oj.op ≠ .select cs b)
  (hQ : ∀ c a w, ¬ Q (.panic c) a w) {K : Act → World → Prop} (hy : Still P ops oi v B a w) (h : wpOp P ops Q j K (a.put oi.dst v) w) :
  wpOp P ops Q j (fun a' w' => ((∀ w' : World, (∀ b, B b → w'.heap[b]? = w.heap[b]?) → Still P ops oi v B a' w') ∧ ∀ d, oj.dst ≠ some d → a'.tmps[d]? = a.tmps[d]?) ∧ K (a'.put oi.dst v) w') a w := by
 obtain ⟨h1, h2, h3⟩ := Oper.apart_spec hap
 have slot : ∀ (a : Act) (u : Value) (d : Nat), oj.dst ≠ some d → (a.put oj.dst u).tmps[d]? = a.tmps[d]? := by
  intro a u d hd
  cases hdst : oj.dst with
  | none => rfl
  | some e =>
   have : e ≠ d := fun q => hd (by rw [hdst, q])
   show (a.tmps.setIfInBounds e u)[d]? = _
   rw [Array.getElem?_setIfInBounds_ne this]
 have keep : ∀ u, (∀ w' : World, (∀ b, B b → w'.heap[b]? = w.heap[b]?) → Still P ops oi v B (a.put oj.dst u) w') ∧ ∀ d, oj.dst ≠ some d → (a.put oj.dst u).tmps[d]? = a.tmps[d]? := fun u =>
  ⟨fun w' hx => hy.later (execOp_put oi hsi a oj.dst u h3) (wanted_put oi a oj.dst u h3) hx, slot a u⟩
 have keepD : ∀ d u, (∀ w' : World, (∀ b, B b → w'.heap[b]? = w.heap[b]?) → Still P ops oi v B (({ a with defers := d :: a.defers } : Act).put oj.dst u) w') ∧ ∀ e, oj.dst ≠ some e → (({ a with defers := d :: a.defers } : Act).put oj.dst u).tmps[e]? = a.tmps[e]? := fun d u =>
  ⟨fun w' hx => hy.later (execOp_put oi hsi ({ a with defers := d :: a.defers } : Act) oj.dst u h3) (wanted_put oi ({ a with defers := d :: a.defers } : Act) oj.dst u h3) hx, slot _ u⟩
 unfold wpOp at *
 simp only [hj] at *
 rw [wanted_put oj a oi.dst v h1] at h
 split
 ·rename_i hw
  simp only [hw, if_true] at h
  rcases h with h | ⟨hasks, hlets⟩
  ·refine .inl ?_
   unfold Oper.wp at *
   rw [execOp_put oj hsj a oi.dst v h1] at h
   cases hr : (execOp a.eval oj).run P w with
   | ok n w' =>
    rw [hr] at h
    cases n <;> simp only [Oper.upon] at h ⊢
    case value u => exact ⟨keep u, by rw [← Act.put_comm a v u h2]; exact h⟩
    case skip => exact ⟨keep undef, by rw [← Act.put_comm a v undef h2]; exact h⟩
    case defer d =>
     refine ⟨keepD d undef, ?_⟩
     rw [← Act.put_comm _ v undef h2, ← Act.put_defers]
     exact h
    case enter f args =>
     refine Calls.mono h fun e w'' he => ?_
     cases e with
     | returned u => exact ⟨keep u, by rw [← Act.put_comm a v u h2]; exact he⟩
     | panicked c => exact absurd he (hQ _ _ _)
     | outgrown => exact he
    case row row args => exact Rows.mono h fun u w'' he => ⟨keep u, by rw [← Act.put_comm a v u h2]; exact he⟩
   | halt x w' =>
    rw [hr] at h
    cases x <;> simp only [Oper.upon] at h ⊢
    case panic u => exact absurd h (hQ _ _ _)
  ·refine .inr ⟨?_, hlets⟩
   unfold Oper.asks at *
   rw [execOp_put oj hsj a oi.dst v h1] at hasks
   exact hasks
 ·rename_i hw
  simp only [hw] at h
  exact ⟨keep undef, by rw [← Act.put_comm a v undef h2]; exact h⟩
omit hP hG in
def Spares (im : Nat → Bool) (ops : Array Oper) (B : Nat → Prop) (listed : Array Bool) (a : Act) (oj : Oper) : Prop :=
 (∀ b, ¬ B b) ∨ (quietOp oj = true ∨ growI im oj = true) ∨ (∃ T d y ad, oj.op = .store T (.tmp d) y ∧ a.tmps[d]? = some (.pointer (some ad)) ∧ ¬ B ad.block ∧ ∀ (k : Nat) (ok : Oper), ops[k]? = some ok → listed.getD k true = false → ok.dst ≠ some d) ∨
 ∃ c d v, oj.op = .call c ∧ c.callee = .builtin .append ∧ c.args[0]? = some (.tmp d) ∧ a.tmps[d]? = some v ∧ (∀ b, B b → v.ownBlock ≠ some b) ∧ ∀ (k : Nat) (ok : Oper), ops[k]? = some ok → listed.getD k true = false → ok.dst ≠ some d
omit hP hG in
theorem wpC_first {ops : Array Oper} {Q : Exit → Act → World → Prop} {i : Nat} {oi : Oper} {v : Value} {B : Nat → Prop} (hi : ops[i]? = some oi) (hsel : ∀ (j : Nat) (o : Oper) cs b, ops[j]? = some o → o.op ≠ .select cs b) (hQ : ∀ c a w, ¬ Q (.panic c) a w) (hio : ∀ T x y, oi.op ≠ .store T x y) (hia : ∀ c, oi.op = .call c → c.callee ≠ .builtin .append)
  {desc : Nat → Bool} (hcl : ∀ j oj, ops[j]? = some oj → desc j = true → ∃ e ∈ oj.after, Region.binds .any e = true ∧ (e.on = i ∨ desc e.on = true)) :
  ∀ (n : Nat) (listed : Array Bool) (a : Act) (w : World), (∀ b, B b → b < w.heap.size) → (∀ j, desc j = true → listed.getD j true = false) →
   (∀ j oj, ops[j]? = some oj → j ≠ i → listed.getD j true = false → desc j = false → oi.apart ops oj = true ∧ Spares im ops B listed a oj) →
   i ∈ Region.ready .any ops listed → Still P ops oi v B a w → wpC im P ops Q n (listed.setIfInBounds i true) (a.put oi.dst v) w → wpC im P ops Q (n + 1) listed a w := by
 intro n
 have self : ∀ (a : Act) (w : World), ((Keeps im ops i → Ext w w) ∧ ∀ o, ops[i]? = some o → Region.wanted o (yielded ops a.tmps) = true → St1 o a w w) ∧ (∀ o, ops[i]? = some o → Region.wanted o (yielded ops a.tmps) = false → w = w) := by
  intro a w
  refine ⟨⟨fun _ => Ext.refl w, fun o ho _ => ?_⟩, fun _ _ _ => rfl⟩
  rw [hi] at ho
  cases ho
  exact .no hio hia
 induction n with
 | zero =>
  intro listed a w _ _ _ hr hy H
  refine ⟨fun h => (by rw [h] at hr; cases hr), fun j hj => ?_⟩
  by_cases hji : j = i
  ·subst hji
   exact hy.wpOp hi ⟨(self a w).1, (self a w).2, H⟩
  ·have := ready_mono hj hji
   rw [H.1] at this
   cases this
 | succ n ih =>
  intro listed a w hBlt hun hfree hr hy H
  refine ⟨fun h => (by rw [h] at hr; cases hr), fun j hj => ?_⟩
  by_cases hji : j = i
  ·subst hji
   exact hy.wpOp hi ⟨(self a w).1, (self a w).2, H⟩
  ·have h1 := H.2 j (ready_mono hj hji)
   obtain ⟨hjun, oj, hoj, hall⟩ := mem_ready.1 hj
   have hlisted : listed.getD i true = false := (mem_ready.1 hr).1
   have hno : ∀ k, listed.getD k true = false → listed.getD k false = true → False := by
    intro k h1 h2
    rw [Array.getD_eq_getD_getElem?] at h1 h2
    cases hq : listed[k]? with
    | none => rw [hq] at h1; simp at h1
    | some b => rw [hq] at h1 h2; simp at h1 h2; rw [h2] at h1; cases h1
   have hnd : desc j = false := by
    cases hd : desc j with
    | false => rfl
    | true =>
     exfalso
     obtain ⟨e, he, hb, hk⟩ := hcl j oj hoj hd
     have h2 := hall e he hb
     rcases hk with hk | hk
     ·rw [hk] at h2
      exact hno i hlisted h2
     ·exact hno e.on (hun _ hk) h2
   obtain ⟨hap, hkind⟩ := hfree j oj hoj hji hjun hnd
   obtain ⟨ap1, ap2, ap3⟩ := Oper.apart_spec hap
   have h2 := wpOp_move hoj hap (fun cs b => hsel i oi cs b hi) (fun cs b => hsel j oj cs b hoj) hQ hy h1
   have hun' : ∀ k, desc k = true → (listed.setIfInBounds j true).getD k true = false := by
    intro k hk
    have hjk : j ≠ k := fun e => by subst e; rw [hnd] at hk; cases hk
    rw [getD_set_ne true hjk]
    exact hun k hk
   have hunl : ∀ k, k ≠ j → (listed.setIfInBounds j true).getD k true = false → listed.getD k true = false := by
    intro k hkj h
    rw [getD_set_ne true (fun e => hkj e.symm)] at h
    exact h
   have hnj : ∀ k, (listed.setIfInBounds j true).getD k true = false → k ≠ j := by
    intro k h e
    subst e
    rw [Array.getD_eq_getD_getElem?] at h
    by_cases hlt : k < listed.size
    ·simp [Array.getElem?_setIfInBounds_self_of_lt hlt] at h
    ·rw [Array.getElem?_eq_none (by simp only [Array.size_setIfInBounds]; omega)] at h; simp at h
   refine wpOp_mono (fun a' w' h3 => ?_) h2
   obtain ⟨⟨h4, hslot⟩, ⟨h5, h5s⟩, h5n, h6⟩ := h3
   have hsz : w.heap.size ≤ w'.heap.size ∨ ∀ b, ¬ B b := by
    cases hw : Region.wanted oj (yielded ops (a.put oi.dst v).tmps) with
    | false => rw [h5n oj hoj hw]; exact .inl (Nat.le_refl _)
    | true =>
     rcases hkind with hk | hk | ⟨T, d, y, ad, k1, _⟩ | ⟨c, d, v', k1, k2, k3, _⟩
     ·exact .inr hk
     ·exact .inl (h5 ⟨oj, hoj, hk⟩).1
     ·obtain ⟨ad', _, q, _⟩ := (h5s oj hoj hw).1 T (.tmp d) y k1
      exact .inl q
     ·exact .inl ((h5s oj hoj hw).2 c (.tmp d) k1 k2 k3).1
   have hB : ∀ b, B b → w'.heap[b]? = w.heap[b]? := by
    intro b hb
    cases hw : Region.wanted oj (yielded ops (a.put oi.dst v).tmps) with
    | false => rw [h5n oj hoj hw]
    | true =>
     rcases hkind with hk | hk | ⟨T, d, y, ad, k1, k2, k3, _⟩ | ⟨c, d, v', k1, k2, k3, k4, k5, _⟩
     ·exact absurd hb (hk b)
     ·exact (h5 ⟨oj, hoj, hk⟩).2 b (hBlt b hb)
     rotate_left
     ·have hne : oi.dst ≠ some d := fun e => ap1 d e (by
       unfold Oper.looksAt
       refine List.mem_append_left _ (List.mem_filterMap.2 ⟨.tmp d, ?_, rfl⟩)
       rw [k1]
       simp only [Op.operands, Call.operands, k2]
       exact Array.mem_toList_iff.2 (by simp [Array.mem_of_getElem? k3]))
      have hev : (a.put oi.dst v).eval (.tmp d) = v' := by
       rw [Act.eval_put (fun e he hx => hne (by cases hx; exact he))]
       simp [Act.eval, k4]
      refine ((h5s oj hoj hw).2 c (.tmp d) k1 k2 k3).2 b (hBlt b hb) ?_
      rw [hev]
      exact k5 b hb
     ·obtain ⟨ad', q1, _, q2⟩ := (h5s oj hoj hw).1 T (.tmp d) y k1
      have hne : oi.dst ≠ some d := fun e => ap1 d e (by
       unfold Oper.looksAt
       refine List.mem_append_left _ (List.mem_filterMap.2 ⟨.tmp d, ?_, rfl⟩)
       rw [k1]
       simp [Op.operands])
      have hev : (a.put oi.dst v).eval (.tmp d) = .pointer (some ad) := by
       rw [Act.eval_put (fun e he hx => hne (by cases hx; exact he))]
       simp [Act.eval, k2]
      rw [hev] at q1
      cases q1
      exact q2 b (fun e => k3 (e ▸ hb))
   refine ⟨⟨h5, fun o ho hw => ?_⟩, fun o ho hw => ?_, ih (listed.setIfInBounds j true) a' w' ?_ hun' ?_ (ready_mono hr (Ne.symm hji)) (h4 w' hB) ?_⟩
   ·rw [hoj] at ho
    cases ho
    have hst := h5s oj hoj (by rw [wanted_put oj a oi.dst v ap1]; exact hw)
    refine ⟨fun T x y e => ?_, fun c x e1 e2 e3 => ?_⟩
    ·obtain ⟨ad, q1, q2⟩ := hst.1 T x y e
     refine ⟨ad, ?_, q2⟩
     rw [← q1, Act.eval_put]
     intro d hd hx
     refine ap1 d hd ?_
     unfold Oper.looksAt
     refine List.mem_append_left _ (List.mem_filterMap.2 ⟨.tmp d, ?_, rfl⟩)
     rw [e, hx]
     simp [Op.operands]
    ·have q := hst.2 c x e1 e2 e3
     rw [Act.eval_put] at q
     ·exact q
     intro d hd hx
     refine ap1 d hd ?_
     unfold Oper.looksAt
     refine List.mem_append_left _ (List.mem_filterMap.2 ⟨.tmp d, ?_, rfl⟩)
     rw [hx] at e3
     rw [e1]
     simp only [Op.operands, Call.operands, e2]
     exact Array.mem_toList_iff.2 (by simp [Array.mem_of_getElem? e3])
   ·rw [hoj] at ho
    cases ho
    exact h5n oj hoj (by rw [wanted_put oj a oi.dst v ap1]; exact hw)
   ·intro b hb
    rcases hsz with q | q
    ·exact Nat.lt_of_lt_of_le (hBlt b hb) q
    ·exact absurd hb (q b)
   ·intro k ok hk hki hunk hnk
    have hkj := hnj k hunk
    obtain ⟨q1, q2⟩ := hfree k ok hk hki (hunl k hkj hunk) hnk
    refine ⟨q1, ?_⟩
    rcases q2 with q2 | q2 | ⟨T, d, y, ad, k1, k2, k3, k4⟩ | ⟨c, d, v', k1, k2, k3, k4, k5, k6⟩
    ·exact .inl q2
    ·exact .inr (.inl q2)
    ·exact .inr (.inr (.inl ⟨T, d, y, ad, k1, by rw [hslot d (k4 j oj hoj hjun)]; exact k2, k3, fun m om hm hmu => k4 m om hm (hunl m (hnj m hmu) hmu)⟩))
    ·exact .inr (.inr (.inr ⟨c, d, v', k1, k2, k3, by rw [hslot d (k6 j oj hoj hjun)]; exact k4, k5, fun m om hm hmu => k6 m om hm (hunl m (hnj m hmu) hmu)⟩))
   ·rw [Array.setIfInBounds_comm _ _ hji]
    exact h6
omit hP hG in
theorem bitB_eq (m i : Nat) : bitB m i = m.testBit i := by
 unfold bitB
 rw [Nat.testBit_eq_decide_div_mod_eq]
 have h : Nat.land (Nat.shiftRight m i) 1 = m / 2 ^ i % 2 := by
  show (m >>> i) &&& 1 = _
  rw [Nat.and_one_is_mod, Nat.shiftRight_eq_div_pow]
 rw [h]
 by_cases hx : m / 2 ^ i % 2 = 1
 ·rw [hx]; rfl
 ·rw [decide_eq_false hx]
  cases hb : Nat.beq (m / 2 ^ i % 2) 1 with
  | false => rfl
  | true => exact absurd (Nat.eq_of_beq_eq_true hb) hx
omit hP hG in
theorem bitB_lor (a b i : Nat) : bitB (Nat.lor a b) i = (bitB a i || bitB b i) := by
 simp only [bitB_eq]; exact Nat.testBit_or a b i
omit hP hG in
theorem bitB_one (k i : Nat) (h : bitB (Nat.shiftLeft 1 k) i = true) : k = i := by
 rw [bitB_eq] at h
 have h1 : (1 <<< k).testBit i = true := h
 rw [Nat.testBit_shiftLeft] at h1
 simp only [Bool.and_eq_true, decide_eq_true_eq] at h1
 obtain ⟨h2, h3⟩ := h1
 cases hd : i - k with
 | zero => omega
 | succ d => rw [hd, Nat.testBit_succ] at h3; simp at h3
omit hP hG in
theorem bitB_zero (i : Nat) : bitB 0 i = false := by rw [bitB_eq]; simp
omit hP hG in
theorem lookM_app (P M : List Nat) (j : Nat) (h : j < M.length) : lookM (P ++ M) j = lookM M j := by
 unfold lookM
 have e1 : Nat.blt j (P ++ M).length = true := by rw [List.length_append]; exact Nat.ble_eq_true_of_le (by omega)
 have e2 : Nat.blt j M.length = true := Nat.ble_eq_true_of_le (by omega)
 rw [e1, e2, cond_true, cond_true, List.length_append, List.getD_eq_getElem?_getD, List.getD_eq_getElem?_getD, List.getElem?_append_right (by omega), show P.length + M.length - 1 - j - P.length = M.length - 1 - j by omega]
omit hP hG in
theorem lookM_out {M : List Nat} {j : Nat} (h : M.length ≤ j) : lookM M j = 0 := by
 unfold lookM
 have e : Nat.blt j M.length = false := by
  cases hb : Nat.blt j M.length with
  | false => rfl
  | true => have := Nat.le_of_ble_eq_true hb; omega
 rw [e]; rfl
omit hP hG in
theorem masks_app : ∀ (l : List Oper) (M : List Nat), ∃ P, masks l M = P ++ M ∧ P.length = l.length
 | [], M => ⟨[], rfl, rfl⟩
 | o :: l, M => by
  obtain ⟨P, h1, h2⟩ := masks_app l (maskE M o.after.toList :: M)
  exact ⟨P ++ [maskE M o.after.toList], by rw [masks, h1, List.append_assoc]; rfl, by rw [List.length_append, h2]; rfl⟩
omit hP hG in
theorem masks_at : ∀ (l : List Oper) (M : List Nat) (j : Nat) (o : Oper), l[j]? = some o → ∃ M', (∀ x, x < M'.length → lookM (masks l M) x = lookM M' x) ∧ lookM (masks l M) (M.length + j) = maskE M' o.after.toList
 | [], M, j, o, h => by simp at h
 | q :: l, M, 0, o, h => by
  obtain rfl : q = o := by simpa using h
  obtain ⟨P, h1, h2⟩ := masks_app l (maskE M q.after.toList :: M)
  refine ⟨M, fun x hx => ?_, ?_⟩
  ·rw [masks, h1, lookM_app P _ x (by simp; omega)]
   exact lookM_app [maskE M q.after.toList] M x hx
  ·rw [masks, h1, lookM_app P _ _ (by simp)]
   unfold lookM
   have e : Nat.blt (M.length + 0) (maskE M q.after.toList :: M).length = true := Nat.ble_eq_true_of_le (by simp)
   rw [e, cond_true]
   simp
 | q :: l, M, j + 1, o, h => by
  obtain ⟨M', h1, h2⟩ := masks_at l (maskE M q.after.toList :: M) j o (by simpa using h)
  refine ⟨M', h1, ?_⟩
  rw [masks, show M.length + (j + 1) = (maskE M q.after.toList :: M).length + j by simp; omega]
  exact h2
omit hP hG in
theorem maskE_bit {M : List Nat} {i : Nat} : ∀ l : List Edge, bitB (maskE M l) i = true → ∃ e ∈ l, Region.binds .any e = true ∧ (e.on = i ∨ bitB (lookM M e.on) i = true)
 | [], h => by rw [maskE, bitB_zero] at h; cases h
 | e :: l, h => by
  rw [maskE] at h
  cases hb : Region.binds .any e with
  | false =>
   rw [hb, cond_false] at h
   obtain ⟨e', h1, h2⟩ := maskE_bit l h
   exact ⟨e', List.mem_cons_of_mem _ h1, h2⟩
  | true =>
   rw [hb, cond_true, bitB_lor, bitB_lor, Bool.or_eq_true, Bool.or_eq_true] at h
   rcases h with (h | h) | h
   ·exact ⟨e, List.mem_cons_self .., hb, .inl (bitB_one _ _ h)⟩
   ·exact ⟨e, List.mem_cons_self .., hb, .inr h⟩
   ·obtain ⟨e', h1, h2⟩ := maskE_bit l h
    exact ⟨e', List.mem_cons_of_mem _ h1, h2⟩
omit hP hG in
theorem descs_cl {ops : Array Oper} {i : Nat} (n : Nat) : ∀ j oj, ops[j]? = some oj → descs ops n i j = true → ∃ e ∈ oj.after, Region.binds .any e = true ∧ (e.on = i ∨ descs ops n i e.on = true) := by
 intro j oj hj h
 unfold descs at h ⊢
 obtain ⟨M', h1, h2⟩ := masks_at ops.toList [] j oj (by rw [Array.getElem?_toList]; exact hj)
 rw [List.length_nil, Nat.zero_add] at h2
 rw [h2] at h
 obtain ⟨e, he, hb, hc⟩ := maskE_bit _ h
 refine ⟨e, by simpa using he, hb, hc.imp id fun hx => ?_⟩
 rcases Nat.lt_or_ge e.on M'.length with hlt | hge
 ·rw [h1 e.on hlt]; exact hx
 ·rw [lookM_out hge, bitB_zero] at hx; cases hx
omit hP hG in
theorem descs_out {ops : Array Oper} {n i j : Nat} (h : ops[j]? = none) : descs ops n i j = false := by
 unfold descs
 obtain ⟨P, h1, h2⟩ := masks_app ops.toList []
 have hs : ops.size ≤ j := by simpa using h
 rw [lookM_out (by rw [h1, List.append_nil, h2, Array.length_toList]; exact hs), bitB_zero]
omit hP hG in
theorem isLive_spec {m : List AO} {n : Nat} (h : isLive m n = true) : live m n := by
 unfold isLive at h
 split at h
 ·cases h
 ·rename_i o hne hn
  exact ⟨_, hn, fun e => hne e⟩
 ·cases h
omit hP hG in
theorem okFirst_spec {ops : Array Oper} {listed : Array Bool} {i : Nat} {oi : Oper} (hs : SX g ρ F s a w) (hi : ops[i]? = some oi) (h : okFirst im s ops listed i = true) {B : Nat → Prop} (hBf : freeOp oi = true → ∀ b, ¬ B b) (hBl : ∀ b, B b → ∃ T x ad, oi.op = .load T x ∧ a.eval x = .pointer (some ad) ∧ b = ad.block) :
  (∀ j, descs ops ops.size i j = true → listed.getD j true = false) ∧
  ∀ (j : Nat) (oj : Oper), ops[j]? = some oj → j ≠ i → listed.getD j true = false → descs ops ops.size i j = false → oi.apart ops oj = true ∧ Spares im ops B listed a oj := by
 unfold okFirst at h
 simp only [hi, List.all_eq_true, List.mem_range] at h
 refine ⟨fun j hd => ?_, fun j oj hj hne hun hd => ?_⟩
 ·have hlt : j < ops.size := by
   by_cases hlt : j < ops.size
   ·exact hlt
   ·exfalso
    have hn : ops[j]? = none := by simp; omega
    rw [descs_out hn] at hd; cases hd
  have h1 := h j hlt
  rw [hd] at h1
  simpa using h1
 ·have h1 := h j (Array.getElem?_eq_some_iff.1 hj).1
  rw [hd] at h1
  simp only [cond_false, hj, Bool.or_eq_true, beq_iff_eq, hne, false_or, hun, Bool.false_eq_true, Bool.and_eq_true] at h1
  refine ⟨h1.1, ?_⟩
  rcases h1.2 with (h2 | h2) | h2 | h2
  ·exact .inl (hBf h2)
  ·exact .inr (.inl h2)
  rotate_left
  ·unfold okApp at h2
   split at h2
   case h_2 => cases h2
   rename_i T q e1
   split at h2
   case h_2 => cases h2
   rename_i cl e2
   split at h2
   case h_2 => cases h2
   rename_i p l0 e3 e4
   simp only [Bool.and_eq_true] at h2
   obtain ⟨h3, h4⟩ := h2
   split at h4
   case h_2 => cases h4
   rename_i c d hq hp
   obtain ⟨vq, hvq, hrq⟩ := hs.slot hq
   obtain ⟨vp, hvp, hrp⟩ := hs.slot hp
   have hdst : ∀ (k : Nat) (ok : Oper), ops[k]? = some ok → listed.getD k true = false → ok.dst ≠ some p := by
    intro k ok hk hku
    have := List.all_eq_true.1 h3 k (List.mem_range.2 (Array.getElem?_eq_some_iff.1 hk).1)
    rw [hku, hk] at this
    simpa using this
   have h0 : cl.args[0]? = some (.tmp p) := by rw [← Array.getElem?_toList, e4]; rfl
   have hBq : ∀ b, B b → ∃ ad, vq = .pointer (some ad) ∧ b = ad.block := by
    intro b hb
    obtain ⟨T2, x2, ad, g1, g2, g3⟩ := hBl b hb
    rw [e1] at g1
    cases g1
    refine ⟨ad, ?_, g3⟩
    simpa [Act.eval, hvq] using g2
   refine .inr (.inr (.inr ⟨cl, p, vp, e2, e3, h0, hvp, fun b hb hown => ?_, hdst⟩))
   obtain ⟨ad, g1, g2⟩ := hBq b hb
   cases d with
   | nilS =>
    have : vp = .slice none 0 0 := VR.CR hrp (by simp)
    rw [this] at hown
    cases hown
   | own k =>
    simp only [Bool.and_eq_true] at h4
    obtain ⟨hlk, hc⟩ := h4
    have hlk := isLive_spec hlk
    obtain ⟨_, r2, r3⟩ := VR.CR hrp (by simp)
    have hbk : b ∈ blk (ρ k) := by
     rw [← r2]
     cases vp with
     | slice a n m =>
      cases a with
      | none => cases hown
      | some a => cases hown; simp [blk, blk1]
     | _ => cases hown
    have two : ∀ n b0 off0, live s.mem n → n ≠ k → b0 ∈ blk (ρ n) → vq = .pointer (some ⟨b0, off0, none⟩) → False := by
     intro n b0 off0 hln hnk hbn hvqe
     rw [hvqe] at g1
     cases g1
     exact hnk (hs.mr.inj n k b hln hlk (by rw [g2]; exact hbn) hbk)
    cases c with
    | ptr n off0 =>
     simp only [okPl, Bool.and_eq_true, Bool.not_eq_true'] at hc
     obtain ⟨_, b0, r1, r2⟩ := VR.CR hrq (by simp)
     exact two n b0 off0 (isLive_spec hc.1) (fun e => by rw [e, Nat.beq_refl] at hc; cases hc.2) (by rw [r1]; simp [blk, blk1]) r2
    | ep n i0 z0 off0 =>
     simp only [okPl, Bool.and_eq_true, Bool.not_eq_true'] at hc
     obtain ⟨_, g0, l0, c0, r1, _, r2⟩ := VR.CR hrq (by simp)
     exact two n g0 _ (isLive_spec hc.1) (fun e => by rw [e, Nat.beq_refl] at hc; cases hc.2) (by rw [r1]; simp [blk, blk1]) r2
    | fp t0 x0 off0 =>
     obtain ⟨ad0, vs0, r1, r2, _⟩ := VR.CR hrq (by simp)
     rw [r1] at g1
     cases g1
     refine hs.mr.sep k b hlk hbk ?_
     rw [g2]
     simpa using r2
    | _ => simp [okPl] at hc
   | _ => simp at h4
  ·unfold okStore at h2
   split at h2
   case h_2 => cases h2
   rename_i T q T' p y e1 e2
   simp only [Bool.and_eq_true] at h2
   obtain ⟨h3, h4⟩ := h2
   split at h4
   case h_2 => cases h4
   rename_i c d hq hp
   obtain ⟨vq, hvq, hrq⟩ := hs.slot hq
   obtain ⟨vp, hvp, hrp⟩ := hs.slot hp
   have hdst : ∀ (k : Nat) (ok : Oper), ops[k]? = some ok → listed.getD k true = false → ok.dst ≠ some p := by
    intro k ok hk hku
    have := List.all_eq_true.1 h3 k (List.mem_range.2 (Array.getElem?_eq_some_iff.1 hk).1)
    rw [hku, hk] at this
    simpa using this
   have hBq : ∀ b, B b → ∃ ad, vq = .pointer (some ad) ∧ b = ad.block := by
    intro b hb
    obtain ⟨T2, x2, ad, g1, g2, g3⟩ := hBl b hb
    rw [e1] at g1
    cases g1
    refine ⟨ad, ?_, g3⟩
    simpa [Act.eval, hvq] using g2
   have fin : ∀ (k bk off : Nat), live s.mem k → bk ∈ blk (ρ k) → vp = .pointer (some ⟨bk, off, none⟩) → okPl s.mem k c = true → Spares im ops B listed a oj := by
    intro k bk off hlk hbk hvpe hc
    refine .inr (.inr (.inl ⟨T', p, y, ⟨bk, off, none⟩, e2, by rw [hvp, hvpe], fun hb => ?_, hdst⟩))
    obtain ⟨ad, g1, g2⟩ := hBq _ hb
    have g2 : bk = ad.block := g2
    have two : ∀ n b0 off0, live s.mem n → n ≠ k → b0 ∈ blk (ρ n) → vq = .pointer (some ⟨b0, off0, none⟩) → False := by
     intro n b0 off0 hln hnk hbn hvqe
     rw [hvqe] at g1
     cases g1
     exact hnk (hs.mr.inj n k bk hln hlk (by rw [g2]; exact hbn) hbk)
    cases c with
    | ptr n off0 =>
     simp only [okPl, Bool.and_eq_true, Bool.not_eq_true'] at hc
     obtain ⟨_, b0, r1, r2⟩ := VR.CR hrq (by simp)
     exact two n b0 off0 (isLive_spec hc.1) (fun e => by rw [e, Nat.beq_refl] at hc; cases hc.2) (by rw [r1]; simp [blk, blk1]) r2
    | ep n i0 z0 off0 =>
     simp only [okPl, Bool.and_eq_true, Bool.not_eq_true'] at hc
     obtain ⟨_, g0, l0, c0, r1, _, r2⟩ := VR.CR hrq (by simp)
     exact two n g0 _ (isLive_spec hc.1) (fun e => by rw [e, Nat.beq_refl] at hc; cases hc.2) (by rw [r1]; simp [blk, blk1]) r2
    | fp t0 x0 off0 =>
     obtain ⟨ad0, vs0, r1, r2, _⟩ := VR.CR hrq (by simp)
     rw [r1] at g1
     cases g1
     refine hs.mr.sep k bk hlk hbk ?_
     rw [g2]
     simpa using r2
    | _ => simp [okPl] at hc
   cases d with
   | ptr k off =>
    simp only [Bool.and_eq_true] at h4
    obtain ⟨_, bk, r1, r2⟩ := VR.CR hrp (by simp)
    exact fin k bk off (isLive_spec h4.1) (by rw [r1]; simp [blk, blk1]) r2 h4.2
   | ep k i0 z0 off =>
    simp only [Bool.and_eq_true] at h4
    obtain ⟨_, g0, l0, c0, r1, _, r2⟩ := VR.CR hrp (by simp)
    exact fin k g0 _ (isLive_spec h4.1) (by rw [r1]; simp [blk, blk1]) r2 h4.2
   | _ => simp at h4
omit hP hG in
theorem okFirst_of0 {ops : Array Oper} {listed : Array Bool} {i : Nat} (h : okFirst0 im ops listed i = true) (s : St) : okFirst im s ops listed i = true := by
 unfold okFirst0 at h
 unfold okFirst
 split at h
 ·cases h
 ·rename_i oi hoi
  rw [List.all_eq_true] at h
  rw [List.all_eq_true]
  intro j hj
  have h1 := h j hj
  cases hd : descs ops ops.size i j
  ·rw [hd, cond_false] at h1
   rw [cond_false]
   simp only [Bool.or_eq_true] at h1 ⊢
   rcases h1 with h1 | h1
   ·exact .inl h1
   ·refine .inr ?_
    split at h1
    ·simp only [Bool.and_eq_true] at h1 ⊢
     exact ⟨h1.1, by simp only [Bool.or_eq_true] at h1 ⊢; exact .inl h1.2⟩
    ·rfl
  ·rw [hd, cond_true] at h1
   exact h1
omit hP hG in
theorem absOps_one {ops : Array Oper} (h : absOps tt Γ ops [o] s κ = some r) (hs : SX g ρ F s a w) :
  (∃ s0, SX g ρ F s0 a w ∧ s0.mem = s.mem ∧ absOp tt Γ s0 o κ = some r ∧ Region.wanted o (yielded ops a.tmps) = true) ∨ (∃ s0, SX g ρ F s0 a w ∧ s0.mem = s.mem ∧ κ (s0.put o.dst (.tup [])) = some r ∧ Region.wanted o (yielded ops a.tmps) = false) := by
 unfold absOps at h
 rw [frc_eq] at h
 split at h
 ·rename_i hg
  exact .inl ⟨s, hs, rfl, h, by unfold Region.wanted; rw [hg]⟩
 ·rename_i j want hg
  split at h <;> try cases h
  rename_i d hd
  split at h
  ·rename_i b hb
   obtain ⟨v, hv, hvr⟩ := hs.slot hb
   have hvb : v = .bool b := VR.CR hvr (by simp)
   subst hvb
   have hgd := guard_bool (o := o) (a := a) (ops := ops) hd hg hv
   have tell : SX g ρ F (s.put (some d) (.one (.bool b))) a w := hs.tell d _ fun u hu => by rw [hv] at hu; cases hu; exact rfl
   cases want <;> cases b <;> simp only [cond_true, cond_false] at h
   ·exact .inl ⟨_, tell, rfl, h, by rw [hgd]; rfl⟩
   ·exact .inr ⟨_, tell, rfl, h, by rw [hgd]; rfl⟩
   ·exact .inr ⟨_, tell, rfl, h, by rw [hgd]; rfl⟩
   ·exact .inl ⟨_, tell, rfl, h, by rw [hgd]; rfl⟩
  ·rename_i hb
   obtain ⟨v, hv, hvr⟩ := hs.slot hb
   obtain ⟨vs, rfl, _⟩ := hvr
   exact .inr ⟨s, hs, rfl, h, guard_undef hd hg hv⟩
  ·cases h
omit hP hG in
theorem Gl.refl (w : World) (ρ : Nat → Value) (F : FS) (m : List AO) (ds : List Deferred) {m0 : List AO} (h : m0.length ≤ m.length) : Gl ⟨w, ρ, F, m0, ds, Own ρ m⟩ w ρ F m :=
 ⟨rfl, rfl, rfl, Nat.le_refl _, fun _ _ _ => rfl, fun b hb => .inl hb, .refl F, fun b hb => .inl hb, h, fun n hn => rfl⟩
omit hP hG in
theorem Gl.trans {m m0 : List AO} {w' : World} {ρ' : Nat → Value} {F' : FS} {m' : List AO} {ds : List Deferred} (h1 : Gl g w ρ F m) (hl : g.m.length ≤ m0.length) (h2 : Gl ⟨w, ρ, F, m0, ds, Own ρ m⟩ w' ρ' F' m') : Gl g w' ρ' F' m' := by
 refine ⟨h2.os.trans h1.os, h2.tape.trans h1.tape, h2.output.trans h1.output, Nat.le_trans h1.size h2.size, fun b k1 k2 => ?_, fun b k => ?_, h1.fro.trans h2.fro, fun b k => ?_, Nat.le_trans hl h2.len, fun n hn => (h2.rho n (Nat.lt_of_lt_of_le hn hl)).trans (h1.rho n hn)⟩
 ·rw [h2.keep b (Nat.lt_of_lt_of_le k1 h1.size) fun ho => ?_]
  ·exact h1.keep b k1 k2
  ·rcases h1.own b ho with q | q
   ·exact k2 q
   ·omega
 ·rcases h2.own b k with q | q
  ·exact h1.own b q
  ·exact .inr (Nat.le_trans h1.size q)
 ·rcases h2.froB b k with q | q | q
  ·exact h1.froB b q
  ·rcases h1.own b q with q | q
   ·exact .inr (.inl q)
   ·exact .inr (.inr q)
  ·exact .inr (.inr (Nat.le_trans h1.size q))
omit hP hG in
theorem SX.here (hs : SX g ρ F s a w) : SX ⟨w, ρ, F, s.mem, g.ds, Own ρ s.mem⟩ ρ F s a w := ⟨hs.tr, hs.mr, Gl.refl _ _ _ _ _ (Nat.le_refl _), hs.defers, hs.gb⟩
omit hP hG in
theorem wp_slot {K : Act → World → Prop} {Q : Exit → Act → World → Prop} (h : o.wp P a w (fun a' w' => (∀ d, o.dst ≠ some d → a'.tmps[d]? = a.tmps[d]?) → K a' w') Q) : o.wp P a w K Q := by
 have slot : ∀ (a : Act) (u : Value) (d : Nat), o.dst ≠ some d → (a.put o.dst u).tmps[d]? = a.tmps[d]? := by
  intro a u d hd
  cases hdst : o.dst with
  | none => rfl
  | some e =>
   have : e ≠ d := fun q => hd (by rw [hdst, q])
   show (a.tmps.setIfInBounds e u)[d]? = _
   rw [Array.getElem?_setIfInBounds_ne this]
 unfold Oper.wp at *
 cases hr : (execOp a.eval o).run P w with
 | ok n w' =>
  rw [hr] at h
  cases n <;> simp only [Oper.upon] at h ⊢
  case value u => exact h (slot a u)
  case skip => exact h (slot a undef)
  case defer d => exact h (slot { a with defers := d :: a.defers } undef)
  case enter f args =>
   refine Calls.mono h fun e w'' he => ?_
   cases e with
   | returned u => exact he (slot a u)
   | panicked c => exact he
   | outgrown => exact he
  case row row args => exact Rows.mono h fun u w'' he => he (slot a u)
 | halt x w' =>
  rw [hr] at h
  cases x <;> simp only [Oper.upon] at h ⊢ <;> exact h
omit hG in
theorem single_ok (hG : GamFOk P pu Γ) (hpu : growI im o = true → pu) {ops : Array Oper} {Q : Exit → Act → World → Prop} {j : Nat} (hoi : ops[j]? = some o) (h : absOps tt Γ ops [o] s κ = some r) (hs : SX g ρ F s a w) {K : Act → World → Prop}
  (hK : ∀ s' a' w' ρ' F', κ s' = some r → SX g ρ' F' s' a' w' → (∀ b, b < w.heap.size → ¬ Own ρ s.mem b → ¬ F b → w'.heap[b]? = w.heap[b]? ∧ ¬ Own ρ' s'.mem b ∧ ¬ F' b) → w.heap.size ≤ w'.heap.size → (∀ d, o.dst ≠ some d → a'.tmps[d]? = a.tmps[d]?) → K a' w') :
  wpOp P ops Q j (fun a' w' => ((Keeps im ops j → Ext w w') ∧ ∀ o, ops[j]? = some o → Region.wanted o (yielded ops a.tmps) = true → St1 o a w w') ∧ (∀ o, ops[j]? = some o → Region.wanted o (yielded ops a.tmps) = false → w' = w) ∧ K a' w') a w := by
 have keeps : Keeps im ops j → quietOp o = true ∨ growI im o = true := by
  rintro ⟨o', h1, h2⟩
  rw [hoi] at h1
  cases h1
  exact h2
 rcases absOps_one h hs with ⟨s0, hs0, hm0, h, hw⟩ | ⟨s0, hs0, hm0, h, hw⟩
 ·have hnw : ∀ o', ops[j]? = some o' → Region.wanted o' (yielded ops a.tmps) = false → ∀ w' : World, w' = w := by
   intro o' ho' hw' w'
   rw [hoi] at ho'
   cases ho'
   rw [hw] at hw'
   cases hw'
  unfold wpOp
  simp only [hoi, hw, if_true]
  have hnw' : ∀ o', some o = some o' → Region.wanted o' (yielded ops a.tmps) = false → ∀ w' : World, w' = w := fun o' ho' => hnw o' (hoi.trans ho')
  refine .inl ?_
  have fin : ∀ s' a' w', κ s' = some r → SR ⟨w, ρ, F, s0.mem, g.ds, Own ρ s0.mem⟩ s' a' w' → (∀ d, o.dst ≠ some d → a'.tmps[d]? = a.tmps[d]?) → K a' w' := by
   rintro s' a' w' k1 ⟨ρ', F', k2⟩ k3
   refine hK s' a' w' ρ' F' k1 ⟨k2.tr, k2.mr, hs0.gl.trans hs0.gl.len k2.gl, k2.defers, k2.gb⟩ (fun b b1 b2 b3 => ?_) k2.gl.size k3
   rw [← hm0] at b2
   refine ⟨k2.gl.keep b b1 b2, fun q => ?_, fun q => ?_⟩
   ·rcases k2.gl.own b q with q | q
    ·exact b2 q
    ·exact absurd b1 (Nat.not_lt.2 q)
   ·rcases k2.gl.froB b q with q | q | q
    ·exact b3 q
    ·exact b2 q
    ·exact absurd b1 (Nat.not_lt.2 q)
  refine wp_slot ?_
  by_cases hqo : quietOp o = true
  ·obtain ⟨x, v, h1, h2, h3⟩ := absOp_quiet hP hqo hs0 h
   unfold Oper.wp
   rw [h3 w (.inr (Rd.refl o a w))]
   exact fun hsl => ⟨⟨fun _ => Ext.refl w, fun o' ho' _ => by cases ho'; exact .no (fun T x y e => by unfold quietOp at hqo; rw [e] at hqo; cases hqo) (fun c e hcc => by unfold quietOp at hqo; rw [e] at hqo; cases c; subst hcc; cases hqo)⟩, fun o' ho' hw' => rfl, fin _ _ _ h1 ⟨ρ, F, hs0.here.put o.dst h2⟩ hsl⟩
  by_cases hcall : growI im o = true ∧ ∃ c, o.op = .call c
  ·obtain ⟨hgr, c, hc⟩ := hcall
   obtain ⟨f, hcf⟩ : ∃ f, c.callee = .value f := by
    replace hgr := growI_grow hgr
    unfold growOp at hgr
    rw [hc] at hgr
    cases hcc : c.callee with
    | value f => exact ⟨f, rfl⟩
    | _ => cases c; simp_all
   have hfi : (∃ fi, s0.ev f = .one (.fn fi)) ∨ (∃ fi n, s0.ev f = .one (.clo fi n)) ∨ ∃ fi t0 x0, s0.ev f = .one (.cfr fi t0 x0) := by
    have h' := h
    simp only [absOp, hc, hcf] at h'
    split at h'
    ·rename_i fi e; exact .inl ⟨fi, e⟩
    ·rename_i fi n e; exact .inr (.inl ⟨fi, n, e⟩)
    ·rename_i fi t0 x0 e; exact .inr (.inr ⟨fi, t0, x0, e⟩)
    ·cases h'
   rcases hfi with ⟨fi, hfi⟩ | ⟨fi, n, hfi⟩ | ⟨fi, t0, x0, hfi⟩
   ·exact ok_callE hG hc hcf hfi hs0.here h _ _ fun s' a' w' h1 h2 h3 hsl => ⟨⟨fun _ => h3 (hpu hgr), fun o' ho' _ => by cases ho'; exact .no (fun T x y e => by rw [hc] at e; cases e) (fun c' e => by rw [hc] at e; cases e; rw [hcf]; simp)⟩, fun o' ho' hw' => hnw' o' ho' hw' w', fin _ _ _ h1 h2 hsl⟩
   ·exact ok_callC hG hc hcf hfi hs0.here h _ _ fun s' a' w' h1 h2 h3 hsl => ⟨⟨fun _ => h3 (hpu hgr), fun o' ho' _ => by cases ho'; exact .no (fun T x y e => by rw [hc] at e; cases e) (fun c' e => by rw [hc] at e; cases e; rw [hcf]; simp)⟩, fun o' ho' hw' => hnw' o' ho' hw' w', fin _ _ _ h1 h2 hsl⟩
   ·exact ok_callD hG hc hcf hfi hs0.here h _ _ fun s' a' w' h1 h2 h3 hsl => ⟨⟨fun _ => h3 (hpu hgr), fun o' ho' _ => by cases ho'; exact .no (fun T x y e => by rw [hc] at e; cases e) (fun c' e => by rw [hc] at e; cases e; rw [hcf]; simp)⟩, fun o' ho' hw' => hnw' o' ho' hw' w', fin _ _ _ h1 h2 hsl⟩
  ·exact absOp_ok hP hG ⟨ρ, F, hs0.here⟩ h _ _ fun s' a' w' h1 h2 h3 h4 hsl => ⟨⟨fun hk => h3 (growI_grow ((keeps hk).resolve_left hqo)) (fun c hc => hcall ⟨(keeps hk).resolve_left hqo, c, hc⟩), fun o' ho' _ => by cases ho'; exact h4⟩, fun o' ho' hw' => hnw' o' ho' hw' w', fin _ _ _ h1 h2 hsl⟩
 ·unfold wpOp
  simp only [hoi, hw, Bool.false_eq_true, if_false]
  refine ⟨⟨fun _ => Ext.refl w, fun o' ho' hw' => by cases ho'; rw [hw] at hw'; cases hw'⟩, fun _ _ _ => trivial, ?_⟩
  refine hK _ _ _ ρ F h (hs0.put o.dst VR_undef) (fun b b1 b2 b3 => ⟨rfl, ?_, b3⟩) (Nat.le_refl _) (fun d hd => ?_)
  ·rw [put_comm_none, hm0]; exact b2
  ·cases hdst : o.dst with
   | none => rfl
   | some e =>
    have : e ≠ d := fun q => hd (by rw [hdst, q])
    show (a.tmps.setIfInBounds e undef)[d]? = _
    rw [Array.getElem?_setIfInBounds_ne this]
omit hG in
theorem quiet_ok {ops : Array Oper} {Q : Exit → Act → World → Prop} (hsel : ∀ (j : Nat) (o : Oper) cs b, ops[j]? = some o → o.op ≠ .select cs b) (hQp : ∀ c a w, ¬ Q (.panic c) a w) {n : Nat} {listed : Array Bool} {i : Nat} (hoi : ops[i]? = some o) (hi : i ∈ Region.ready .any ops listed) (hq : quietOp o = true) (hfirst : okFirst im s ops listed i = true)
  (h : absOps tt Γ ops [o] s κ = some r) (hs : SX g ρ F s a w)
  (hK : ∀ s' u, κ s' = some r → SX g ρ F s' (a.put o.dst u) w → s'.mem = s.mem → wpC im P ops Q n (listed.setIfInBounds i true) (a.put o.dst u) w) : wpC im P ops Q (n + 1) listed a w := by
 have hio : ∀ T x y, o.op ≠ .store T x y := fun T x y e => by unfold quietOp at hq; rw [e] at hq; cases hq
 have hia : ∀ c, o.op = .call c → c.callee ≠ .builtin .append := fun c e hcc => by unfold quietOp at hq; rw [e] at hq; cases c; subst hcc; cases hq
 rcases absOps_one h hs with ⟨s0, hs0, hm0, h, hw⟩ | ⟨s0, hs0, hm0, h, hw⟩
 ·obtain ⟨x, v, h1, h2, h3⟩ := absOp_quiet hP hq hs0 h
  let B : Nat → Prop := fun b => freeOp o = false ∧ ∃ T x ad, o.op = .load T x ∧ a.eval x = .pointer (some ad) ∧ b = ad.block ∧ b < w.heap.size
  have hBl : ∀ b, B b → ∃ T x ad, o.op = .load T x ∧ a.eval x = .pointer (some ad) ∧ b = ad.block := fun b ⟨_, T, x, ad, k1, k2, k3, _⟩ => ⟨T, x, ad, k1, k2, k3⟩
  obtain ⟨f1, f2⟩ := okFirst_spec hs hoi hfirst (B := B) (fun hf b hb => by have := hb.1; rw [hf] at this; cases this) hBl
  refine wpC_first hoi hsel hQp hio hia (descs_cl ops.size) n listed a w (fun b ⟨_, _, _, _, _, _, _, k4⟩ => k4) f1 f2 hi (.inl ⟨hw, fun w' hB => ?_⟩) (hK _ _ h1 (hs0.put o.dst h2) (by rw [put_comm_none, hm0]))
  refine h3 w' ?_
  cases hfr : freeOp o with
  | true => exact .inl rfl
  | false => exact .inr fun T x ad e1 e2 hlt => hB _ ⟨hfr, T, x, ad, e1, e2, rfl, hlt⟩
 ·obtain ⟨f1, f2⟩ := okFirst_spec hs hoi hfirst (B := fun _ => False) (fun hf b hb => hb) (fun b hb => hb.elim)
  exact wpC_first hoi hsel hQp hio hia (descs_cl ops.size) n listed a w (fun b hb => hb.elim) f1 f2 hi (.inr ⟨hw, rfl⟩) (hK _ _ h (hs0.put o.dst VR_undef) (by rw [put_comm_none, hm0]))
omit hP hG in
theorem SX.grown {w' : World} (h : SX g ρ F s a w) (hw : w.grownBy w' none) : SX g ρ F s a w' := by
 have hm : Mv w w' F F := Mv.grown hw h.mr.lt
 refine ⟨h.tr.mono hm (fun _ _ _ _ _ _ _ => rfl) (Nat.le_refl _), ⟨fun n q hq => ?_, h.mr.inj, h.mr.sep, fun b hf => Nat.lt_of_lt_of_le (h.mr.lt b hf) hw.size⟩, ⟨hw.os.trans h.gl.os, hw.tape.trans h.gl.tape, hw.output.trans h.gl.output, Nat.le_trans h.gl.size hw.size, fun b h1 h2 => ?_, h.gl.own, h.gl.fro, h.gl.froB, h.gl.len, h.gl.rho⟩, h.defers, h.gb.mono hm⟩
 ·cases hg : q with
  | gone => trivial
  | _ =>
   rw [← hg]
   have hl : live s.mem n := ⟨q, hq, by rw [hg]; simp⟩
   exact (h.mr.obj n q hq).mono hm (fun _ _ _ c _ k hk _ => rfl) (Nat.le_refl _) (fun b hb' => hw.block b (h.own_lt hl hb') (by simp))
 ·rw [hw.block b (Nat.lt_of_lt_of_le h1 h.gl.size) (by simp)]
  exact h.gl.keep b h1 h2
omit hP hG in
theorem SX.lateObj (h : SX g ρ F s a w) {o : AO} {v : Value} {b0 : Nat} (hv : blk v = [b0]) (hg0 : g.w.heap.size ≤ b0) (hno : ¬ Own ρ s.mem b0) (hnf : ¬ F b0)
  (ho : ObjR w (upd ρ s.mem.length v) F (s.mem.length + 1) o v) : SX g (upd ρ s.mem.length v) F ⟨s.tmps, s.mem ++ [o]⟩ a w := by
 have hm : Mv w w F F := ⟨.refl F, fun _ _ => rfl⟩
 have hne : ∀ k, k < s.mem.length → upd ρ s.mem.length v k = ρ k := fun k hk => upd_ne _ _ (by omega)
 have hlive : ∀ n, live (s.mem ++ [o]) n → n < s.mem.length ∧ live s.mem n ∨ n = s.mem.length := by
  intro n ⟨q, h1, h2⟩
  rcases Nat.lt_trichotomy n s.mem.length with h3 | h3 | h3
  ·rw [List.getElem?_append_left h3] at h1
   exact .inl ⟨h3, q, h1, h2⟩
  ·exact .inr h3
  ·rw [List.getElem?_eq_none (by simp; omega)] at h1
   cases h1
 have hblk : ∀ n b, live (s.mem ++ [o]) n → b ∈ blk (upd ρ s.mem.length v n) → (n < s.mem.length ∧ live s.mem n ∧ b ∈ blk (ρ n)) ∨ (n = s.mem.length ∧ b = b0) := by
  intro n b hn hb'
  rcases hlive n hn with ⟨h1, h2⟩ | h1
  ·rw [hne n h1] at hb'
   exact .inl ⟨h1, h2, hb'⟩
  ·subst h1
   rw [upd_same, hv] at hb'
   exact .inr ⟨rfl, by simpa using hb'⟩
 refine ⟨?_, ⟨?_, ?_, ?_, h.mr.lt⟩, ⟨h.gl.os, h.gl.tape, h.gl.output, h.gl.size, h.gl.keep, ?_, h.gl.fro, h.gl.froB, by have := h.gl.len; simp; omega, fun n hn => by rw [hne n (Nat.lt_of_lt_of_le hn h.gl.len)]; exact h.gl.rho n hn⟩, h.defers, h.gb.mono hm⟩
 ·exact h.tr.mono hm (fun x _ c _ n hn _ => hne n hn) (by simp)
 ·intro n q hq
  rw [List.length_append, List.length_singleton]
  rcases Nat.lt_trichotomy n s.mem.length with h3 | h3 | h3
  ·rw [List.getElem?_append_left h3] at hq
   rw [hne n h3]
   cases hg : q with
   | gone => trivial
   | _ =>
    rw [← hg]
    exact (h.mr.obj n q hq).mono hm (fun _ _ _ c _ k hk _ => hne k hk) (by omega) (fun b hb' => rfl)
  ·subst h3
   simp at hq
   subst hq
   rw [upd_same]
   exact ho
  ·rw [List.getElem?_eq_none (by simp; omega)] at hq
   cases hq
 ·intro n k b hn hk h1 h2
  rcases hblk n b hn h1 with ⟨_, l1, e1⟩ | ⟨e1, g1⟩ <;> rcases hblk k b hk h2 with ⟨_, l2, e2⟩ | ⟨e2, g2⟩
  ·exact h.mr.inj n k b l1 l2 e1 e2
  ·subst g2; exact absurd ⟨n, l1, e1⟩ hno
  ·subst g1; exact absurd ⟨k, l2, e2⟩ hno
  ·omega
 ·intro n b hn h1 hf
  rcases hblk n b hn h1 with ⟨_, l1, e1⟩ | ⟨e1, g1⟩
  ·exact h.mr.sep n b l1 e1 hf
  ·subst g1; exact hnf hf
 ·rintro b ⟨n, hn, h1⟩
  rcases hblk n b hn h1 with ⟨_, l1, e1⟩ | ⟨e1, g1⟩
  ·exact h.gl.own b ⟨n, l1, e1⟩
  ·subst g1; exact .inr hg0
def DOkAt (im : Nat → Bool) (P : Program) (g : Beg) (ops : Array Oper) (Q : Exit → Act → World → Prop) (κ : St → Option R) (r : R) (n : Nat) (D : Array Bool → St → (St → Option R) → Option R) : Prop :=
 ∀ (listed : Array Bool) (s : St) (a : Act) (w : World), D listed s κ = some r → SR g s a w → wpC im P ops Q n listed a w
def LOkAt (im : Nat → Bool) (tt : Tab) (P : Program) (g : Beg) (ops : Array Oper) (Q : Exit → Act → World → Prop) (κ : St → Option R) (r : R) (T : Nat) (n : Nat) (L : Nat → Nat → Array Bool → St → (St → Option R) → Option R) : Prop :=
 ∀ (i d : Nat) (oi : Oper) (listed : Array Bool) (s : St) (a : Act) (w : World), ops[i]? = some oi → oi.op = .alloc T → (∃ ti, tt T = some ti) → oi.guard = none → oi.dst = some d → (a.tmps[d]?).isSome → listed.setIfInBounds i true = listed → L i d listed s κ = some r →
  (∀ ρ F, SX g ρ F s a w → wpC im P ops Q (n + 1) (listed.setIfInBounds i false) a w) ∧
  (∀ ρ F b z, SX g ρ F s a w → a.tmps[d]? = some (.pointer (some ⟨b, 0, none⟩)) → (∀ w : World, (zeroValue T).run P w = .ok z w) → w.heap[b]? = some (.cells z.cells T (0, 0)) → ¬ Own ρ s.mem b → ¬ F b → g.w.heap.size ≤ b → wpC im P ops Q n listed a w)
omit hP hG in
theorem SX.anySlot (hs : SX g ρ F s a w) (d : Nat) : SX g ρ F (s.put (some d) (.one .any)) a w := hs.tell d _ fun _ _ => trivial
omit hG in
theorem zero_all {T : Nat} {i : TI} (h : tt T = some i) : ∃ z, (∀ w : World, (zeroValue T).run P w = .ok z w) ∧ ∀ (w : World) (ρ : Nat → Value) (F : FS) (N : Nat), CRs w ρ F N i.zero z.cells.toList := by
 obtain ⟨inf, z, h1, h2, h3, h4, h5⟩ := tab_info hP h
 refine ⟨z, fun w => by simp [zeroValue, typeInfo, h1, h4], fun w ρ F N => ?_⟩
 have hna := (hP T i h).noAny
 obtain ⟨z', k1, k2⟩ := zero_ok hP (w := w) (ρ := ρ) (F := F) (s := ⟨[], List.replicate N .gone⟩) h
 have : (zeroValue T).run P w = .ok z w := by simp [zeroValue, typeInfo, h1, h4]
 rw [this] at k1
 cases k1
 simpa using k2
omit hG in
theorem lay_ok {ops : Array Oper} {Q : Exit → Act → World → Prop} {i d T : Nat} {oi : Oper} {ti : TI} (hoi : ops[i]? = some oi) (hop : oi.op = .alloc T) (hgd : oi.guard = none) (hdst : oi.dst = some d) (hT : tt T = some ti) (hs : SX g ρ F s a w) {K : Act → World → Prop}
  (hK : ∀ z, (∀ w : World, (zeroValue T).run P w = .ok z w) → SX g ρ F (s.put (some d) (.one .any)) (a.put (some d) (.pointer (some ⟨w.heap.size, 0, none⟩))) (w.alloc (.cells z.cells T)) → K (a.put (some d) (.pointer (some ⟨w.heap.size, 0, none⟩))) (w.alloc (.cells z.cells T))) :
  wpOp P ops Q i (fun a' w' => ((Keeps im ops i → Ext w w') ∧ ∀ o, ops[i]? = some o → Region.wanted o (yielded ops a.tmps) = true → St1 o a w w') ∧ (∀ o, ops[i]? = some o → Region.wanted o (yielded ops a.tmps) = false → w' = w) ∧ K a' w') a w := by
 have hwanted : ∀ a : Act, Region.wanted oi (yielded ops a.tmps) = true := fun a => by unfold Region.wanted; rw [hgd]
 obtain ⟨z, hz, hzc⟩ := zero_all hP hT
 unfold wpOp
 simp only [hoi, hwanted a, if_true]
 refine .inl ?_
 have hrun : (execOp a.eval oi).run P w = .ok (.value (.pointer (some ⟨w.heap.size, 0, none⟩))) (w.alloc (.cells z.cells T)) := by
  simp [execOp, hop, Instr.alloc, hz w, newVar, newRow]
 unfold Oper.wp
 rw [hrun]
 simp only [Oper.upon, hdst]
 refine ⟨⟨fun _ => Ext.of_grown (World.grownBy_alloc w _ none), fun o ho _ => ?_⟩, fun o ho hw => ?_, hK z hz ((hs.grown (World.grownBy_alloc w _ none)).put (some d) trivial)⟩
 ·cases ho; exact .no (fun T' x y e => by rw [hop] at e; cases e) (fun c e => by rw [hop] at e; cases e)
 ·cases ho; rw [hwanted a] at hw; cases hw
omit hG in
theorem layNow_ok (hG : GamFOk P True Γ) {ops : Array Oper} {Q : Exit → Act → World → Prop} {T n : Nat} {D : Array Bool → St → (St → Option R) → Option R} (hD : DOkAt im P g ops Q κ r n D)
  {i d : Nat} {oi : Oper} {listed : Array Bool} (hoi : ops[i]? = some oi) (hop : oi.op = .alloc T) (hgd : oi.guard = none) (hdst : oi.dst = some d) (hli : listed.setIfInBounds i true = listed) (hready : Region.ready .any ops (listed.setIfInBounds i false) = [i])
  (h : absOps tt Γ ops [oi] (s.put (some d) (.one .any)) (fun s' => D listed s' κ) = some r) :
  (∀ ρ F, SX g ρ F s a w → wpC im P ops Q (n + 1) (listed.setIfInBounds i false) a w) ∧
  (∀ ρ F b z, SX g ρ F s a w → a.tmps[d]? = some (.pointer (some ⟨b, 0, none⟩)) → (∀ w : World, (zeroValue T).run P w = .ok z w) → w.heap[b]? = some (.cells z.cells T (0, 0)) → ¬ Own ρ s.mem b → ¬ F b → g.w.heap.size ≤ b → wpC im P ops Q n listed a w) := by
 obtain ⟨ti, hT, h'⟩ : ∃ ti, tt T = some ti ∧ (match allocA T ti.zero (s.put (some d) (.one .any)).mem with
   | some (m, j) => D listed ((⟨(s.put (some d) (.one .any)).tmps, m⟩ : St).put (some d) (.one (.np j 0))) κ
   | none => D listed ((⟨(s.put (some d) (.one .any)).tmps, (s.put (some d) (.one .any)).mem ++ [.var T ti.zero]⟩ : St).put (some d) (.one (.ptr (s.put (some d) (.one .any)).mem.length 0))) κ) = some r := by
  unfold absOps at h
  rw [frc_eq, hgd] at h
  simp only [absOps, absOp, hop] at h
  split at h
  ·rename_i ti hT
   rw [hdst] at h
   exact ⟨ti, hT, h⟩
  ·cases h
 constructor
 ·intro ρ F hs
  refine ⟨fun h0 => (by rw [hready] at h0; cases h0), fun j hj => ?_⟩
  have hj : j = i := by rw [hready] at hj; simpa using hj
  subst hj
  refine single_ok hP hG (fun _ => trivial) hoi h (hs.anySlot d) fun s' a' w' ρ' F' k1 k2 _ _ _ => ?_
  have : (listed.setIfInBounds j false).setIfInBounds j true = listed := by
   rw [Array.setIfInBounds_setIfInBounds]; exact hli
  rw [this]
  exact hD _ _ _ _ k1 ⟨ρ', F', k2⟩
 ·intro ρ F b z hs hb hz hzb h1 h2 h3
  obtain ⟨z', hz', hzc⟩ := zero_all hP hT
  have : z' = z := by have := (hz w).symm.trans (hz' w); cases this; rfl
  subst this
  have hs1 := hs.anySlot d
  have hs2 := hs1.lateObj (o := .var T ti.zero) (v := .pointer (some ⟨b, 0, none⟩)) rfl h3 (by rw [put_comm_none]; exact h1) h2 ⟨b, z'.cells, rfl, hzb, hzc _ _ _ _⟩
  split at h'
  ·rename_i m j hp
   obtain ⟨ρ', F', k1, k2, k3, k4, k5, bk, k6, k7⟩ := hs2.push hp
   rw [upd_same] at k6
   cases k6
   refine hD _ _ _ _ h' ⟨ρ', F', k4.tell d _ fun v hv => ?_⟩
   rw [hb] at hv
   cases hv
   exact ⟨k5, _, k7, rfl⟩
  refine hD _ _ _ _ h' ⟨upd ρ (s.put (some d) (.one .any)).mem.length (.pointer (some ⟨b, 0, none⟩)), F, ?_⟩
  refine hs2.tell d _ fun v hv => ?_
  rw [hb] at hv
  cases hv
  exact ⟨by simp, b, by rw [upd_same], rfl⟩
omit hG in
theorem stepL0_ok (hG : GamFOk P True Γ) {ops : Array Oper} {Q : Exit → Act → World → Prop} {T n : Nat} {D : Array Bool → St → (St → Option R) → Option R} (hD : DOkAt im P g ops Q κ r n D) : LOkAt im tt P g ops Q κ r T n (stepL0 tt Γ ops D) := by
 intro i d oi listed s a w hoi hop hT hgd hdst hsl hli h
 unfold stepL0 at h
 split at h <;> try cases h
 rename_i k hready
 split at h <;> try cases h
 rename_i o hok
 cases hki : (k == i)
 ·rw [hki] at h; cases h
 rw [hki, cond_true] at h
 have hki : k = i := by simpa using hki
 subst hki
 rw [hoi] at hok
 cases hok
 exact layNow_ok hP hG hD hoi hop hgd hdst hli hready h
omit hG in
theorem stepL_ok (hG : GamFOk P True Γ) {ops : Array Oper} {Q : Exit → Act → World → Prop} (hsel : ∀ (j : Nat) (o : Oper) cs b, ops[j]? = some o → o.op ≠ .select cs b) (hQp : ∀ c a w, ¬ Q (.panic c) a w) {T m : Nat} {D : Array Bool → St → (St → Option R) → Option R} {L : Nat → Nat → Array Bool → St → (St → Option R) → Option R}
  (hD : DOkAt im P g ops Q κ r (m + 1) D) (hL : LOkAt im tt P g ops Q κ r T m L) : LOkAt im tt P g ops Q κ r T (m + 1) (stepL tt Γ im ops D L) := by
 intro i d oi listed s a w hoi hop hT hgd hdst hsl hli h
 have hearly : ∀ k, (listed.setIfInBounds k true).setIfInBounds i true = listed.setIfInBounds k true := fun k => by
  by_cases hk : k = i
  ·subst hk; simp
  ·rw [Array.setIfInBounds_comm _ _ hk, hli]
 have hcomm : ∀ k, k ≠ i → (listed.setIfInBounds k true).setIfInBounds i false = (listed.setIfInBounds i false).setIfInBounds k true := fun k hk => Array.setIfInBounds_comm _ _ hk
 have hslot : ∀ {k : Nat} {o : Oper} (a : Act) (u : Value), o.dst ≠ some d → (a.put o.dst u).tmps[d]? = a.tmps[d]? := by
  intro k o a u hd
  cases hod : o.dst with
  | none => rfl
  | some e =>
   have : e ≠ d := fun q => hd (by rw [hod, q])
   show (a.tmps.setIfInBounds e u)[d]? = _
   rw [Array.getElem?_setIfInBounds_ne this]
 unfold stepL at h
 split at h
 ·
  rename_i k hf
  split at h <;> try cases h
  rename_i o hok
  unfold pickL at hf
  have hk := List.mem_of_find?_eq_some hf
  have hp := List.find?_some hf
  simp only [hok, Bool.and_eq_true, List.contains_iff_mem, bne_iff_ne, ne_eq] at hp
  obtain ⟨hk2, hq, hd, hf1, hf2⟩ := hp
  have hf1 := okFirst_of0 hf1 (s.put (some d) (.one .any))
  have hf2 := okFirst_of0 hf2 (s.put (some d) (.one .any))
  cases hki : (k == i)
  rotate_left
  ·rw [hki] at h; cases h
  rw [hki, cond_false] at h
  have hki : k ≠ i := by simpa using hki
  constructor
  ·intro ρ F hs
   refine quiet_ok hP hsel hQp hok hk hq hf2 h (hs.anySlot d) fun s' u h' hs' _ => ?_
   rw [← hcomm k hki]
   exact (hL i d oi _ s' _ w hoi hop hT hgd hdst (by rw [hslot (k := k) a u hd]; exact hsl) (hearly k) h').1 ρ F hs'
  ·intro ρ F b z hs hb hz hzb h1 h2 h3
   refine quiet_ok hP hsel hQp hok hk2 hq hf1 h (hs.anySlot d) fun s' u h' hs' hm' => ?_
   refine (hL i d oi _ s' _ w hoi hop hT hgd hdst (by rw [hslot (k := k) a u hd]; exact hsl) (hearly k) h').2 ρ F b z hs' (by rw [hslot (k := k) a u hd]; exact hb) hz hzb ?_ h2 h3
   rw [hm', put_comm_none]; exact h1
 ·split at h
  ·
   rename_i k hready
   split at h <;> try cases h
   rename_i o hok
   cases hki : (k == i)
   ·rw [hki] at h; cases h
   rw [hki, cond_true] at h
   have hki : k = i := by simpa using hki
   subst hki
   rw [hoi] at hok
   cases hok
   exact layNow_ok hP hG hD hoi hop hgd hdst hli hready h
  ·
   rename_i k1 k2 hready
   simp only at h
   split at h <;> try cases h
   rename_i o hok
   generalize hk : (bif k1 == i then k2 else k1) = k at h hok
   cases hc : ((k1 == i || k2 == i) && (!(k == i) && (o.dst != some d && Region.ready .any ops listed == [k])))
   ·rw [hc] at h; cases h
   rw [hc, cond_true] at h
   simp only [Bool.and_eq_true, Bool.or_eq_true, beq_iff_eq, Bool.not_eq_true', bne_iff_ne, ne_eq] at hc
   obtain ⟨c1, c2, c3, c4⟩ := hc
   have c2 : k ≠ i := by simpa using c2
   have hmem : ∀ j ∈ Region.ready .any ops (listed.setIfInBounds i false), j = k ∨ j = i := by
    intro j hj
    rw [hready] at hj
    simp only [List.mem_cons, List.not_mem_nil, or_false] at hj
    cases h1 : (k1 == i)
    ·rw [h1, cond_false] at hk
     have : k1 ≠ i := by simpa using h1
     rcases hj with e | e
     ·exact .inl (e.trans hk)
     ·exact .inr (e.trans (c1.resolve_left this))
    ·rw [h1, cond_true] at hk
     have : k1 = i := by simpa using h1
     rcases hj with e | e
     ·exact .inr (e.trans this)
     ·exact .inl (e.trans hk)
   have hB : ∀ (s1 : St) (a : Act) (w : World) ρ F b z, absOps tt Γ ops [o] (s1.put (some d) (.one .any)) (fun s' => L i d (listed.setIfInBounds k true) s' κ) = some r → SX g ρ F s1 a w → a.tmps[d]? = some (.pointer (some ⟨b, 0, none⟩)) → (∀ w : World, (zeroValue T).run P w = .ok z w) → w.heap[b]? = some (.cells z.cells T (0, 0)) → ¬ Own ρ s1.mem b → ¬ F b → g.w.heap.size ≤ b → wpC im P ops Q (m + 1) listed a w := by
    intro s1 a w ρ F b z h hs hb hz hzb h1 h2 h3
    refine ⟨fun h0 => (by rw [c4] at h0; cases h0), fun j hj => ?_⟩
    have hj : j = k := by rw [c4] at hj; simpa using hj
    subst hj
    have hbl : b < w.heap.size := (Array.getElem?_eq_some_iff.1 hzb).1
    refine single_ok hP hG (fun _ => trivial) hok h (hs.anySlot d) fun s' a' w' ρ' F' q1 q2 q3 q4 q5 => ?_
    obtain ⟨p1, p2, p3⟩ := q3 b hbl (by rw [put_comm_none]; exact h1) h2
    exact (hL i d oi _ s' a' w' hoi hop hT hgd hdst (by rw [q5 d c3, hb]; rfl) (hearly j) q1).2 ρ' F' b z q2 (by rw [q5 d c3]; exact hb) hz (by rw [p1]; exact hzb) p2 p3 h3
   constructor
   ·intro ρ F hs
    refine ⟨fun h0 => (by rw [hready] at h0; cases h0), fun j hj => ?_⟩
    rcases hmem j hj with e | e
    ·subst e
     refine single_ok hP hG (fun _ => trivial) hok h (hs.anySlot d) fun s' a' w' ρ' F' q1 q2 _ _ q5 => ?_
     rw [← hcomm j c2]
     exact (hL i d oi _ s' a' w' hoi hop hT hgd hdst (by rw [q5 d c3]; exact hsl) (hearly j) q1).1 ρ' F' q2
    ·subst e
     obtain ⟨ti, hTi⟩ := hT
     refine lay_ok hP hoi hop hgd hdst hTi hs fun z hz hs2 => ?_
     have : (listed.setIfInBounds j false).setIfInBounds j true = listed := by
      rw [Array.setIfInBounds_setIfInBounds]; exact hli
     rw [this]
     have hdl : d < a.tmps.size := by
      obtain ⟨v, hv⟩ := Option.isSome_iff_exists.1 hsl
      exact (Array.getElem?_eq_some_iff.1 hv).1
     ·refine hB (s.put (some d) (.one .any)) _ _ ρ F w.heap.size z ?_ hs2 ?_ hz (heap_alloc_new w _) ?_ ?_ hs.gl.size
      ·rw [show (s.put (some d) (.one .any)).put (some d) (.one .any) = s.put (some d) (.one .any) by simp [St.put]]
       exact h
      ·show (a.tmps.setIfInBounds d _)[d]? = _
       simp [hdl]
      ·rintro ⟨n, q1, q2⟩
       rw [put_comm_none] at q1
       have := hs.own_lt q1 q2
       omega
      ·intro q
       have := hs.mr.lt _ q
       omega
   ·exact fun ρ F b z hs hb hz hzb h1 h2 h3 => hB s a w ρ F b z h hs hb hz hzb h1 h2 h3
  ·cases h
omit hG in
theorem stepD_ok (hG : GamFOk P True Γ) (hGc : GamFOk P False Γc) {ops : Array Oper} {Q : Exit → Act → World → Prop} (hsel : ∀ (j : Nat) (o : Oper) cs b, ops[j]? = some o → o.op ≠ .select cs b) (hQp : ∀ c a w, ¬ Q (.panic c) a w) {n : Nat} {D : Array Bool → St → (St → Option R) → Option R} {L : Nat → Nat → Array Bool → St → (St → Option R) → Option R}
  (hD : DOkAt im P g ops Q κ r n D) (hL : ∀ T, LOkAt im tt P g ops Q κ r T n L) : DOkAt im P g ops Q κ r (n + 1) (stepD tt Γ Γc im ops D L) := by
 intro listed s a w h hs
 unfold stepD at h
 split at h
 ·
  rename_i i hf
  split at h <;> try cases h
  rename_i o hoi
  unfold pick0 at hf
  have hi : i ∈ Region.ready .any ops listed := List.mem_of_find?_eq_some hf
  have hqf : quietOp o = true ∧ okFirst0 im ops listed i = true := by
   have := List.find?_some hf
   simpa [hoi] using this
  obtain ⟨ρ, F, hs⟩ := hs
  exact quiet_ok hP hsel hQp hoi hi hqf.1 (okFirst_of0 hqf.2 s) h hs fun s' u h' hs' _ => hD _ _ _ _ h' ⟨ρ, F, hs'⟩
 split at h
 ·
  rename_i i hf
  split at h <;> try cases h
  rename_i o hoi
  have hi : i ∈ Region.ready .any ops listed := List.mem_of_find?_eq_some hf
  have hqf : quietOp o = true ∧ okFirst im s ops listed i = true := by
   have := List.find?_some hf
   simpa [hoi] using this
  obtain ⟨ρ, F, hs⟩ := hs
  exact quiet_ok hP hsel hQp hoi hi hqf.1 hqf.2 h hs fun s' u h' hs' _ => hD _ _ _ _ h' ⟨ρ, F, hs'⟩
 ·split at h
  ·
   rename_i i hready
   split at h <;> try cases h
   rename_i o hoi
   refine ⟨fun h0 => (by rw [hready] at h0; cases h0), fun j hj => ?_⟩
   have hji : j = i := by rw [hready] at hj; simpa using hj
   subst hji
   obtain ⟨ρ, F, hs⟩ := hs
   cases him : imOp im o with
   | true =>
    rw [him, cond_true] at h
    exact single_ok hP hGc (fun hgr => by
     exfalso
     unfold growI at hgr
     rw [him] at hgr
     cases hgr) hoi h hs fun s' a' w' ρ' F' q1 q2 _ _ _ => hD _ _ _ _ q1 ⟨ρ', F', q2⟩
   | false =>
    rw [him, cond_false] at h
    exact single_ok hP hG (fun _ => trivial) hoi h hs fun s' a' w' ρ' F' q1 q2 _ _ _ => hD _ _ _ _ q1 ⟨ρ', F', q2⟩
  ·split at h
   ·
    rename_i i hf
    split at h <;> try cases h
    rename_i d hlate
    unfold isLate at hlate
    split at hlate <;> try cases hlate
    rename_i oi hoi
    split at hlate <;> try cases hlate
    rename_i T d' hop hgd hdst
    cases hc : ((listed.getD i true == false) && ((tt T).isSome && (s.tmps[d']?).isSome))
    ·rw [hc] at hlate; cases hlate
    rw [hc, cond_true] at hlate
    cases hlate
    simp only [Bool.and_eq_true, beq_iff_eq] at hc
    obtain ⟨c1, c2, c3⟩ := hc
    obtain ⟨ρ, F, hs⟩ := hs
    have hlt : i < listed.size := by
     by_cases q : i < listed.size
     ·exact q
     ·rw [Array.getD_eq_getD_getElem?, Array.getElem?_eq_none (by omega)] at c1; cases c1
    have c1 : listed[i] = false := by
     rw [Array.getD_eq_getD_getElem?, Array.getElem?_eq_getElem hlt] at c1; exact c1
    have := (hL T i d oi _ s a w hoi hop (Option.isSome_iff_exists.1 c2) hgd hdst (by obtain ⟨x, hx⟩ := Option.isSome_iff_exists.1 c3; obtain ⟨v, hv, _⟩ := hs.slot hx; rw [hv]; rfl) (by simp) h).1 ρ F hs
    rw [Array.setIfInBounds_setIfInBounds] at this
    have he : listed.setIfInBounds i false = listed := by
     apply Array.ext_getElem?
     intro j
     rw [Array.getElem?_setIfInBounds]
     by_cases hj : i = j
     ·subst hj
      rw [if_pos rfl, if_pos hlt, Array.getElem?_eq_getElem hlt, c1]
     ·rw [if_neg hj]
    rw [he] at this
    exact this
   ·
    have hall := allK_spec h
    refine ⟨fun h0 => ?_, fun j hj => ?_⟩
    ·rw [h0] at h; cases h
    have h := hall _ (List.mem_map.2 ⟨j, hj, rfl⟩)
    split at h <;> try cases h
    rename_i o hoi
    obtain ⟨ρ, F, hs⟩ := hs
    cases him : imOp im o with
    | true =>
     rw [him, cond_true] at h
     exact single_ok hP hGc (fun hgr => by
      exfalso
      unfold growI at hgr
      rw [him] at hgr
      cases hgr) hoi h hs fun s' a' w' ρ' F' q1 q2 _ _ _ => hD _ _ _ _ q1 ⟨ρ', F', q2⟩
    | false =>
     rw [him, cond_false] at h
     exact single_ok hP hG (fun _ => trivial) hoi h hs fun s' a' w' ρ' F' q1 q2 _ _ _ => hD _ _ _ _ q1 ⟨ρ', F', q2⟩
omit hG in
theorem absP_ok (hG : GamFOk P True Γ) (hGc : GamFOk P False Γc) {ops : Array Oper} {Q : Exit → Act → World → Prop} (hsel : ∀ (j : Nat) (o : Oper) cs b, ops[j]? = some o → o.op ≠ .select cs b) (hQp : ∀ c a w, ¬ Q (.panic c) a w) (hQ : ∀ s' a' w', κ s' = some r → SR g s' a' w' → Q .normal a' w') :
  ∀ n, DOkAt im P g ops Q κ r n (absP tt Γ Γc im ops n).1 ∧ ∀ T, LOkAt im tt P g ops Q κ r T n (absP tt Γ Γc im ops n).2
 | 0 => by
  have hD : DOkAt im P g ops Q κ r 0 (absP tt Γ Γc im ops 0).1 := by
   intro listed s a w h hs
   unfold absP at h
   simp only at h
   split at h <;> try cases h
   rename_i he
   exact ⟨by simpa using he, hQ _ _ _ h hs⟩
  exact ⟨hD, fun T => stepL0_ok hP hG hD⟩
 | n + 1 => by
  obtain ⟨h1, h2⟩ := absP_ok hG hGc hsel hQp hQ n
  have hD := stepD_ok hP hG hGc hsel hQp h1 h2
  exact ⟨hD, fun T => stepL_ok hP hG hsel hQp hD (h2 T)⟩
omit hG in
theorem absOpsD_ok (hG : GamFOk P True Γ) (hGc : GamFOk P False Γc) {ops : Array Oper} {Q : Exit → Act → World → Prop} (hsel : ∀ (j : Nat) (o : Oper) cs b, ops[j]? = some o → o.op ≠ .select cs b) (hQp : ∀ c a w, ¬ Q (.panic c) a w) (n : Nat) (listed : Array Bool) {s : St} {a : Act} {w : World} (h : absD tt Γ Γc im ops n listed s κ = some r) (hs : SR g s a w) (hQ : ∀ s' a' w', κ s' = some r → SR g s' a' w' → Q .normal a' w') : wpC im P ops Q n listed a w :=
 (absP_ok hP hG hGc hsel hQp hQ n).1 listed s a w h hs
omit hP hG in
theorem SX.drewN (hs : SX g ρ F s a w) (n : Nat) : SX g ρ F s a (w.drewN n) := by
 have hh : (w.drewN n).heap = w.heap := rfl
 have hm : Mv w (w.drewN n) F F := ⟨.refl F, fun _ _ => by rw [hh]⟩
 refine ⟨hs.tr.mono hm (fun _ _ _ _ _ _ _ => rfl) (Nat.le_refl _), ⟨fun n o ho => (hs.mr.obj n o ho).mono hm (fun _ _ _ _ _ _ _ _ => rfl) (Nat.le_refl _) (fun _ _ => by rw [hh]), hs.mr.inj, hs.mr.sep, hs.mr.lt⟩, ⟨hs.gl.os, hs.gl.tape, hs.gl.output, hs.gl.size, hs.gl.keep, hs.gl.own, hs.gl.fro, hs.gl.froB, hs.gl.len, hs.gl.rho⟩, hs.defers, hs.gb.mono hm⟩
omit hG in
theorem region_ok {Γ : Gam} (hGc : GamFOk P False Γ.c) (hGd : GamFOk P True Γ.d) (hmix : P.follows .mixedOrders = true) {id : Nat} {ops : Array Oper} {draw : Bool} {Q : Exit → Act → World → Prop} (hs : SR g s a w)
  (h : (match draw with
   | false => absOps tt Γ.c ops ops.toList s κ
   | true => bif Region.noSelect ops then absD tt Γ.d Γ.c im ops ops.size (Array.replicate ops.size false) s κ else none) = some r)
  (hQ : ∀ s' a' w', κ s' = some r → SR g s' a' w' → Q .normal a' w') (hQp : ∀ c a w, ¬ Q (.panic c) a w) : (Code.region id ops draw).wp P Q a w := by
 cases draw with
 | false => exact wp_region_list (absOps_ok hP hGc ops.toList h hs hQ)
 | true =>
  simp only at h
  cases hsel : Region.noSelect ops with
  | false => rw [hsel] at h; cases h
  | true =>
  rw [hsel] at h
  simp only [cond_true] at h
  obtain ⟨ρ, F, hs⟩ := hs
  exact wp_region_any hmix (wpAny_of_wpC _ _ _ _ (absOpsD_ok hP hGd hGc (Region.noSelect_spec hsel) hQp _ _ h ⟨ρ, F, hs.drewN 1⟩ hQ))
end
end Go.Proofs.YtfihdjjilofklaaGreat.Am
