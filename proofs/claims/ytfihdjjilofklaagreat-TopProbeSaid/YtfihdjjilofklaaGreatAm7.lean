/- Each operation of the abstract machine is sound, fourth part: slices, calls. -/
import Derived.Test.YtfihdjjilofklaaGreatAm6
set_option linter.unusedVariables false
set_option linter.unusedSimpArgs false
namespace Go.Proofs.YtfihdjjilofklaaGreat.Am
open Go
def CallOk (P : Program) (pu : Prop) (f : Nat) (args : List AV) (m : List AO) (x : AV) (m' : List AO) (ch : List (Nat × AC)) : Prop :=
 (∃ fn, P.funcs[f]? = some fn ∧ (fn.name == "runtime.NumGoroutine") = false ∧ fn.body.isSome = true) ∧
 ∀ (w : World) (ρ : Nat → Value) (F : FS) (vals : Array Value), F2 (VR w ρ F m.length) args vals.toList → MR w ρ F m → Glob w F →
  Calls P f vals w fun e w' => ∃ u ρ' F', e = .returned u ∧ VR w' ρ' F' m'.length x u ∧ MR w' ρ' F' m' ∧ Gl ⟨w, ρ, F, m, [], Own ρ m⟩ w' ρ' F' m' ∧ (∀ p ∈ ch, CR w' ρ' F' m'.length p.2 (ρ p.1)) ∧ (pu → Ext w w')
def CallTo (P : Program) (pu : Prop) (f : Nat) (args : List AV) (m : List AO) {R : Type} (κ : AV → List AO → List (Nat × AC) → Option R) (r : R) : Prop :=
 (∃ fn, P.funcs[f]? = some fn ∧ (fn.name == "runtime.NumGoroutine") = false ∧ fn.body.isSome = true) ∧
 ∀ (w : World) (ρ : Nat → Value) (F : FS) (vals : Array Value), F2 (VR w ρ F m.length) args vals.toList → MR w ρ F m → Glob w F →
  Calls P f vals w fun e w' => ∃ x m' ch, κ x m' ch = some r ∧ ∃ u ρ' F', e = .returned u ∧ VR w' ρ' F' m'.length x u ∧ MR w' ρ' F' m' ∧ Gl ⟨w, ρ, F, m, [], Own ρ m⟩ w' ρ' F' m' ∧ (∀ p ∈ ch, CR w' ρ' F' m'.length p.2 (ρ p.1)) ∧ (pu → Ext w w')
theorem CallTo.of {P : Program} {pu : Prop} {f : Nat} {args : List AV} {m : List AO} {R : Type} {κ : AV → List AO → List (Nat × AC) → Option R} {r : R} (h : ∃ x m' ch, κ x m' ch = some r ∧ CallOk P pu f args m x m' ch) : CallTo P pu f args m κ r := by
 obtain ⟨x, m', ch, h1, h2, h3⟩ := h
 exact ⟨h2, fun w ρ F vals ha hm hb => (h3 w ρ F vals ha hm hb).mono fun e w' he => ⟨x, m', ch, h1, he⟩⟩
def GamFOk (P : Program) (pu : Prop) (Γ : GamF) : Prop :=
 ∀ (R : Type) (f : Nat) (args : List AV) (m : List AO) (κ : AV → List AO → List (Nat × AC) → Option R) (r : R), Γ R f args m κ = some r → CallTo P pu f args m κ r
section
variable {w w' : World} {ρ ρ' : Nat → Value} {F F' : FS} {N N' : Nat} {ch : List (Nat × AC)} (hm : Mv w w' F F') (hN : N ≤ N') (h1 : ∀ n, n < N → ρ' n = ρ n) (h2 : ∀ p ∈ ch, CR w' ρ' F' N' p.2 (ρ p.1))
include hm hN h1 h2
theorem sbs_CR {c : AC} {v : Value} (h : CR w ρ F N c v) : CR w' ρ' F' N' (c.sbs ch) v := by
 unfold AC.sbs
 cases hc : c.nm with
 | none => exact h.mono hm (fun n _ e => by rw [hc] at e; cases e) hN
 | some n =>
  simp only
  cases hf : ch.find? (fun p => Nat.beq p.1 n) with
  | none => exact h.mono hm (fun k hk e => h1 k hk) hN
  | some p =>
   have hp0 := List.find?_some hf
   have hp : p.1 = n := Nat.eq_of_beq_eq_true hp0
   have hmem := List.mem_of_find?_eq_some hf
   cases c with
   | own k =>
    cases hc
    have := h2 p hmem
    rw [hp] at this
    rw [h.2.1]
    exact this
   | _ => exact h.one
theorem sbs_CRs {l : List AC} {vs : List Value} (h : CRs w ρ F N l vs) : CRs w' ρ' F' N' (l.map (AC.sbs ch)) vs := by
 induction h with
 | nil => exact .nil
 | cons h _ ih => exact .cons (sbs_CR hm hN h1 h2 h) ih
theorem sbs_VRb {b : Bool} {l : List AC} {v : Value} (h : VRb w ρ F N b l v) : VRb w' ρ' F' N' b (l.map (AC.sbs ch)) v := by
 cases b with
 | true => obtain ⟨vs, rfl, h⟩ := h; exact ⟨vs, rfl, sbs_CRs hm hN h1 h2 h⟩
 | false =>
  match l, h with
  | [], _ => trivial
  | [c], h =>
   by_cases hc : c = .any
   ·subst hc; trivial
   ·have h' : CR w ρ F N c v := by cases c <;> first | exact absurd rfl hc | exact h
    exact VR.of_CR (sbs_CR hm hN h1 h2 h')
  | c :: d :: r, _ => cases hc : c.sbs ch <;> simp only [List.map_cons, hc] <;> trivial
theorem sbs_VR {x : AV} {v : Value} (h : VR w ρ F N x v) : VR w' ρ' F' N' (x.sbs ch) v := by
 cases x with
 | one c => exact sbs_VRb (b := false) (l := [c]) hm hN h1 h2 h
 | agg l => exact sbs_VRb (b := true) (l := l) hm hN h1 h2 h
 | tup l =>
  obtain ⟨vs, rfl, h⟩ := h
  refine ⟨vs, rfl, ?_⟩
  have : ∀ {l : List (Bool × List AC)} {vs : List Value}, F2 (fun p v => VRb w ρ F N p.1 p.2 v) l vs → F2 (fun p v => VRb w' ρ' F' N' p.1 p.2 v) (l.map fun p => (p.1, p.2.map (AC.sbs ch))) vs := by
   intro l vs h
   induction h with
   | nil => exact .nil
   | cons h _ ih => exact .cons (sbs_VRb hm hN h1 h2 h) ih
  exact this h
theorem sbs_TR {l : List AV} {a : Array Value} (h : TR w ρ F N l a) : TR w' ρ' F' N' (l.map (AV.sbs ch)) a := by
 unfold TR at *
 generalize a.toList = r at *
 induction h with
 | nil => exact .nil
 | cons h _ ih => exact .cons (sbs_VR hm hN h1 h2 h) ih
end
section
variable {R : Type} {P : Program} {tt : Tab} (hP : TabOk P tt) {Γ : GamF} {pu : Prop} {g : Beg} {ρ : Nat → Value} {F : FS} {s : St} {a : Act} {w : World} {κ : St → Option R} {r : R} {o : Oper}
theorem ok_callE {c : Call} {f : Operand} {fi : Nat} (hG : GamFOk P pu Γ) (ho : o.op = .call c) (hf : c.callee = .value f) (hg : s.ev f = .one (.fn fi)) (hs : SX g ρ F s a w) (h : absOp tt Γ s o κ = some r) :
  ∀ (K : Act → World → Prop) (Q : Exit → Act → World → Prop), (∀ s' a' w', κ s' = some r → SR g s' a' w' → (pu → Ext w w') → K a' w') → o.wp P a w K Q := by
 simp only [absOp, ho, hf, hg] at h
 obtain ⟨⟨fn, h2, h3, h4⟩, h5⟩ := hG _ _ _ _ _ _ h
 have hfv := hs.ev f
 rw [hg] at hfv
 have hfv : a.eval f = .func (.func fi) #[] #[] := VR.CR hfv (by simp)
 have hargs : F2 (VR w ρ F s.mem.length) (c.args.toList.map s.ev) (c.args.map a.eval).toList := by
  rw [Array.toList_map]
  generalize c.args.toList = l
  induction l with
  | nil => exact .nil
  | cons x l ih => exact .cons (hs.ev x) ih
 have hc := h5 w ρ F _ hargs hs.mr hs.gb
 intro K Q hK
 unfold Oper.wp
 have hn : fn.name ≠ "runtime.NumGoroutine" := by simpa using h3
 obtain ⟨cd, hcd⟩ := Option.isSome_iff_exists.1 h4
 have hrun : (execOp a.eval o).run P w = .ok (.enter fi (c.args.map a.eval)) w := by
  unfold execOp
  simp [ho, resolve, hf, hfv, Deferred.ofValue, invoke, callFunc, h2, hn, hcd]
 rw [hrun, Oper.upon_enter]
 refine hc.mono fun e w' he => ?_
 obtain ⟨x, m', ch, h1, u, ρ', F', rfl, k1, k2, k3, k5', k6⟩ := he
 have k5 : ∀ n, n < s.mem.length → ρ' n = ρ n := k3.rho
 have k4 : s.mem.length ≤ m'.length := k3.len
 have hm : Mv w w' F F' := ⟨k3.fro, fun b hb => k3.keep b (hs.mr.lt b hb) (fun ⟨n, hn, e⟩ => hs.mr.sep n b hn e hb)⟩
 refine hK _ _ _ h1 ⟨ρ', F', SX.put ⟨?_, k2, ⟨k3.os.trans hs.gl.os, k3.tape.trans hs.gl.tape, k3.output.trans hs.gl.output, Nat.le_trans hs.gl.size k3.size, ?_, ?_, hs.gl.fro.trans k3.fro, ?_, Nat.le_trans hs.gl.len k4, fun n hn => (k5 n (Nat.lt_of_lt_of_le hn hs.gl.len)).trans (hs.gl.rho n hn)⟩, hs.defers, hs.gb.mono hm⟩ o.dst k1⟩ k6
 ·exact sbs_TR hm k4 k5 k5' hs.tr
 ·intro b hb hO
  rw [k3.keep b (Nat.lt_of_lt_of_le hb hs.gl.size) ?_]
  ·exact hs.gl.keep b hb hO
  ·intro ho
   rcases hs.gl.own b ho with h | h
   ·exact hO h
   ·omega
 ·intro b hb
  rcases k3.own b hb with h | h
  ·exact hs.gl.own b h
  ·exact .inr (Nat.le_trans hs.gl.size h)
 ·intro b hb
  rcases k3.froB b hb with h | h | h
  ·exact hs.gl.froB b h
  ·exact .inr (hs.gl.own b h)
  ·exact .inr (.inr (Nat.le_trans hs.gl.size h))
theorem ok_callC {c : Call} {f : Operand} {fi n : Nat} (hG : GamFOk P pu Γ) (ho : o.op = .call c) (hf : c.callee = .value f) (hg : s.ev f = .one (.clo fi n)) (hs : SX g ρ F s a w) (h : absOp tt Γ s o κ = some r) :
  ∀ (K : Act → World → Prop) (Q : Exit → Act → World → Prop), (∀ s' a' w', κ s' = some r → SR g s' a' w' → (pu → Ext w w') → K a' w') → o.wp P a w K Q := by
 simp only [absOp, ho, hf, hg] at h
 obtain ⟨⟨fn, h2, h3, h4⟩, h5⟩ := hG _ _ _ _ _ _ h
 have hfv := hs.ev f
 rw [hg] at hfv
 obtain ⟨hn1, b1, hn2, hfv⟩ : CR w ρ F s.mem.length (.clo fi n) (a.eval f) := VR.CR hfv (by simp)
 have hargs : F2 (VR w ρ F s.mem.length) (c.args.toList.map s.ev ++ [.one (.ptr n 0)]) (c.args.map a.eval ++ #[Value.pointer (some ⟨b1, 0, none⟩)]).toList := by
  rw [Array.toList_append, Array.toList_map]
  refine F2.append ?_ (.cons (VR.of_CR (c := .ptr n 0) ⟨hn1, b1, hn2, rfl⟩) .nil)
  generalize c.args.toList = l
  induction l with
  | nil => exact .nil
  | cons x l ih => exact .cons (hs.ev x) ih
 have hc := h5 w ρ F _ hargs hs.mr hs.gb
 intro K Q hK
 unfold Oper.wp
 have hn : fn.name ≠ "runtime.NumGoroutine" := by simpa using h3
 obtain ⟨cd, hcd⟩ := Option.isSome_iff_exists.1 h4
 have hrun : (execOp a.eval o).run P w = .ok (.enter fi (c.args.map a.eval ++ #[Value.pointer (some ⟨b1, 0, none⟩)])) w := by
  unfold execOp
  simp [ho, resolve, hf, hfv, Deferred.ofValue, invoke, callFunc, h2, hn, hcd]
 rw [hrun, Oper.upon_enter]
 refine hc.mono fun e w' he => ?_
 obtain ⟨x, m', ch, h1, u, ρ', F', rfl, k1, k2, k3, k5', k6⟩ := he
 have k5 : ∀ n, n < s.mem.length → ρ' n = ρ n := k3.rho
 have k4 : s.mem.length ≤ m'.length := k3.len
 have hm : Mv w w' F F' := ⟨k3.fro, fun b hb => k3.keep b (hs.mr.lt b hb) (fun ⟨n, hn, e⟩ => hs.mr.sep n b hn e hb)⟩
 refine hK _ _ _ h1 ⟨ρ', F', SX.put ⟨?_, k2, ⟨k3.os.trans hs.gl.os, k3.tape.trans hs.gl.tape, k3.output.trans hs.gl.output, Nat.le_trans hs.gl.size k3.size, ?_, ?_, hs.gl.fro.trans k3.fro, ?_, Nat.le_trans hs.gl.len k4, fun n hn => (k5 n (Nat.lt_of_lt_of_le hn hs.gl.len)).trans (hs.gl.rho n hn)⟩, hs.defers, hs.gb.mono hm⟩ o.dst k1⟩ k6
 ·exact sbs_TR hm k4 k5 k5' hs.tr
 ·intro b hb hO
  rw [k3.keep b (Nat.lt_of_lt_of_le hb hs.gl.size) ?_]
  ·exact hs.gl.keep b hb hO
  ·intro ho
   rcases hs.gl.own b ho with h | h
   ·exact hO h
   ·omega
 ·intro b hb
  rcases k3.own b hb with h | h
  ·exact hs.gl.own b h
  ·exact .inr (Nat.le_trans hs.gl.size h)
 ·intro b hb
  rcases k3.froB b hb with h | h | h
  ·exact hs.gl.froB b h
  ·exact .inr (hs.gl.own b h)
  ·exact .inr (.inr (Nat.le_trans hs.gl.size h))
theorem ok_callD {c : Call} {f : Operand} {fi : Nat} {t0 : Ty} {x0 : t0.den} (hG : GamFOk P pu Γ) (ho : o.op = .call c) (hf : c.callee = .value f) (hg : s.ev f = .one (.cfr fi t0 x0)) (hs : SX g ρ F s a w) (h : absOp tt Γ s o κ = some r) :
  ∀ (K : Act → World → Prop) (Q : Exit → Act → World → Prop), (∀ s' a' w', κ s' = some r → SR g s' a' w' → (pu → Ext w w') → K a' w') → o.wp P a w K Q := by
 simp only [absOp, ho, hf, hg] at h
 obtain ⟨⟨fn, h2, h3, h4⟩, h5⟩ := hG _ _ _ _ _ _ h
 have hfv := hs.ev f
 rw [hg] at hfv
 obtain ⟨ad1, vs1, hfv, hn1, hn2, hn3⟩ : CR w ρ F s.mem.length (.cfr fi t0 x0) (a.eval f) := VR.CR hfv (by simp)
 have hargs : F2 (VR w ρ F s.mem.length) (c.args.toList.map s.ev ++ [.one (.fp t0 x0 0)]) (c.args.map a.eval ++ #[Value.pointer (some ad1)]).toList := by
  rw [Array.toList_append, Array.toList_map]
  refine F2.append ?_ (.cons (VR.of_CR (c := .fp t0 x0 0) ⟨ad1, vs1, rfl, hn1, hn2, hn3⟩) .nil)
  generalize c.args.toList = l
  induction l with
  | nil => exact .nil
  | cons x l ih => exact .cons (hs.ev x) ih
 have hc := h5 w ρ F _ hargs hs.mr hs.gb
 intro K Q hK
 unfold Oper.wp
 have hn : fn.name ≠ "runtime.NumGoroutine" := by simpa using h3
 obtain ⟨cd, hcd⟩ := Option.isSome_iff_exists.1 h4
 have hrun : (execOp a.eval o).run P w = .ok (.enter fi (c.args.map a.eval ++ #[Value.pointer (some ad1)])) w := by
  unfold execOp
  simp [ho, resolve, hf, hfv, Deferred.ofValue, invoke, callFunc, h2, hn, hcd]
 rw [hrun, Oper.upon_enter]
 refine hc.mono fun e w' he => ?_
 obtain ⟨x, m', ch, h1, u, ρ', F', rfl, k1, k2, k3, k5', k6⟩ := he
 have k5 : ∀ n, n < s.mem.length → ρ' n = ρ n := k3.rho
 have k4 : s.mem.length ≤ m'.length := k3.len
 have hm : Mv w w' F F' := ⟨k3.fro, fun b hb => k3.keep b (hs.mr.lt b hb) (fun ⟨n, hn, e⟩ => hs.mr.sep n b hn e hb)⟩
 refine hK _ _ _ h1 ⟨ρ', F', SX.put ⟨?_, k2, ⟨k3.os.trans hs.gl.os, k3.tape.trans hs.gl.tape, k3.output.trans hs.gl.output, Nat.le_trans hs.gl.size k3.size, ?_, ?_, hs.gl.fro.trans k3.fro, ?_, Nat.le_trans hs.gl.len k4, fun n hn => (k5 n (Nat.lt_of_lt_of_le hn hs.gl.len)).trans (hs.gl.rho n hn)⟩, hs.defers, hs.gb.mono hm⟩ o.dst k1⟩ k6
 ·exact sbs_TR hm k4 k5 k5' hs.tr
 ·intro b hb hO
  rw [k3.keep b (Nat.lt_of_lt_of_le hb hs.gl.size) ?_]
  ·exact hs.gl.keep b hb hO
  ·intro ho
   rcases hs.gl.own b ho with h | h
   ·exact hO h
   ·omega
 ·intro b hb
  rcases k3.own b hb with h | h
  ·exact hs.gl.own b h
  ·exact .inr (Nat.le_trans hs.gl.size h)
 ·intro b hb
  rcases k3.froB b hb with h | h | h
  ·exact hs.gl.froB b h
  ·exact .inr (hs.gl.own b h)
  ·exact .inr (.inr (Nat.le_trans hs.gl.size h))
theorem ok_callF {c : Call} {f : Operand} {fi : Nat} (hG : GamFOk P pu Γ) (ho : o.op = .call c) (hf : c.callee = .value f) (hg : s.ev f = .one (.fn fi)) (hs : SX g ρ F s a w) (h : absOp tt Γ s o κ = some r) : Goes P g κ r o a w :=
 fun K Q hK => ok_callE hG ho hf hg hs h K Q fun s' a' w' h1 h2 _ => hK s' a' w' h1 h2 (fun _ hn => absurd ho (hn _)) (.no (fun T x y e => by rw [ho] at e; cases e) (fun c' e => by rw [ho] at e; cases e; rw [hf]; simp))
theorem ok_callG {c : Call} {f : Operand} {fi n : Nat} (hG : GamFOk P pu Γ) (ho : o.op = .call c) (hf : c.callee = .value f) (hg : s.ev f = .one (.clo fi n)) (hs : SX g ρ F s a w) (h : absOp tt Γ s o κ = some r) : Goes P g κ r o a w :=
 fun K Q hK => ok_callC hG ho hf hg hs h K Q fun s' a' w' h1 h2 _ => hK s' a' w' h1 h2 (fun _ hn => absurd ho (hn _)) (.no (fun T x y e => by rw [ho] at e; cases e) (fun c' e => by rw [ho] at e; cases e; rw [hf]; simp))
theorem ok_callH {c : Call} {f : Operand} {fi : Nat} {t0 : Ty} {x0 : t0.den} (hG : GamFOk P pu Γ) (ho : o.op = .call c) (hf : c.callee = .value f) (hg : s.ev f = .one (.cfr fi t0 x0)) (hs : SX g ρ F s a w) (h : absOp tt Γ s o κ = some r) : Goes P g κ r o a w :=
 fun K Q hK => ok_callD hG ho hf hg hs h K Q fun s' a' w' h1 h2 _ => hK s' a' w' h1 h2 (fun _ hn => absurd ho (hn _)) (.no (fun T x y e => by rw [ho] at e; cases e) (fun c' e => by rw [ho] at e; cases e; rw [hf]; simp))
include hP
theorem ok_len {c : Call} {x : Operand} {T : Nat} (ho : o.op = .call c) (hc : c.callee = .builtin .len) (h1 : c.args.toList = [x]) (h2 : c.argTypes.toList = [T]) (hs : SX g ρ F s a w)
  (h : absLen tt s T (s.ev x) (fun v => κ (s.put o.dst v)) = some r) : QG P w ρ F s κ r o a := by
 have ha : c.args = #[x] := by rw [← Array.toArray_toList (xs := c.args), h1]
 have ht : c.argTypes = #[T] := by rw [← Array.toArray_toList (xs := c.argTypes), h2]
 have hx := hs.ev x
 have hrun : ∀ v, (∀ w' : World, (Builtin.len_ #[T] o.type #[a.eval x]).run P w' = .ok v w') → ∀ w' : World, (freeOp o = true ∨ Rd o a w w') → (execOp a.eval o).run P w' = .ok (.value v) w' := by
  intro v hv w' _
  unfold execOp
  simp [ho, resolve, hc, ha, ht, invoke, builtin, hv w']
 unfold absLen at h
 split at h
 ·rename_i n e hd
  obtain ⟨hu, _⟩ := td_array hP hd
  refine qg (v := _) (hrun (.int .i64 n) (fun w' => ?_)) (VR.of_CR (c := .int .i64 n) rfl) h
  simp [Builtin.len_, run_underlying hu, goInt]
 ·rename_i e hd
  obtain ⟨hu, _⟩ := td_slice hP hd
  have fin : ∀ (b : Option Addr) (n q : Nat), a.eval x = .slice b n q → ∀ w' : World, (Builtin.len_ #[T] o.type #[a.eval x]).run P w' = .ok (.int .i64 n) w' := by
   intro b n q hv w'
   rw [hv]
   simp [Builtin.len_, run_underlying hu, goInt]
  split at h
  ·cases h
  ·rename_i cc hne e1
   rw [e1] at hx
   split at h <;> try cases h
   rename_i n hn
   unfold AC.lenI at hn
   split at hn
   ·cases hn
    obtain ⟨b, q, hv, _⟩ := (show RT w F _ _ _ from VR.CR hx (by simp))
    simp only [List.cons.injEq, and_true] at hv
    exact qg (v := _) (hrun _ (fin _ _ _ hv)) (VR.of_CR (c := .int .i64 _) rfl) h
   ·cases hn
    obtain ⟨b, q, hv, _⟩ := (show RT w F _ _ _ from (VR.CR hx (by simp)).1)
    simp only [List.cons.injEq, and_true] at hv
    exact qg (v := _) (hrun _ (fin _ _ _ hv)) (VR.of_CR (c := .int .i64 _) rfl) h
   ·rename_i m lo sz
    split at hn <;> try cases hn
    rename_i e' t xs hm
    split at hn <;> cases hn
    rename_i hsz
    obtain ⟨k1, h0, a0, l0, c0, k2, k3, k4, k5⟩ := VR.CR hx (by simp)
    obtain ⟨vs, k6, _⟩ := hs.mr.obj _ _ hm
    have hl : l0 = xs.length := by
     rw [k2] at k6
     rcases k6.2 with ⟨k7, k8⟩ | ⟨g, cap, cur, k7, _⟩
     ·simp only [Value.slice.injEq] at k7; omega
     ·simp only [Value.slice.injEq] at k7; exact k7.2.1
    subst hl
    have e1 : ((xs.length : Int) - lo) = ((xs.length - lo.toNat : Nat) : Int) := by omega
    rw [e1] at h
    exact qg (v := _) (hrun _ (fin _ _ _ k5)) (VR.of_CR (c := .int .i64 _) rfl) h
   ·split at hn <;> cases hn
    rename_i m e' t xs hm
    obtain ⟨k1, k2, _⟩ := VR.CR hx (by simp)
    obtain ⟨vs, k3, _⟩ := hs.mr.obj _ _ hm
    rw [← k2] at k3
    rcases k3.2 with ⟨k4, k5⟩ | ⟨g, cap, cur, k4, _⟩
    ·rw [k5] at h
     exact qg (v := _) (hrun _ (fin _ _ _ k4)) (VR.of_CR (c := .int .i64 _) rfl) h
    ·exact qg (v := _) (hrun _ (fin _ _ _ k4)) (VR.of_CR (c := .int .i64 _) rfl) h
   ·cases hn
    have hv : a.eval x = .slice none 0 0 := VR.CR hx (by simp)
    exact qg (v := _) (hrun _ (fin _ _ _ hv)) (VR.of_CR (c := .int .i64 _) rfl) h
   ·exact absurd rfl (hne _)
   ·cases hn
    obtain ⟨_, h2, _, ⟨h4, h5⟩ | ⟨h4, b, c, h5⟩⟩ := VR.CR hx (by simp)
    ·subst h4
     exact qg (v := _) (hrun _ (fin _ _ _ h5)) (VR.of_CR (c := .int .i64 _) rfl) h
    ·refine qg (v := _) (hrun _ (fin _ _ _ h5)) (VR.of_CR (c := .int .i64 _) ?_) h
     show Value.int _ _ = Value.int _ _
     rw [Int.toNat_of_nonneg h2]
   ·cases hn
  ·cases h
 ·rename_i hd
  have hu := td_str hP hd
  split at h <;> try cases h
  rename_i b e1
  rw [e1] at hx
  have hv : a.eval x = .string b := VR.CR hx (by simp)
  refine qg (v := _) (hrun (.int .i64 b.size) (fun w' => ?_)) (VR.of_CR (c := .int .i64 _) rfl) h
  rw [hv]
  simp [Builtin.len_, run_underlying hu, goInt]
 ·cases h
omit hP in
theorem RTs_flat {t : Ty} {ad : Addr} : ∀ (ys : List t.den) (k : Nat), (∀ (i : Nat) (x : t.den), ys[i]? = some x → ∃ vs, RT w F t x vs ∧ cellsAt w (ad.add ((k + i) * t.size)) vs) → ∃ news, RTL w F t ys news ∧ cellsAt w (ad.add (k * t.size)) news
 | [], k, _ => ⟨[], .nil, fun j v h => by simp at h⟩
 | y :: ys, k, h => by
  obtain ⟨vs, h1, h2⟩ := h 0 y (by simp)
  obtain ⟨news, h3, h4⟩ := RTs_flat ys (k + 1) (fun i x hx => by
   obtain ⟨us, h5, h6⟩ := h (i + 1) x (by simpa using hx)
   exact ⟨us, h5, by rw [show k + 1 + i = k + (i + 1) by omega]; exact h6⟩)
  refine ⟨vs ++ news, .cons h1 h3, fun j v hj => ?_⟩
  rw [Nat.add_zero] at h2
  have hl := RT.len t h1
  by_cases hj' : j < vs.length
  ·rw [List.getElem?_append_left hj'] at hj
   exact h2 j v hj
  ·rw [List.getElem?_append_right (by omega)] at hj
   have := h4 _ v hj
   rw [Addr.add_add] at this ⊢
   rw [show k * t.size + j = (k + 1) * t.size + (j - vs.length) by rw [Nat.add_mul]; omega]
   exact this
omit hP in
theorem run_append_zero {t e ty : Nat} {i : TypeInfo} (ht : P.underlying t = some (.slice e)) (hi : P.info? e = some i) {v : Value} {n : Nat} {xs : List Value} (hown : w.ownsRow 0 e i.size v n xs) (b : Option Addr) (c : Nat) :
  (Builtin.append_ #[t, t] ty #[v, .slice b 0 c]).run P w = .ok v w := by
 rcases hown.2 with ⟨rfl, rfl⟩ | ⟨g, cap, cur, rfl, _, _, hnc, _⟩
 ·cases b <;> simp [Builtin.append_, run_underlying ht, sizeOf, typeInfo, hi, Builtin.lenOf, Builtin.firstCells, loadCells, loadCellsFrom]
 ·cases b <;> simp [Builtin.append_, run_underlying ht, sizeOf, typeInfo, hi, Builtin.lenOf, Builtin.firstCells, hnc, storeCells, loadCells, loadCellsFrom]
omit hP in
theorem news_ok {y : AC} {t : Ty} {ys : List t.den} {v : Value} (hs : SX g ρ F s a w) (hy : VR w ρ F s.mem.length (.one y) v)
  (h : newsOf s t y = some ys) :
  ∃ b c news, v = .slice b ys.length c ∧ (ys.length = 0 ∨ ∃ ad F', b = some ad ∧ (∀ x, F x → F' x) ∧ RTL w F' t ys news ∧ cellsAt w ad news ∧ (F' = F ∨ ∃ n, y = .own n ∧ F' = F)) := by
 unfold newsOf at h
 split at h
 ·cases h
  have hv : v = .slice none 0 0 := VR.CR hy (by simp)
  exact ⟨none, 0, [], hv, .inl rfl⟩
 ·rename_i hne
  split at h <;> try cases h
  rename_i u zs hz
  split at h <;> try cases h
  rename_i hu
  subst hu
  unfold AC.news at hz
  split at hz
  ·cases hz
   have hrt : RT w F _ _ [v] := VR.CR hy (by simp)
   obtain ⟨b, c, hv, hcap, hrt⟩ := hrt
   simp only [List.cons.injEq, and_true] at hv
   rcases hrt with h0 | ⟨ad, hb, hF, hrt⟩
   ·exact ⟨b, c, [], hv, .inl h0⟩
   ·obtain ⟨news, h1, h2⟩ := RTs_flat (w := w) (F := F) (ad := ad) zs 0 (fun i x hx => by rw [Nat.zero_add]; exact hrt i x hx)
    rw [Nat.zero_mul, Addr.add_zero'] at h2
    exact ⟨b, c, news, hv, .inr ⟨ad, F, hb, fun _ h => h, h1, h2, .inl rfl⟩⟩
  ·cases hz
   have hrt : RT w F _ _ [v] := (VR.CR hy (by simp)).1
   obtain ⟨b, c, hv, hcap, hrt⟩ := hrt
   simp only [List.cons.injEq, and_true] at hv
   rcases hrt with h0 | ⟨ad, hb, hF, hrt⟩
   ·exact ⟨b, c, [], hv, .inl h0⟩
   ·obtain ⟨news, h1, h2⟩ := RTs_flat (w := w) (F := F) (ad := ad) zs 0 (fun i x hx => by rw [Nat.zero_add]; exact hrt i x hx)
    rw [Nat.zero_mul, Addr.add_zero'] at h2
    exact ⟨b, c, news, hv, .inr ⟨ad, F, hb, fun _ h => h, h1, h2, .inl rfl⟩⟩
  ·split at hz <;> cases hz
   rename_i n e t' xs hm
   obtain ⟨k1, k2, _⟩ := VR.CR hy (by simp)
   obtain ⟨vs, k3, k4⟩ := hs.mr.obj _ _ hm
   rw [← k2] at k3
   rcases k3.2 with ⟨k5, k6⟩ | ⟨g, cap, cur, k5, _⟩
   ·exact ⟨none, 0, [], by rw [k6]; exact k5, .inl k6⟩
   ·rw [k5] at k3
    exact ⟨_, cap, vs, k5, .inr ⟨_, F, rfl, fun _ h => h, k4, cellsAt_row k3, .inl rfl⟩⟩
  ·cases hz
theorem ok_append {c : Call} {x y : Operand} {S : Nat} {p q : AC} (ho : o.op = .call c) (hc : c.callee = .builtin .append) (h1 : c.args.toList = [x, y]) (h2 : c.argTypes.toList = [S, S]) (hp : s.ev x = .one p) (hq : s.ev y = .one q) (hs : SX g ρ F s a w)
  (h : absAppend tt s o.dst S p q κ = some r) : Goes P g κ r o a w := by
 have ha : c.args = #[x, y] := by rw [← Array.toArray_toList (xs := c.args), h1]
 have ht : c.argTypes = #[S, S] := by rw [← Array.toArray_toList (xs := c.argTypes), h2]
 have hx := hs.ev x
 have hy := hs.ev y
 rw [hp] at hx
 rw [hq] at hy
 have hrun : ∀ v w', (Builtin.append_ #[S, S] o.type #[a.eval x, a.eval y]).run P w = .ok v w' → (execOp a.eval o).run P w = .ok (.value v) w' := by
  intro v w' hv
  unfold execOp
  simp [ho, resolve, hc, ha, ht, invoke, builtin, hv]
 unfold absAppend at h
 split at h <;> try cases h
 rename_i e hd
 split at h <;> try cases h
 rename_i i hT
 split at h <;> try cases h
 rename_i t hty
 split at h <;> try cases h
 rename_i hsz
 obtain ⟨hsz, hbz⟩ := hsz
 split at h
 ·cases h
 rename_i ys hys
 obtain ⟨hu, _⟩ := td_slice hP hd
 obtain ⟨inf, z, k1, k2, k3, k4, k5⟩ := tab_info hP hT
 obtain ⟨k6, k7⟩ := (hP e i hT).ty t hty
 have hzl : z.cells.size = inf.size := by
  have := congrArg List.length k5
  rw [k2, ← (hP e i hT).len]
  simpa using this
 obtain ⟨b, cc, news, hvy, hnews⟩ := news_ok hs hy hys
 have app : ∀ (v : Value) (xs : List t.den) (vs : List Value), a.eval x = v → w.ownsRow 0 e t.size v xs.length vs → RTL w F t xs vs → (xs.length + ys.length) * i.bytes ≤ 140737488355328 → ∃ v' w', (execOp a.eval o).run P w = .ok (.value v') w' ∧ w.grownBy w' v.ownBlock ∧ (∀ b, b ∈ blk v' → b ∈ blk v ∨ w.heap.size ≤ b) ∧ v'.oneCell' = true ∧ (v' = .slice none 0 0 ↔ v = .slice none 0 0 ∧ ys.length = 0) ∧
    ∀ F1, Mv w w' F F1 → ∃ us, w'.ownsRow 0 e t.size v' (xs ++ ys).length us ∧ RTL w' F1 t (xs ++ ys) us := by
  intro v xs vs hv hown hrt hby
  have hml : xs.length + ys.length ≤ maxLen := by
   have := Nat.le_trans (Nat.le_mul_of_pos_right (xs.length + ys.length) hbz) hby
   simp only [maxLen]
   omega
  rw [k6, ← k2] at hown
  rcases hnews with h0 | ⟨ad, F', rfl, hsub, hrn, hcn, hF'⟩
  ·have hy0 : ys = [] := List.eq_nil_of_length_eq_zero h0
   refine ⟨v, w, hrun v w ?_, ⟨rfl, rfl, rfl, Nat.le_refl _, fun _ _ _ => rfl⟩, fun b hb => .inl hb, ?_, ⟨fun h => ⟨h, h0⟩, fun h => h.1⟩, fun F1 hm => ⟨vs, ?_, ?_⟩⟩
   ·rw [hv, hvy, h0]
    exact run_append_zero hu k1 hown b cc
   ·rcases hown.2 with ⟨rfl, _⟩ | ⟨g, cap, cur, rfl, _⟩ <;> rfl
   ·rw [hy0, List.append_nil, k6, ← k2]; exact hown
   ·rw [hy0, List.append_nil]; exact hrt.mono hm.le hm.same
  ·have hby' := hown.2
   have hFF : F' = F := by rcases hF' with h | ⟨_, _, h⟩ <;> exact h
   subst hFF
   obtain ⟨v', w', h1, h2, h3, h4, h5⟩ := run_append_own_at (P := P) w 0 S o.type e inf z inf.size inf.bytes hu k1 k4 rfl rfl hzl (by omega) v xs.length vs hown ad ys.length cc news (by rw [hrn.len, k6, k2]) hcn hrn.one hml (by rw [k3]; exact hby) (Nat.zero_le _)
   have hv'b : ∀ b, b ∈ blk v' → v'.ownBlock = some b := by
    intro b hb
    rcases h2.2 with ⟨rfl, _⟩ | ⟨g, cap, cur, rfl, _⟩
    ·simp [blk, blk1] at hb
    ·simp only [blk, blk1, List.mem_singleton] at hb
     subst hb
     rfl
   have hvb : ∀ b, v.ownBlock = some b → b ∈ blk v := by
    intro b hb
    rcases hown.2 with ⟨rfl, _⟩ | ⟨g, cap, cur, rfl, _⟩
    ·cases hb
    ·cases hb; simp [blk, blk1]
   refine ⟨v', w', hrun v' w' (by rw [hv, hvy]; exact h1), h3, ?_, ?_, h4, fun F1 hm => ⟨vs ++ news, ?_, ?_⟩⟩
   ·intro b hb
    have := hv'b b hb
    rcases h5 with h5 | h5
    ·left; exact hvb b (by rw [← h5, this])
    ·right
     rw [h5] at this
     cases this
     exact Nat.le_refl _
   ·rcases h2.2 with ⟨rfl, _⟩ | ⟨g, cap, cur, rfl, _⟩ <;> rfl
   ·rw [List.length_append, k6, ← k2]; exact h2
   ·exact (hrt.mono hm.le hm.same).append (hrn.mono hm.le hm.same)
 have ap1 : ∀ {w' : World} {v : Value}, a.eval x = v → w.grownBy w' v.ownBlock → ApS o a w w' := by
  intro w' v hv hg c' x' e1 _ e3
  rw [ho] at e1
  cases e1
  rw [ha] at e3
  have e3 : x = x' := by simpa using e3
  subst e3
  rw [hv]
  exact ⟨hg.size, fun b hb hne => hg.block b hb (fun e => hne e.symm)⟩
 split at h
 ·
  obtain ⟨hb, h⟩ := chk_some h
  have hv : a.eval x = .slice none 0 0 := VR.CR hx (by simp)
  have hb' : ys.length * i.bytes ≤ 140737488355328 := by simpa [capOk] using hb
  obtain ⟨v', w', h3, h4, h5, h6, _, h7⟩ := app (.slice none 0 0) [] [] hv (World.ownsRow_nil w 0 e t.size) .nil (by simpa using hb')
  have hbn : ∀ b, b ∈ blk v' → w.heap.size ≤ b := fun b hb => by
   rcases h5 b hb with h | h
   ·simp [blk, blk1] at h
   ·exact h
  have hmv := Mv.grown h4 hs.mr.lt
  obtain ⟨us, h8, h9⟩ := h7 F hmv
  rw [List.nil_append] at h8 h9
  have hs' := hs.newObj (w' := w') h4 (o := .row e t ys) (v := v') hbn ⟨us, h8, h9⟩
  exact goes_app (v := v') (x := .one (.own s.mem.length)) h3 hs' ⟨by simp, by rw [upd_same], h6⟩ h (fun _ hn => absurd ho (hn _)) ho (ap1 hv h4)
 ·rename_i n
  split at h <;> try cases h
  rename_i e' u xs hm
  split at h <;> try cases h
  rename_i heq
  obtain ⟨rfl, rfl⟩ := heq
  split at h
  ·cases h
  obtain ⟨hb, h⟩ := chk_some h
  obtain ⟨g1, g2, g3⟩ := VR.CR hx (by simp)
  obtain ⟨vs, g4, g5⟩ := hs.mr.obj _ _ hm
  have hb' : (xs.length + ys.length) * i.bytes ≤ 140737488355328 := by simpa [capOk] using hb
  obtain ⟨v', w', h3, h4, h5, h6, _, h7⟩ := app (ρ n) xs vs g2 g4 g5 hb'
  have hnl : live s.mem n := ⟨_, hm, by simp⟩
  have hob : ∀ b, (ρ n).ownBlock = some b → b ∈ blk (ρ n) := by
   intro b hb
   rcases g4.2 with ⟨e, _⟩ | ⟨g, cap, cur, e, _⟩ <;> rw [e] at hb ⊢
   ·cases hb
   ·cases hb; simp [blk, blk1]
  have hmv : Mv w w' F F := ⟨.refl F, fun b hb => h4.block b (hs.mr.lt b hb) (fun e => hs.mr.sep n b ⟨_, hm, by simp⟩ (hob b e.symm) hb)⟩
  obtain ⟨us, h8, h9⟩ := h7 F hmv
  have hs' := hs.renew (w' := w') hnl hob h4 (o := .row e' u (xs ++ ys)) (v := v') h5 ⟨us, h8, h9⟩
  refine goes_app (v := v') (x := .one (.own s.mem.length)) h3 hs' ⟨?_, by rw [upd_same], h6⟩ h (fun _ hn => absurd ho (hn _)) ho (ap1 g2 h4)
  simp
 ·
  rename_i j m
  split at h <;> try cases h
  rename_i htn
  subst htn
  split at h <;> try cases h
  rename_i hs1
  unfold absGrow at h
  split at h <;> try cases h
  rename_i k hk
  obtain ⟨_, huniq⟩ := findA_ok hk
  split at h <;> try cases h
  rename_i T' e' ta tb recs hm
  split at h <;> try cases h
  rename_i he
  subst he
  obtain ⟨hb, hkk⟩ := chkA h
  clear h
  simp only [eqI, leI, Bool.and_eq_true, decide_eq_true_eq, capOk] at hb
  obtain ⟨hb1, hb2, hb3⟩ := hb
  obtain ⟨g1, g2, g3, g4⟩ := VR.CR hx (by simp)
  obtain ⟨ks, hρ, har⟩ := hs.mr.obj _ _ hm
  have hlt : j.toNat < recs.length := by
   by_cases hlt : j.toNat < recs.length
   ·exact hlt
   ·rw [har.out _ _ (by omega)] at g3; cases g3
  obtain ⟨bk, kv, q1, q2⟩ := har.node _ _ (recD_get hlt)
  have hnow := q2.now
  have hrow := q2.row
  have htop := q2.top
  simp only [more, List.append_nil] at hnow hrow htop
  rw [hb1, Int.toNat_natCast, hnow] at g3
  cases g3
  have hown : ∃ vs, w.ownsRow 0 e' 1 (a.eval x) (recD ta tb recs j).2.1.length vs ∧ RTL w F .nod (recD ta tb recs j).2.1 vs := by
   rcases hrow with ⟨e1, e2⟩ | ⟨_, vs, e1, e2⟩
   ·rw [e1, e2]; exact ⟨[], World.ownsRow_nil w 0 e' 1, .nil⟩
   ·exact ⟨vs, e1, e2⟩
  obtain ⟨vs, g5, g6⟩ := hown
  obtain ⟨v', w', h3, h4, h5, h6, h60, h7⟩ := app (a.eval x) (recD ta tb recs j).2.1 vs rfl g5 g6 hb3
  have hkvm : a.eval x ∈ ks := List.mem_of_getElem? q1
  have hnl : live s.mem k := ⟨_, hm, by simp⟩
  have hob1 : ∀ b, (a.eval x).ownBlock = some b → b ∈ blk1 (a.eval x) := by
   intro b hb
   rcases g5.2 with ⟨e, _⟩ | ⟨g, cap, cur, e, _⟩ <;> rw [e] at hb ⊢
   ·cases hb
   ·cases hb; simp [blk1]
  have hob : ∀ b, (a.eval x).ownBlock = some b → b ∈ blk (ρ k) := fun b hb => by rw [hρ]; exact mem_blkA.2 (.inr ⟨_, hkvm, hob1 b hb⟩)
  have hbx : ∀ b, b ∈ blk (a.eval x) → b ∈ blk1 (a.eval x) := by
   intro b hb
   rcases g5.2 with ⟨e, _⟩ | ⟨g, cap, cur, e, _⟩ <;> rw [e] at hb ⊢ <;> exact hb
  generalize hlk : (recD ta tb recs j).2.1 = kids at *
  let F' : FS := ⟨F.p, F.nu, fun i n => if i = j.toNat ∧ n = kids.length + ys.length then some v' else F.ka i n⟩
  have hka : ∀ i n, F'.ka i n = if i = j.toNat ∧ n = kids.length + ys.length then some v' else F.ka i n := fun _ _ => rfl
  have hys : 1 ≤ ys.length := by
   have h : (1 : Int) ≤ ((ys.length : Nat) : Int) := hb2
   omega
  have hla : (List.append (α := Int) kids ys).length = kids.length + ys.length := List.length_append
  have hFF : F.le F' := ⟨fun _ h => h, fun _ _ h => h, fun i n v hv => by
   rw [hka]
   by_cases hin : i = j.toNat ∧ n = kids.length + ys.length
   ·rw [hin.1, hin.2, htop (kids.length + ys.length) (by omega)] at hv; cases hv
   ·rw [if_neg hin]; exact hv⟩
  have hmv : Mv w w' F F' := ⟨hFF, fun b hb => h4.block b (hs.mr.lt b hb) (fun e => hs.mr.sep k b hnl (hob b e.symm) hb)⟩
  obtain ⟨us, h8, h9⟩ := h7 F' hmv
  have hv' : ∃ g c, v' = .slice (some ⟨g, 0, none⟩) (kids.length + ys.length) c := by
   rcases h8.2 with ⟨e, e2⟩ | ⟨g, cap, cur, e, _⟩
   ·have e2 := hla.symm.trans e2
    omega
   ·exact ⟨g, cap, by rw [e]; exact congrArg (fun n => Value.slice (some ⟨g, 0, none⟩) n cap) hla⟩
  have hb1' : ∀ b, b ∈ blk1 v' → b ∈ blk1 (a.eval x) ∨ w.heap.size ≤ b := by
   obtain ⟨g', c', e⟩ := hv'
   intro b hb
   refine (h5 b ?_).imp (hbx b) id
   rw [e] at hb ⊢
   exact hb
  have hold : ∀ b, b ∈ blk (ρ k) → b < w.heap.size := fun b hb => hs.own_lt hnl hb
  have hnu : ∀ b, b ∈ F.nu → w'.heap[b]? = w.heap[b]? := fun b hb =>
   h4.block b (hold b (by rw [hρ]; exact mem_blkA.2 (.inl hb))) (fun e => har.sep b hb _ hkvm (hob1 b e.symm))
  have hget : ∀ (i : Nat) (u : Value), (ks.set j.toNat v')[i]? = some u → (i = j.toNat ∧ u = v') ∨ (i ≠ j.toNat ∧ ks[i]? = some u) := by
   intro i u hu
   by_cases e : i = j.toNat
   ·subst e
    rw [List.getElem?_set_self (by rw [har.kl]; exact hlt)] at hu
    cases hu
    exact .inl ⟨rfl, rfl⟩
   ·rw [List.getElem?_set_ne (fun e' => e e'.symm)] at hu
    exact .inr ⟨e, hu⟩
  have hnew : ∀ i u, i ≠ j.toNat → ks[i]? = some u → ∀ b, b ∈ blk1 u → b ∉ blk1 v' := by
   intro i u hi hu b hb hb'
   rcases hb1' b hb' with h | h
   ·exact har.kd i j.toNat u _ hi hu q1 b hb h
   ·have := hold b (by rw [hρ]; exact mem_blkA.2 (.inr ⟨u, List.mem_of_getElem? hu, hb⟩))
    omega
  have hs' := hs.renewF (w' := w') hnl hob h4 (o := .arena T' e' ta tb recs (some (j, ys))) (v := .agg (ptrs F'.nu ++ ks.set j.toNat v').toArray) (F' := F') (fun b hb => by
    rcases mem_blkA.1 hb with hb | ⟨u, hu, hbu⟩
    ·left; rw [hρ]; exact mem_blkA.2 (.inl hb)
    ·obtain ⟨i, hi⟩ := List.mem_iff_getElem?.1 hu
     rcases hget i u hi with ⟨_, rfl⟩ | ⟨_, hi⟩
     ·rcases hb1' b hbu with h | h
      ·left; rw [hρ]; exact mem_blkA.2 (.inr ⟨_, hkvm, h⟩)
      ·exact .inr h
     ·left; rw [hρ]; exact mem_blkA.2 (.inr ⟨u, List.mem_of_getElem? hi, hbu⟩)) hFF (fun _ h => h) (fun q o hq ho => .inl (huniq q o hq ho))
   ⟨_, rfl, by
    refine ⟨har.nl, by rw [List.length_set]; exact har.kl, fun i r' hr' => ?_, fun i n hi => ?_, har.nd, ?_, ?_⟩
    ·by_cases hi : i = j.toNat
     ·subst hi
      rw [recD_get hlt] at hr'
      cases hr'
      obtain ⟨cs, k0, c1, c2, c3, c4⟩ := q2.cells
      refine ⟨bk, v', List.getElem?_set_self (by rw [har.kl]; exact hlt), q2.nu, ⟨cs, k0, by rw [hnu bk (List.mem_of_getElem? q2.nu)]; exact c1, c2.mono hmv, hFF.ka _ _ _ c3, c4⟩, ?_, ?_, ?_⟩
      ·simp only [more, if_true]
       rw [hlk]
       exact (congrArg (F'.ka j.toNat) hla).trans (by rw [hka, if_pos ⟨rfl, rfl⟩])
      ·simp only [more, if_true]
       rw [hlk]
       refine .inr ⟨?_, us, h8, h9⟩
       intro e
       have := hla.symm.trans (congrArg List.length e)
       have : kids.length + ys.length = 0 := this
       omega
      ·simp only [more, if_true]
       rw [hlk]
       intro n hn
       have hn : kids.length + ys.length < n := Nat.lt_of_le_of_lt (Nat.le_of_eq hla.symm) hn
       rw [hka, if_neg (by omega)]
       exact htop n (by omega)
     ·obtain ⟨bk', kv', c1, c2⟩ := har.node i r' hr'
      have hmo : more (some (j, ys)) i = more none i := if_neg (fun e => hi e.symm)
      rw [hmo]
      refine ⟨bk', kv', by rw [List.getElem?_set_ne (fun e => hi e.symm)]; exact c1, c2.mono hmv (fun n => by rw [hka, if_neg (fun e => hi e.1)]) (hnu bk' (List.mem_of_getElem? c2.nu)) (fun b hb => ?_)⟩
      refine h4.block b (hold b (by rw [hρ]; exact mem_blkA.2 (.inr ⟨kv', List.mem_of_getElem? c1, hb⟩))) (fun e => ?_)
      exact har.kd i j.toNat kv' _ hi c1 q1 b hb (hob1 b e.symm)
    ·rw [hka, if_neg (by omega)]
     exact har.out i n hi
    ·intro i i' u u' hii hu hu' b hb hb'
     rcases hget i u hu with ⟨e1, e2⟩ | ⟨h1, hu1⟩ <;> rcases hget i' u' hu' with ⟨e3, e4⟩ | ⟨h2, hu2⟩
     ·exact hii (e1.trans e3.symm)
     ·rw [e2] at hb; exact hnew i' u' h2 hu2 b hb' hb
     ·rw [e4] at hb'; exact hnew i u h1 hu1 b hb hb'
     ·exact har.kd i i' u u' hii hu1 hu2 b hb hb'
    ·intro b hb u hu hbu
     obtain ⟨i, hi⟩ := List.mem_iff_getElem?.1 hu
     rcases hget i u hi with ⟨_, rfl⟩ | ⟨_, hi⟩
     ·rcases hb1' b hbu with h | h
      ·exact har.sep b hb _ hkvm h
      ·have := hold b (by rw [hρ]; exact mem_blkA.2 (.inl hb)); omega
     ·exact har.sep b hb u (List.mem_of_getElem? hi) hbu⟩
  obtain ⟨g', c', e'⟩ := hv'
  refine goes_app (v := v') (x := .one (.kd j (m + (ys.length : Int)))) h3 hs' ⟨g1, by omega, ?_, .inr ⟨by omega, g', c', ?_⟩⟩ hkk (fun _ hn => absurd ho (hn _)) ho (ap1 rfl h4)
  ·rw [show (m + (ys.length : Int)).toNat = kids.length + ys.length by omega, hka, if_pos ⟨rfl, rfl⟩]
  ·rw [e', show (m + (ys.length : Int)).toNat = kids.length + ys.length by omega]
 ·cases h
omit hP in
theorem absMM_ok {mx : Bool} {k : IntKind} : ∀ (l : List Operand) {m : Int} {c : AC}, SX g ρ F s a w → absMM mx k m (l.map s.ev) = some c →
  ∃ n, c = .int k n ∧ ∀ w' : World, ((l.map a.eval).foldlM (if mx then Builtin.max2 else Builtin.min2) (.int k m)).run P w' = .ok (.int k n) w'
 | [], m, c, hs, h => by
  simp [absMM] at h
  exact ⟨m, h.symm, by simp⟩
 | x :: l, m, c, hs, h => by
  simp only [List.map_cons] at h
  have hx := hs.ev x
  unfold absMM at h
  split at h <;> try cases h
  ·rename_i heq; cases heq
  ·rename_i m l0 k' n r heq
   simp only [List.cons.injEq] at heq
   obtain ⟨e, rfl⟩ := heq
   split at h <;> try cases h
   rename_i hk
   subst hk
   rw [e] at hx
   have hv : a.eval x = .int k n := VR.CR hx (by simp)
   obtain ⟨q, h1, h2⟩ := absMM_ok l hs h
   refine ⟨q, h1, fun w' => ?_⟩
   have h2 := h2 w'
   simp only [List.map_cons, List.foldlM_cons, Sem.run_bind, hv]
   cases mx with
   | true =>
    simp only [if_true, Builtin.max2, Sem.run_pure, Result.andThen_ok]
    simp only [if_true] at h2
    rw [← h2]
    congr 4
    by_cases hlt : m < n <;> simp [ltI, hlt]
   | false =>
    simp only [Bool.false_eq_true, if_false, Builtin.min2, Sem.run_pure, Result.andThen_ok]
    simp only [Bool.false_eq_true, if_false] at h2
    rw [← h2]
    congr 4
    by_cases hlt : n < m <;> simp [ltI, hlt]
omit hP in
theorem ok_minmax {mx : Bool} {cl : Call} {c : AC} (ho : o.op = .call cl) (hc : cl.callee = .builtin (if mx then .max else .min)) (hs : SX g ρ F s a w) (hm : absMinMax mx (cl.args.toList.map s.ev) = some c) (h : κ (s.put o.dst (.one c)) = some r) : QG P w ρ F s κ r o a := by
 unfold absMinMax at hm
 split at hm <;> try cases hm
 rename_i k m l heq
 cases hl : cl.args.toList with
 | nil => rw [hl] at heq; cases heq
 | cons x l' =>
  rw [hl] at heq
  simp only [List.map_cons, List.cons.injEq] at heq
  obtain ⟨e, rfl⟩ := heq
  have hx := hs.ev x
  rw [e] at hx
  have hv : a.eval x = .int k m := VR.CR hx (by simp)
  obtain ⟨n, rfl, h2⟩ := absMM_ok (P := P) l' hs hm
  refine qg (v := .int k n) (fun w' hw' => ?_) (VR.of_CR (c := .int k n) rfl) h
  have ha : List.map a.eval cl.args.toList = .int k m :: l'.map a.eval := by rw [hl, List.map_cons, hv]
  have h2 := h2 w'
  unfold execOp
  cases mx with
  | true =>
   simp only [if_true] at hc h2
   simp [ho, resolve, hc, invoke, builtin, Builtin.max_, ha, h2]
  | false =>
   simp only [Bool.false_eq_true, if_false] at hc h2
   simp [ho, resolve, hc, invoke, builtin, Builtin.min_, ha, h2]
end
end Go.Proofs.YtfihdjjilofklaaGreat.Am
