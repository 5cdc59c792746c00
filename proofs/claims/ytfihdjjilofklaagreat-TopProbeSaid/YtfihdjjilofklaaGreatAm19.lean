/- Loops over iterators: a round's code; blocks that the memory does not tell of; what an iterator's function does. -/
import Derived.Test.YtfihdjjilofklaaGreatAm9
import Derived.RangeFuncRecord
set_option linter.unusedVariables false
set_option linter.unusedSimpArgs false
namespace Go.Proofs.YtfihdjjilofklaaGreat.Am
open Go
section
variable {R : Type} {P : Program} {tt : Tab} {g : Beg} {ρ : Nat → Value} {F : FS} {s : St} {a : Act} {w : World} {r : R} {o : Oper}
theorem SX.at {w' : World} {D : Nat} (h : SX g ρ F s a w) (hw : w.grownBy w' (some D)) (hO : ¬ Own ρ s.mem D) (hF : ¬ F D) :
  TR w' ρ F s.mem.length s.tmps a.tmps ∧ MR w' ρ F s.mem ∧ Glob w' F ∧ Mv w w' F F := by
 have hm : Mv w w' F F := ⟨.refl F, fun b hb => hw.block b (h.mr.lt b hb) (by intro e; injection e with e; subst e; exact hF hb)⟩
 refine ⟨h.tr.mono hm (fun _ _ _ _ _ _ _ => rfl) (Nat.le_refl _), ⟨fun n q hq => ?_, h.mr.inj, h.mr.sep, fun b hf => Nat.lt_of_lt_of_le (h.mr.lt b hf) hw.size⟩, h.gb.mono hm, hm⟩
 cases hg : q with
 | gone => trivial
 | _ =>
  rw [← hg]
  have hl : live s.mem n := ⟨q, hq, by rw [hg]; simp⟩
  exact (h.mr.obj n q hq).mono hm (fun _ _ _ c _ k hk _ => rfl) (Nat.le_refl _) (fun b hb' => hw.block b (h.own_lt hl hb') (by intro e; injection e with e; subst e; exact hO ⟨n, hl, hb'⟩))
theorem Gl.other {m : List AO} {w' : World} {D : Nat} (h : Gl g w ρ F m) (hw : w.grownBy w' (some D)) (hg : g.w.heap.size ≤ D ∨ g.O D) : Gl g w' ρ F m := by
 refine ⟨hw.os.trans h.os, hw.tape.trans h.tape, hw.output.trans h.output, Nat.le_trans h.size hw.size, fun b h1 h2 => ?_, h.own, h.fro, h.froB, h.len, h.rho⟩
 rw [hw.block b (Nat.lt_of_lt_of_le h1 h.size) (by
  intro e
  injection e with e
  subst e
  rcases hg with h3 | h3
  ·omega
  ·exact h2 h3)]
 exact h.keep b h1 h2
def Free (ρ : Nat → Value) (F : FS) (m : List AO) (D : Nat) : Prop := ¬ Own ρ m D ∧ ¬ F D
theorem Gl.free {m : List AO} {D : Nat} (h : Gl g w ρ F m) (hD : D < g.w.heap.size) (hO : ¬ g.O D) (hF : ¬ g.F D) : Free ρ F m D ∧ w.heap[D]? = g.w.heap[D]? := by
 refine ⟨⟨fun ho => ?_, fun hf => ?_⟩, h.keep D hD hO⟩
 ·rcases h.own D ho with k | k
  ·exact hO k
  ·omega
 ·rcases h.froB D hf with k | k | k
  ·exact hF k
  ·exact hO k
  ·omega
theorem Gl.mv {m : List AO} (h : Gl g w ρ F m) (hF : ∀ b, g.F b → b < g.w.heap.size ∧ ¬ g.O b) : Mv g.w w g.F F :=
 ⟨h.fro, fun b hb => h.keep b (hF b hb).1 (hF b hb).2⟩
theorem grown_put (W : World) (l : Nat) (o : Obj) : W.grownBy (W.putObj l o) (some l) :=
 ⟨rfl, rfl, rfl, by simp, fun k _ hk => World.putObj_heap_other (fun e => hk (by rw [e]))⟩
theorem SX.anew (h : SX g ρ F s a w) (m0 : List AO) (ds : List Deferred) (hl : m0.length ≤ s.mem.length) : SX ⟨w, ρ, F, m0, ds, Own ρ s.mem⟩ ρ F s { a with defers := ds } w :=
 ⟨h.tr, h.mr, Gl.refl _ _ _ _ _ hl, rfl, h.gb⟩
theorem SX.notF (h : SX g ρ F s a w) {b : Nat} (hb : F b) : b < w.heap.size ∧ ¬ Own ρ s.mem b :=
 ⟨h.mr.lt b hb, fun ⟨n, hn, e⟩ => h.mr.sep n b hn e hb⟩
theorem SX.notF' {w2 : World} (h : SX g ρ F s a w) (hz : w2.heap.size = w.heap.size) {b : Nat} (hb : F b) : b < w2.heap.size ∧ ¬ Own ρ s.mem b :=
 ⟨by rw [hz]; exact (h.notF hb).1, (h.notF hb).2⟩
theorem wpIn_of_wp {l n : Nat} {K : Act → World → Prop} {Q : Exit → Act → World → Prop} (hd : ∀ c, o.op ≠ .defer c) (h : o.wp P a w K Q) : o.wpIn (Fence.wide.inRound l) n P a w K Q := by
 have hdep : (Fence.wide.inRound l).depth.isSome = true → 1 ≤ n := fun h => by cases h
 refine ⟨fun _ _ => trivial, ?_⟩
 rw [show (Fence.wide.inRound l).round = some l from rfl, Oper.semAt_eq _ _ _ hd]
 unfold Oper.wp at h
 revert h
 generalize (execOp a.eval o).run P w = q
 intro h
 unfold Oper.upon at h
 unfold Oper.uponIn
 split at h
 ·exact h
 ·exact h
 ·exact h
 ·exact ⟨hdep, callsIn_wide.2 h⟩
 ·exact ⟨hdep, fun c cs _ => let ⟨v, w', r, s⟩ := h c cs; ⟨v, w', r, stepsIn_wide.2 s⟩⟩
 ·exact h
 ·exact h.elim
theorem absOps_okIn (hP : TabOk P tt) {Γ : GamF} {pu : Prop} (hG : GamFOk P pu Γ) {κ : St → Option R} {l n : Nat} {ops : Array Oper} {Q : Exit → Act → World → Prop} : ∀ (ol : List Oper) {s : St} {a : Act} {w : World}, absOps tt Γ ops ol s κ = some r → SR g s a w →
  (∀ s' a' w', κ s' = some r → SR g s' a' w' → Q .normal a' w') → wpListIn (Fence.wide.inRound l) n P ops Q ol a w
 | [], s, a, w, h, hs, hQ => hQ _ _ _ h hs
 | o :: rest, s, a, w, h, hs, hQ => by
  have exec : ∀ {s : St}, absOp tt Γ s o (fun s' => absOps tt Γ ops rest s' κ) = some r → SR g s a w → Region.wanted o (yielded ops a.tmps) = true → wpListIn (Fence.wide.inRound l) n P ops Q (o :: rest) a w := by
   intro s h hs hw
   unfold wpListIn
   rw [if_pos hw]
   exact wpIn_of_wp (fun c hc => by simp [absOp, hc] at h) (absOp_ok hP hG hs h _ Q fun s' a' w' h' hs' _ _ => absOps_okIn hP hG rest h' hs' hQ)
  have skip : ∀ {s : St}, absOps tt Γ ops rest (s.put o.dst (.tup [])) κ = some r → SR g s a w → Region.wanted o (yielded ops a.tmps) = false → wpListIn (Fence.wide.inRound l) n P ops Q (o :: rest) a w := by
   intro s h hs hw
   unfold wpListIn
   rw [if_neg (by rw [hw]; simp)]
   obtain ⟨ρ, F, hs⟩ := hs
   exact ⟨fun _ _ => trivial, absOps_okIn hP hG rest h ⟨ρ, F, hs.put o.dst VR_undef⟩ hQ⟩
  unfold absOps at h
  rw [frc_eq] at h
  split at h
  ·rename_i hg
   exact exec h hs (by unfold Region.wanted; rw [hg])
  ·rename_i j want hg
   split at h <;> try cases h
   rename_i d hd
   split at h
   ·rename_i b hb
    obtain ⟨ρ, F, hs⟩ := hs
    obtain ⟨v, hv, hvr⟩ := hs.slot hb
    have hvb : v = .bool b := VR.CR hvr (by simp)
    subst hvb
    have hgd := guard_bool (o := o) (a := a) (ops := ops) hd hg hv
    have tell : SX g ρ F (s.put (some d) (.one (.bool b))) a w := hs.tell d _ fun u hu => by rw [hv] at hu; cases hu; exact rfl
    cases want <;> cases b <;> simp only [cond_true, cond_false] at h
    ·exact exec h ⟨ρ, F, tell⟩ (by rw [hgd]; rfl)
    ·exact skip h ⟨ρ, F, tell⟩ (by rw [hgd]; rfl)
    ·exact skip h ⟨ρ, F, tell⟩ (by rw [hgd]; rfl)
    ·exact exec h ⟨ρ, F, tell⟩ (by rw [hgd]; rfl)
   ·rename_i hb
    obtain ⟨ρ, F, hs⟩ := hs
    obtain ⟨v, hv, hvr⟩ := hs.slot hb
    obtain ⟨vs, rfl, _⟩ := hvr
    exact skip h ⟨ρ, F, hs⟩ (guard_undef hd hg hv)
   ·cases h
def BX.toExit : BX → Exit
 | .nor => .normal
 | .ret => .ret
 | .exit j => .exit j
theorem evalB_ok (hP : TabOk P tt) {Γ : Gam} (hG : GamFOk P False Γ.c) {l n : Nat} : ∀ (c : Code) {s : St} {a : Act} {w : World} {κ : BX → St → Option R}, evalB tt Γ c s κ = some r → SR g s a w →
  c.wpIn (Fence.wide.inRound l) n P (fun e a' w' => ∃ e' s', e = e'.toExit ∧ κ e' s' = some r ∧ SR g s' a' w') a w
 | .skip, s, a, w, κ, h, hs => wpIn_skip ⟨.nor, s, rfl, h, hs⟩
 | .exit j, s, a, w, κ, h, hs => wpIn_exit ⟨.exit j, s, rfl, h, hs⟩
 | .ret, s, a, w, κ, h, hs => wpIn_ret ⟨.ret, s, rfl, h, hs⟩
 | .seq x y, s, a, w, κ, h, hs => by
  simp only [evalB] at h
  refine wpIn_seq (wpIn_mono (evalB_ok hP hG x h hs) fun e a' w' he => ?_)
  obtain ⟨e', s', rfl, hk, hs'⟩ := he
  cases e' with
  | nor => exact evalB_ok hP hG y hk hs'
  | ret => exact ⟨.ret, s', rfl, hk, hs'⟩
  | exit j => exact ⟨.exit j, s', rfl, hk, hs'⟩
 | .cond c x y, s, a, w, κ, h, hs => by
  simp only [evalB] at h
  split at h <;> try cases h
  rename_i t ht
  have hc : a.eval c = .bool t := by
   obtain ⟨ρ, F, hs⟩ := hs
   have := hs.ev c
   rw [ht] at this
   exact VR.CR this (by simp)
  refine wpIn_cond hc ?_
  cases t with
  | true => exact evalB_ok hP hG x h hs
  | false => exact evalB_ok hP hG y h hs
 | .block id c, s, a, w, κ, h, hs => by
  simp only [evalB] at h
  refine wpIn_block (wpIn_mono (evalB_ok hP hG c h hs) fun e a' w' he => ?_)
  obtain ⟨e', s', rfl, hk, hs'⟩ := he
  cases e' with
  | nor => exact ⟨.nor, s', rfl, hk, hs'⟩
  | ret => exact ⟨.ret, s', rfl, hk, hs'⟩
  | exit j =>
   simp only at hk
   cases hj : Nat.beq j id with
   | true =>
    rw [hj] at hk
    have := Nat.eq_of_beq_eq_true hj
    subst this
    simp only [Exit.inBlock, BX.toExit, if_true]
    exact ⟨.nor, s', rfl, hk, hs'⟩
   | false =>
    rw [hj] at hk
    have hne : j ≠ id := fun e => by subst e; rw [Nat.beq_refl] at hj; cases hj
    simp only [Exit.inBlock, BX.toExit, if_neg hne]
    exact ⟨.exit j, s', rfl, hk, hs'⟩
 | .region id ops false, s, a, w, κ, h, hs => by
  simp only [evalB] at h
  rw [stK_eq] at h
  exact wpIn_region_list (absOps_okIn hP hG ops.toList h hs fun s' a' w' h' hs' => ⟨.nor, s', rfl, h', hs'⟩)
 | .region id ops true, s, a, w, κ, h, hs => by simp [evalB] at h
 | .loop _, s, a, w, κ, h, hs => by simp [evalB] at h
 | .rangeFunc _ _ _ _, s, a, w, κ, h, hs => by simp [evalB] at h
 | .scope _, s, a, w, κ, h, hs => by simp [evalB] at h
 | .label _, s, a, w, κ, h, hs => by simp [evalB] at h
 | .goto _, s, a, w, κ, h, hs => by simp [evalB] at h
 | .refuse _, s, a, w, κ, h, hs => by simp [evalB] at h
def boxed (W : World) (B T : Nat) (k : IntKind) (b : Int) : Prop := W.heap[B]? = some (.cells #[.int k b] T (0, 0))
def RoundTo (P : Program) (l : Nat) (args : Array Value) (W : World) (R : Ending → World → Prop) : Prop :=
 ∃ fn tmps asg body, (Instr.yield l args).run P W = .ok (.round l fn tmps asg body) W ∧ ∀ n, RoundIn Fence.wide n P l fn tmps asg body W R
def ItOk (P : Program) (f : Nat) (it : Iter) : Prop :=
 (∃ fn, P.funcs[f]? = some fn ∧ (fn.name == "runtime.NumGoroutine") = false ∧ fn.body.isSome = true) ∧
 ∀ (l B T m : Nat) (b : Int) (W : World) (J : Nat → Int → Int → World → Prop) (Jd Jx : World → Prop),
  (∀ m b n W W', J m b n W → W.grownBy W' (some B) → J m b n W') →
  (∀ W W', Jd W → W.grownBy W' (some B) → Jd W') →
  (∀ m b n W, J m b n W → ∃ F, Glob W F ∧ (∀ x, F x → x < W.heap.size) ∧ ¬ F B) →
  (∀ m b n W, J m b n W → boxed W B T it.kb b → it.pre b n = true → Jd W) →
  (∀ m b n W, J m b n W → boxed W B T it.kb b → it.pre b n = false → ∃ x, it.val b n = some x ∧ RoundTo P l #[.int it.kx x] W fun e W' =>
   (e = .returned (.bool true) ∧ boxed W' B T it.kb b ∧ ((it.post b n = true ∧ Jd W') ∨ (it.post b n = false ∧ ∃ m', m' < m ∧ J m' (it.nb b n) (it.nl b n) W'))) ∨ (e = .returned (.bool false) ∧ Jx W')) →
  J m b it.l0 W → boxed W B T it.kb b →
  Calls P f #[.func (.yield l) #[] #[], .pointer (some ⟨B, 0, none⟩)] W fun e W' => (∃ v, e = .returned v) ∧ (Jd W' ∨ Jx W')
end
end Go.Proofs.YtfihdjjilofklaaGreat.Am
