/- Functions of typed data and typed memory: what they compute, and what a call of them does. -/
import Derived.Test.YtbnpbnghpbgjiaaDoorAm11
set_option linter.unusedVariables false
set_option linter.unusedSimpArgs false
namespace Go.Proofs.YtbnpbnghpbgjiaaDoor.Am
open Go

/-- the kind of a parameter: data (a struct or an array, or not), lent to be read; a pointer, lent to be read; one cell of one's own (handed over, or lent to be changed); one known function -/
inductive MK where
  | d (agg : Bool) (t : Ty)
  | r (t : Ty)
  | o (h : HT) (lent : Bool)
  | f (n : Nat)
def argH : List MK → HT
  | [] => .unit
  | .d _ t :: l => .prod (.d t) (argH l)
  | .r t :: l => .prod (.d t) (argH l)
  | .o h _ :: l => .prod h (argH l)
  | .f _ :: l => argH l
def ownH : List MK → HT
  | [] => .unit
  | .d _ _ :: l => ownH l
  | .r _ :: l => ownH l
  | .o h _ :: l => .prod h (ownH l)
  | .f _ :: l => ownH l
def datT : List MK → Ty
  | [] => .unit
  | .d _ t :: l => .prod t (datT l)
  | .r t :: l => .prod t (datT l)
  | .o _ _ :: l => datT l
  | .f _ :: l => datT l
def outH : List MK → HT
  | [] => .unit
  | .d _ _ :: l => outH l
  | .r _ :: l => outH l
  | .o h true :: l => .prod h (outH l)
  | .o _ false :: l => outH l
  | .f _ :: l => outH l
def merge : (ks : List MK) → (ownH ks).den → (datT ks).den → (argH ks).den
  | [], _, _ => ()
  | .d _ _ :: l, o, d => (d.1, merge l o d.2)
  | .r _ :: l, o, d => (d.1, merge l o d.2)
  | .o _ _ :: l, o, d => (o.1, merge l o.2 d)
  | .f _ :: l, o, d => merge l o d
/-- what owned parameters may be: one cell, without pointers that may be nil -/
def okArgs : List MK → Bool
  | [] => true
  | .d _ _ :: l => okArgs l
  | .r _ :: l => okArgs l
  | .o h _ :: l => Nat.beq h.size 1 && okArgs l
  | .f _ :: l => okArgs l
def noO : List MK → Bool
  | [] => true
  | .o _ _ :: _ => false
  | _ :: l => noO l

structure DFn where
  args : List MK
  res : List (Bool × HT)
  B : Type
  f : (argH args).den → Option B
  mkB : (prodU (res.map (·.2))).den → (outH args).den → B
  rs : B → (prodU (res.map (·.2))).den
  os : B → (outH args).den
structure DFn.Fit (D : DFn) : Prop where
  rs : ∀ r o, D.rs (D.mkB r o) = r
  os : ∀ r o, D.os (D.mkB r o) = o
  args : okArgs D.args = true

def shapeH (l : List (Bool × HT)) : List (Bool × Nat) := l.map fun p => (p.1, p.2.size)

/-- the values behind a list of parameters; a pointer that is lent to be read stands for the cells that it leads to -/
inductive Vals (w : World) (F : Nat → Prop) : List MK → List Value → List Value → Prop
  | nil : Vals w F [] [] []
  | agg {t : Ty} {ks : List MK} {vs : Array Value} {us r : List Value} : vs.size = t.size → Vals w F ks us r → Vals w F (.d true t :: ks) (.agg vs :: us) (vs.toList ++ r)
  | one {t : Ty} {ks : List MK} {v : Value} {us r : List Value} : 1 = t.size → Vals w F ks us r → Vals w F (.d false t :: ks) (v :: us) (v :: r)
  | ref {t : Ty} {ks : List MK} {ad : Addr} {cs : List Value} {us r : List Value} : cs.length = t.size → F ad.block → cellsAt w ad cs → Vals w F ks us r → Vals w F (.r t :: ks) (.pointer (some ad) :: us) (cs ++ r)
  | own {h : HT} {b : Bool} {ks : List MK} {v : Value} {us r : List Value} : Vals w F ks us r → Vals w F (.o h b :: ks) (v :: us) (v :: r)
  | fn {n : Nat} {ks : List MK} {us r : List Value} : Vals w F ks us r → Vals w F (.f n :: ks) (.func (.func n) #[] #[] :: us) r
theorem Vals.mono {w : World} {F F' : Nat → Prop} (hF : ∀ b, F b → F' b) {ks : List MK} {vs us : List Value} (h : Vals w F ks vs us) : Vals w F' ks vs us := by
  induction h with
  | nil => exact .nil
  | agg h1 _ ih => exact .agg h1 ih
  | one h1 _ ih => exact .one h1 ih
  | ref h1 h2 h3 _ ih => exact .ref h1 (hF _ h2) h3 ih
  | own _ ih => exact .own ih
  | fn _ ih => exact .fn ih
/-- .. told apart: what is owned, what is data -/
inductive Mix : List MK → List Value → List Value → List Value → Prop
  | nil : Mix [] [] [] []
  | d {b : Bool} {t : Ty} {ks : List MK} {l vs os ds : List Value} : l.length = t.size → Mix ks vs os ds → Mix (.d b t :: ks) (l ++ vs) os (l ++ ds)
  | r {t : Ty} {ks : List MK} {l vs os ds : List Value} : l.length = t.size → Mix ks vs os ds → Mix (.r t :: ks) (l ++ vs) os (l ++ ds)
  | o {h : HT} {b : Bool} {ks : List MK} {v : Value} {vs os ds : List Value} : Mix ks vs os ds → Mix (.o h b :: ks) (v :: vs) (v :: os) ds
  | f {n : Nat} {ks : List MK} {vs os ds : List Value} : Mix ks vs os ds → Mix (.f n :: ks) vs os ds
/-- the cells of what was lent to be changed -/
def lentOf {α : Type} : List MK → List α → List α
  | [], _ => []
  | .d _ t :: ks, l => lentOf ks (l.drop t.size)
  | .r t :: ks, l => lentOf ks (l.drop t.size)
  | .o _ true :: ks, l => l.take 1 ++ lentOf ks (l.drop 1)
  | .o _ false :: ks, l => lentOf ks (l.drop 1)
  | .f _ :: ks, l => lentOf ks l
def lentO {α : Type} : List MK → List α → List α
  | [], _ => []
  | .d _ _ :: ks, l => lentO ks l
  | .r _ :: ks, l => lentO ks l
  | .o _ true :: ks, l => l.take 1 ++ lentO ks (l.drop 1)
  | .o _ false :: ks, l => lentO ks (l.drop 1)
  | .f _ :: ks, l => lentO ks l

/-- what a call has made of the world and of what was handed to it -/
structure Turn (w : World) (F : Nat → Prop) (us : List Value) (w' : World) (F' : Nat → Prop) (us' : List Value) : Prop where
  os : w'.os = w.os
  tape : w'.tape = w.tape
  output : w'.output = w.output
  size : w.heap.size ≤ w'.heap.size
  keep : ∀ b, b < w.heap.size → (∀ u ∈ us, blk u ≠ some b) → w'.heap[b]? = w.heap[b]?
  fro : ∀ b, F b → F' b
  froB : ∀ b, F' b → F b ∨ (∃ u ∈ us, blk u = some b) ∨ w.heap.size ≤ b
  own : ∀ u ∈ us', ∀ b, blk u = some b → (∃ v ∈ us, blk v = some b) ∨ w.heap.size ≤ b

/-- a function of the program computes this -/
def FnOk (P : Program) (f : Nat) (D : DFn) : Prop :=
  (∃ fn, P.funcs[f]? = some fn ∧ (fn.name == "runtime.NumGoroutine") = false ∧ fn.body.isSome = true) ∧
  ∀ (w : World) (F : Nat → Prop) (vals : Array Value) (vs us : List Value) (x : (argH D.args).den) (y : D.B), Bag w (fun _ => .nilFunc) F [] us → Vals w F D.args vals.toList vs → HR w F (argH D.args) x vs us → D.f x = some y → Glob w F →
    Calls P f vals w fun e w' => ∃ u F' rvs u1 u2, e = .returned u ∧ ValS (shapeH D.res) u rvs ∧ HR w' F' (prodU (D.res.map (·.2))) (D.rs y) rvs u1 ∧ HR w' F' (outH D.args) (D.os y) (lentOf D.args vs) u2 ∧ Bag w' (fun _ => .nilFunc) F' [] (u1 ++ u2) ∧ Turn w F us w' F' (u1 ++ u2)

/-! ### the side of the function: it is evaluated -/
def encCells : List MK → List AC → List AV
  | [], _ => []
  | .d true t :: ks, l => .agg (l.take t.size) :: encCells ks (l.drop t.size)
  | .d false t :: ks, l => (match l.take t.size with
    | [c] => .one c
    | _ => .one .any) :: encCells ks (l.drop t.size)
  | .r t :: ks, l => (match unflatAll t (l.take t.size) with
    | some x => .one (.fp t x 0)
    | none => .one .any) :: encCells ks (l.drop t.size)
  | .o _ _ :: ks, l => (match l.take 1 with
    | [c] => .one c
    | _ => .one .any) :: encCells ks (l.drop 1)
  | .f n :: ks, l => .one (.fn n) :: encCells ks l
def encArgs (ks : List MK) (x : (argH ks).den) : List AV := encCells ks (enc (argH ks) x 0).1
def encMem (ks : List MK) (x : (argH ks).den) : List AO := (enc (argH ks) x 0).2
def encLent (ks : List MK) (x : (argH ks).den) : List AC := lentOf ks (enc (argH ks) x 0).1
def decRes (D : DFn) (lc : List AC) (x : AV) (m : List AO) : Option D.B :=
  if notSingle x && sameShape x.shape (shapeH D.res) && x.flatCells.all (fun c => !isAny c) then
    match hdec (prodU (D.res.map (·.2))) x.flatCells m with
    | some (r, [], m1) => match hdec (outH D.args) lc m1 with
      | some (o, [], _) => some (D.mkB r o)
      | _ => none
    | _ => none
  else none
def DOk (P : Program) (tt : Tab) (f : Nat) (D : DFn) : Prop :=
  ∃ fn, P.funcs[f]? = some fn ∧ (fn.name == "runtime.NumGoroutine") = false ∧ fn.body.isSome = true ∧
    ∀ x y, D.f x = some y → ∃ (Γ : Gam) (A : Nat → Option LoopAnn) (n : Nat), GamOk P Γ ∧ absFn tt Γ A n fn (encArgs D.args x) (encMem D.args x) (decRes D (encLent D.args x)) = some y

theorem lentOf_F2 {α β : Type} {R : α → β → Prop} : ∀ (ks : List MK) {l : List α} {r : List β}, F2 R l r → F2 R (lentOf ks l) (lentOf ks r)
  | [], _, _, _ => .nil
  | .d _ t :: ks, l, r, h => lentOf_F2 ks (F2.drop h t.size)
  | .r t :: ks, l, r, h => lentOf_F2 ks (F2.drop h t.size)
  | .o _ true :: ks, l, r, h => F2.append (F2.take h 1) (lentOf_F2 ks (F2.drop h 1))
  | .o _ false :: ks, l, r, h => lentOf_F2 ks (F2.drop h 1)
  | .f _ :: ks, l, r, h => lentOf_F2 ks h

theorem encCells_ok {w : World} {ρ : Nat → Value} {F : Nat → Prop} {N : Nat} {ks : List MK} {us vs : List Value} (h : Vals w F ks us vs) : ∀ {l : List AC}, CRs w ρ F N l vs → F2 (VR w ρ F N) (encCells ks l) us := by
  induction h with
  | nil => intro l _; exact .nil
  | @agg t ks vs us r hs _ ih =>
    intro l hl
    refine .cons ⟨vs, rfl, ?_⟩ (ih ?_)
    · have := F2.take hl t.size
      have e : (vs.toList ++ r).take t.size = vs.toList := by
        have h := takeA vs.toList r 0
        rw [Nat.add_zero, Array.length_toList, hs] at h
        simpa using h
      rwa [e] at this
    · have := F2.drop hl t.size
      have e : (vs.toList ++ r).drop t.size = r := by
        have h := dropA vs.toList r 0
        rw [Nat.add_zero, Array.length_toList, hs] at h
        simpa using h
      rwa [e] at this
  | @one t ks v us r hs _ ih =>
    intro l hl
    cases hl with
    | @cons c _ l' _ h1 h2 =>
      refine .cons ?_ (ih ?_)
      · rw [← hs]
        exact VR.of_CR h1
      · show CRs w ρ F N ((c :: l').drop t.size) _
        rw [← hs]
        exact h2
  | @ref t ks ad cs us r hs hF hc _ ih =>
    intro l hl
    refine .cons ?_ (ih ?_)
    · have hx := F2.take hl t.size
      have e : (cs ++ r).take t.size = cs := by
        have h := takeA cs r 0
        rw [Nat.add_zero, hs] at h
        simpa using h
      rw [e] at hx
      cases hu : unflatAll t (l.take t.size) with
      | none => exact VR.of_CR (c := .any) rfl
      | some x => exact VR.of_CR (c := .fp t x 0) ⟨ad, cs, rfl, hF, unflatAll_ok t hu hx, hc⟩
    · have := F2.drop hl t.size
      have e : (cs ++ r).drop t.size = r := by
        have h := dropA cs r 0
        rw [Nat.add_zero, hs] at h
        simpa using h
      rwa [e] at this
  | @own h b ks v us r _ ih =>
    intro l hl
    cases hl with
    | @cons c _ l' _ h1 h2 => exact .cons (VR.of_CR h1) (ih h2)
  | @fn n ks us r _ ih =>
    intro l hl
    exact .cons (VR.of_CR (c := .fn n) rfl) (ih hl)

/-- what a function leaves, read as typed data -/
theorem core_tail {D : DFn} (hfit : D.Fit) {w w' : World} {F F' : Nat → Prop} {vs us : List Value} {ρ1 ρ' : Nat → Value} {m m' : List AO} {lc : List AC} {x' : AV} {u : Value}
    (hb : Bag w ρ1 F m []) (hlc : CRs w ρ1 F m.length lc (lentOf D.args vs)) (hown : ∀ b, Own ρ1 m b → ∃ u ∈ us, blk u = some b) {y : D.B}
    (h1 : decRes D lc x' m' = some y) (h2 : VR w' ρ' F' m'.length x' u) (h3 : MR w' ρ' F' m') (h4 : Gl ⟨w, ρ1, F, m, [], Own ρ1 m⟩ w' ρ' F' m') :
    ∃ u0 F' rvs u1 u2, Ending.returned u = .returned u0 ∧ ValS (shapeH D.res) u0 rvs ∧ HR w' F' (prodU (D.res.map (·.2))) (D.rs y) rvs u1 ∧ HR w' F' (outH D.args) (D.os y) (lentOf D.args vs) u2 ∧ Bag w' (fun _ => .nilFunc) F' [] (u1 ++ u2) ∧ Turn w F us w' F' (u1 ++ u2) := by
  unfold decRes at h1
  split at h1 <;> try cases h1
  rename_i hsh
  simp only [Bool.and_eq_true] at hsh
  obtain ⟨⟨hns, hsh⟩, hna⟩ := hsh
  obtain ⟨rvs, hVS, hCR⟩ := shape_vals h2 hns hsh hna
  split at h1 <;> try cases h1
  rename_i r m1 hd1
  split at h1 <;> cases h1
  rename_i o m2 hd2
  have hb0 : Bag w' ρ' F' m' [] := ⟨h3, .nil, fun u hu => (by cases hu), fun n u b _ hu => (by cases hu), fun u hu => (by cases hu)⟩
  obtain ⟨v1, v2, u1, rfl, g1, g2, g3, g4, g5, g6⟩ := hdec_ok _ hd1 hb0 hCR
  cases g1
  rw [List.append_nil] at hVS
  have hmv : Mv w w' F F' := ⟨h4.fro, fun b hb' => h4.keep b (hb.mr.lt b hb') (fun ⟨n, hn, e⟩ => hb.mr.sep n b hn e hb')⟩
  have hlc' : CRs w' ρ' F' m1.length lc (lentOf D.args vs) := CRs.mono hmv (fun c _ n hn _ => h4.rho n hn) (by rw [g4]; exact h4.len) hlc
  obtain ⟨w1, w2, u2, e1, k1, k2, k3, k4, k5, k6⟩ := hdec_ok _ hd2 g3 hlc'
  cases k1
  rw [List.append_nil] at e1
  subst e1
  simp only [List.nil_append] at k3
  refine ⟨u, F', _, u1, u2, rfl, hVS, by rw [hfit.rs]; exact g2, by rw [hfit.os]; exact k2, k3.none _, ⟨h4.os, h4.tape, h4.output, h4.size, fun b hb' hk => h4.keep b hb' (fun ho => ?_), h4.fro, fun b hb' => ?_, fun v hv b hb' => ?_⟩⟩
  · obtain ⟨v, hv, hv2⟩ := hown b ho
    exact hk v hv hv2
  · rcases h4.froB b hb' with h | h | h
    · exact .inl h
    · exact .inr (.inl (hown b h))
    · exact .inr (.inr h)
  · have hO : Own ρ' m' b := by
      rcases List.mem_append.1 hv with hv | hv
      · exact g6 v hv b hb'
      · exact g5 b (k6 v hv b hb')
    rcases h4.own b hO with h | h
    · exact .inl (hown b h)
    · exact .inr h

section
variable {P : Program} {tt : Tab} (hP : TabOk P tt) (hmix : P.follows .mixedOrders = true)

include hP hmix
/-- the evaluation from given arguments and memory, whatever their names -/
theorem FnOk_core {f : Nat} {D : DFn} {fn : Func} (hf : P.funcs[f]? = some fn) (hfit : D.Fit) {w : World} {F : Nat → Prop} {vals : Array Value} {vs us : List Value} {ρ1 : Nat → Value} {m : List AO} {args : List AV} {lc : List AC}
    (hb : Bag w ρ1 F m []) (hav : F2 (VR w ρ1 F m.length) args vals.toList) (hlc : CRs w ρ1 F m.length lc (lentOf D.args vs)) (hown : ∀ b, Own ρ1 m b → ∃ u ∈ us, blk u = some b) {y : D.B}
    {Γ : Gam} {A : Nat → Option LoopAnn} {n : Nat} (hG : GamOk P Γ) (hgb : Glob w F) (hab : absFn tt Γ A n fn args m (decRes D lc) = some y) :
    Calls P f vals w fun e w' => ∃ u F' rvs u1 u2, e = .returned u ∧ ValS (shapeH D.res) u rvs ∧ HR w' F' (prodU (D.res.map (·.2))) (D.rs y) rvs u1 ∧ HR w' F' (outH D.args) (D.os y) (lentOf D.args vs) u2 ∧ Bag w' (fun _ => .nilFunc) F' [] (u1 ++ u2) ∧ Turn w F us w' F' (u1 ++ u2) := by
  refine (absFn_ok hP hG hmix hf hab w ρ1 F vals hav hb.mr hgb).mono fun e w' he => ?_
  obtain ⟨u, ρ', F', x', m', rfl, h1, h2, h3, h4⟩ := he
  exact core_tail hfit hb hlc hown h1 h2 h3 h4

theorem FnOk_of {f : Nat} {D : DFn} (hD : DOk P tt f D) (hfit : D.Fit) : FnOk P f D := by
  obtain ⟨fn, hf, hname, hbody, hD⟩ := hD
  refine ⟨⟨fn, hf, hname, hbody⟩, fun w F vals vs us x y hb hv hx hy hgb => ?_⟩
  obtain ⟨Γ, A, n, hG, hab⟩ := hD x y hy
  obtain ⟨ρ1, q1, q2, q3, q4⟩ := enc_ok (argH D.args) (us2 := []) (m := []) hx (by rw [List.append_nil]; exact hb)
  simp only [List.nil_append, List.length_nil] at q2 q3 q4
  refine FnOk_core hP hmix hf hfit q2 (encCells_ok hv q3) (lentOf_F2 D.args q3) (fun b hb' => ?_) hG hgb hab
  rcases q4 b hb' with ⟨k, ⟨o, h, _⟩, _⟩ | h
  · simp at h
  · exact h

/-- a function of one slice, seen nil and not nil -/
def DOkN (P : Program) (tt : Tab) (f : Nat) (D : DFn) (e : Nat) (t : Ty) (h : D.args = [.d false (.slice e t)]) : Prop :=
  ∃ fn, P.funcs[f]? = some fn ∧ (fn.name == "runtime.NumGoroutine") = false ∧ fn.body.isSome = true ∧
    ∀ (x : List t.den) y, D.f (h ▸ (x, ())) = some y → ∃ (Γ : Gam) (A : Nat → Option LoopAnn) (n : Nat), GamOk P Γ ∧ (x = [] → absFn tt Γ A n fn [.one .nilS] [] (decRes D []) = some y) ∧ absFn tt Γ A n fn [.one (.frn e t x)] [] (decRes D []) = some y
theorem FnOk_ofN {f : Nat} {D : DFn} {e : Nat} {t : Ty} {h : D.args = [.d false (.slice e t)]} (hD : DOkN P tt f D e t h) (hfit : D.Fit) : FnOk P f D := by
  obtain ⟨fn, hf, hname, hbody, hD⟩ := hD
  refine ⟨⟨fn, hf, hname, hbody⟩, fun w F vals vs us x y hb hv hx hy hgb => ?_⟩
  obtain ⟨as, res, B, fd, mk, rs, os⟩ := D
  simp only at h
  subst h
  obtain ⟨xs, u⟩ := x
  have hy' : fd ((xs, ()) : List t.den × Unit) = some y := hy
  obtain ⟨Γ, A, n, hG, hab1, hab2⟩ := hD xs y hy'
  obtain ⟨v1, v2, us1, us2, rfl, rfl, g1, g2⟩ := hx
  obtain ⟨g1, rfl⟩ := g1
  obtain ⟨rfl, rfl⟩ := g2
  have hrt := g1
  obtain ⟨a, c, rfl, h1, h2⟩ := g1
  have hb0 : Bag w (fun _ => .nilFunc) F [] [] := hb
  cases hvl : vals.toList with
  | nil => rw [hvl] at hv; cases hv
  | cons v vl =>
    rw [hvl] at hv
    have hvv : v = .slice a (len (α := t.den) xs) c ∧ vl = [] := by
      have hv2 : Vals w F [.d false (.slice e t)] (v :: vl) [.slice a (len (α := t.den) xs) c] := hv
      cases hv2 with
      | one _ hr => cases hr; exact ⟨rfl, rfl⟩
    obtain ⟨rfl, rfl⟩ := hvv
    have hlc : CRs w (fun _ => .nilFunc) F ([] : List AO).length [] (lentOf [MK.d false (.slice e t)] ([.slice a (len (α := t.den) xs) c] ++ [])) := .nil
    cases a with
    | none =>
      have hz : len (α := t.den) xs = 0 := by
        rcases h2 with h2 | ⟨ad, h2, _⟩
        · exact h2
        · cases h2
      have hxs : xs = [] := List.eq_nil_of_length_eq_zero hz
      by_cases hc : c = 0
      · refine FnOk_core (vs := [.slice none (len (α := t.den) xs) c] ++ []) hP hmix hf hfit hb0 ?_ hlc (fun b hb' => by obtain ⟨k, ⟨o, h, _⟩, _⟩ := hb'; simp at h) hG hgb (hab1 hxs)
        rw [hvl]
        refine .cons ?_ .nil
        show VR _ _ _ _ (.one .nilS) _
        exact VR.of_CR (c := .nilS) (by rw [hz, hc]; rfl)
      · exact absurd (h1.2 rfl) hc
    | some ad =>
      refine FnOk_core (vs := [.slice (some ad) (len (α := t.den) xs) c] ++ []) hP hmix hf hfit hb0 ?_ hlc (fun b hb' => by obtain ⟨k, ⟨o, h, _⟩, _⟩ := hb'; simp at h) hG hgb hab2
      rw [hvl]
      refine .cons ?_ .nil
      exact VR.of_CR (c := .frn e t xs) ⟨hrt, ad, _, _, rfl⟩

end
end Go.Proofs.YtbnpbnghpbgjiaaDoor.Am
