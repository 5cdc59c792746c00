/- Functions of typed data and typed memory: what they compute, and what a call of them does. -/
import Derived.Test.YtfihdjjilofklaaGreatAm11
set_option linter.unusedVariables false
set_option linter.unusedSimpArgs false
namespace Go.Proofs.YtfihdjjilofklaaGreat.Am
open Go
inductive MK where
 | d (agg : Bool) (t : Ty)
 | r (t : Ty) (g : Option Nat := none)
 | o (h : HT) (lent : Bool)
 | f (n : Nat)
def argH : List MK → HT
 | [] => .unit
 | .d _ t :: l => .prod (.d t) (argH l)
 | .r t g :: l => .prod (.d t) (argH l)
 | .o h _ :: l => .prod h (argH l)
 | .f _ :: l => argH l
def ownH : List MK → HT
 | [] => .unit
 | .d _ _ :: l => ownH l
 | .r _ _ :: l => ownH l
 | .o h _ :: l => .prod h (ownH l)
 | .f _ :: l => ownH l
def datT : List MK → Ty
 | [] => .unit
 | .d _ t :: l => .prod t (datT l)
 | .r t g :: l => .prod t (datT l)
 | .o _ _ :: l => datT l
 | .f _ :: l => datT l
def outH : List MK → HT
 | [] => .unit
 | .d _ _ :: l => outH l
 | .r _ _ :: l => outH l
 | .o h true :: l => .prod h (outH l)
 | .o _ false :: l => outH l
 | .f _ :: l => outH l
def merge : (ks : List MK) → (ownH ks).den → (datT ks).den → (argH ks).den
 | [], _, _ => ()
 | .d _ _ :: l, o, d => (d.1, merge l o d.2)
 | .r _ _ :: l, o, d => (d.1, merge l o d.2)
 | .o _ _ :: l, o, d => (o.1, merge l o.2 d)
 | .f _ :: l, o, d => merge l o d
def okArgs : List MK → Bool
 | [] => true
 | .d _ _ :: l => okArgs l
 | .r _ _ :: l => okArgs l
 | .o h _ :: l => Nat.beq h.size 1 && okArgs l
 | .f _ :: l => okArgs l
def noO : List MK → Bool
 | [] => true
 | .o _ _ :: _ => false
 | _ :: l => noO l
structure DFn where
 args : List MK
 res : List (Bool × HT)
 B : Type
 f : (argH args).den → Option B
 mkB : (prodU (res.map (·.2))).den → (outH args).den → B
 rs : B → (prodU (res.map (·.2))).den
 os : B → (outH args).den
 kp : Option (List Nat)
def DFn.arB (D : DFn) : Bool := (argH D.args).arB
def shapeH (l : List (Bool × HT)) : List (Bool × Nat) := l.map fun p => (p.1, p.2.size)
def wrapV (g : Option Nat) (v : Value) : Value := match g with
 | Option.none => v
 | some f => .func (.func f) #[] #[v]
def fpC (g : Option Nat) (t : Ty) (x : t.den) : AC := match g with
 | Option.none => .fp t x 0
 | some f => .cfr f t x
inductive Vals (w : World) (F : FS) : List MK → List Value → List Value → Prop
 | nil : Vals w F [] [] []
 | agg {t : Ty} {ks : List MK} {vs : Array Value} {us r : List Value} : vs.size = t.size → Vals w F ks us r → Vals w F (.d true t :: ks) (.agg vs :: us) (vs.toList ++ r)
 | one {t : Ty} {ks : List MK} {v : Value} {us r : List Value} : 1 = t.size → Vals w F ks us r → Vals w F (.d false t :: ks) (v :: us) (v :: r)
 | ref {t : Ty} {g : Option Nat} {ks : List MK} {ad : Addr} {cs : List Value} {us r : List Value} : cs.length = t.size → F ad.block → cellsAt w ad cs → Vals w F ks us r → Vals w F (.r t g :: ks) (wrapV g (.pointer (some ad)) :: us) (cs ++ r)
 | own {h : HT} {b : Bool} {ks : List MK} {v : Value} {us r : List Value} : Vals w F ks us r → Vals w F (.o h b :: ks) (v :: us) (v :: r)
 | fn {n : Nat} {ks : List MK} {us r : List Value} : Vals w F ks us r → Vals w F (.f n :: ks) (.func (.func n) #[] #[] :: us) r
theorem Vals.mono {w : World} {F F' : FS} (hF : ∀ b, F b → F' b) {ks : List MK} {vs us : List Value} (h : Vals w F ks vs us) : Vals w F' ks vs us := by
 induction h with
 | nil => exact .nil
 | agg h1 _ ih => exact .agg h1 ih
 | one h1 _ ih => exact .one h1 ih
 | ref h1 h2 h3 _ ih => exact .ref h1 (hF _ h2) h3 ih
 | own _ ih => exact .own ih
 | fn _ ih => exact .fn ih
inductive Mix : List MK → List Value → List Value → List Value → Prop
 | nil : Mix [] [] [] []
 | d {b : Bool} {t : Ty} {ks : List MK} {l vs os ds : List Value} : l.length = t.size → Mix ks vs os ds → Mix (.d b t :: ks) (l ++ vs) os (l ++ ds)
 | r {t : Ty} {g : Option Nat} {ks : List MK} {l vs os ds : List Value} : l.length = t.size → Mix ks vs os ds → Mix (.r t g :: ks) (l ++ vs) os (l ++ ds)
 | o {h : HT} {b : Bool} {ks : List MK} {v : Value} {vs os ds : List Value} : Mix ks vs os ds → Mix (.o h b :: ks) (v :: vs) (v :: os) ds
 | f {n : Nat} {ks : List MK} {vs os ds : List Value} : Mix ks vs os ds → Mix (.f n :: ks) vs os ds
def lentOf {α : Type} : List MK → List α → List α
 | [], _ => []
 | .d _ t :: ks, l => lentOf ks (l.drop t.size)
 | .r t g :: ks, l => lentOf ks (l.drop t.size)
 | .o _ true :: ks, l => l.take 1 ++ lentOf ks (l.drop 1)
 | .o _ false :: ks, l => lentOf ks (l.drop 1)
 | .f _ :: ks, l => lentOf ks l
def lentO {α : Type} : List MK → List α → List α
 | [], _ => []
 | .d _ _ :: ks, l => lentO ks l
 | .r _ _ :: ks, l => lentO ks l
 | .o _ true :: ks, l => l.take 1 ++ lentO ks (l.drop 1)
 | .o _ false :: ks, l => lentO ks (l.drop 1)
 | .f _ :: ks, l => lentO ks l
def ptrV : HT → List Value → List Value
 | .ptr _ _, l => l.take 1
 | .prod a b, l => ptrV a (l.take a.size) ++ ptrV b (l.drop a.size)
 | _, _ => []
def ptrN : HT → List AC → Option (List Nat)
 | .ptr _ _, l => match l with
  | .ptr n 0 :: _ => some [n]
  | _ => none
 | .prod a b, l => match ptrN a (l.take a.size), ptrN b (l.drop a.size) with
  | some x, some y => some (x ++ y)
  | _, _ => none
 | _, _ => some []
theorem ptrN_ok {w : World} {ρ : Nat → Value} {F : FS} {N : Nat} : ∀ (h : HT) {l : List AC} {vs : List Value} {L : List Nat}, ptrN h l = some L → CRs w ρ F N l vs → ptrV h vs = L.map ρ ∧ ∀ n ∈ L, n < N
 | .ptr _ _, l, vs, L, h, hc => by
  unfold ptrN at h
  split at h <;> cases h
  cases hc with
  | cons h1 h2 =>
   obtain ⟨g1, b, g2, g3⟩ := h1
   exact ⟨by simp [ptrV, g2, g3], fun n hn => by simp at hn; subst hn; exact g1⟩
 | .prod a b, l, vs, L, h, hc => by
  unfold ptrN at h
  split at h <;> cases h
  rename_i x y h1 h2
  obtain ⟨k1, k2⟩ := ptrN_ok a h1 (F2.take hc a.size)
  obtain ⟨k3, k4⟩ := ptrN_ok b h2 (F2.drop hc a.size)
  refine ⟨by rw [ptrV, k1, k3, List.map_append], fun n hn => ?_⟩
  rcases List.mem_append.1 hn with hn | hn
  ·exact k2 n hn
  ·exact k4 n hn
 | .d _, l, vs, L, h, hc => by cases h; exact ⟨rfl, fun n hn => by cases hn⟩
 | .own _ _, l, vs, L, h, hc => by cases h; exact ⟨rfl, fun n hn => by cases hn⟩
 | .opt _ _, l, vs, L, h, hc => by cases h; exact ⟨rfl, fun n hn => by cases hn⟩
 | .unit, l, vs, L, h, hc => by cases h; exact ⟨rfl, fun n hn => by cases hn⟩
 | .mp _ _ _ _, l, vs, L, h, hc => by cases h; exact ⟨rfl, fun n hn => by cases hn⟩
 | .nd _ _ _ _, l, vs, L, h, hc => by cases h; exact ⟨rfl, fun n hn => by cases hn⟩
 | .nilS, l, vs, L, h, hc => by cases h; exact ⟨rfl, fun n hn => by cases hn⟩
 | .clo _ _ _, l, vs, L, h, hc => by cases h; exact ⟨rfl, fun n hn => by cases hn⟩
def kp1 (w : World) (h : HT) : Value → List Value
 | .pointer (some a) => match w.heap[a.block]? with
  | some (.cells cs _ _) => ptrV h cs.toList
  | _ => []
 | _ => []
def kq1 (m : List AO) (h : HT) : AC → Option (List Nat)
 | .ptr n _ => match m[n]? with
  | some (.var _ cs) => ptrN h cs
  | _ => none
 | _ => none
theorem kq1_ok {w : World} {ρ : Nat → Value} {F : FS} {m : List AO} {N : Nat} (hm : MR w ρ F m) {h : HT} {c : AC} {v : Value} {L : List Nat} (hq : kq1 m h c = some L) (hc : CR w ρ F N c v) : kp1 w h v = L.map ρ ∧ ∀ n ∈ L, n < m.length := by
 unfold kq1 at hq
 split at hq <;> try cases hq
 rename_i n off
 split at hq <;> try cases hq
 rename_i T cs hn
 obtain ⟨g1, b, g2, rfl⟩ := hc
 obtain ⟨b', vs, g3, g4, g5⟩ := hm.obj n _ hn
 rw [g2] at g3
 cases g3
 obtain ⟨k1, k2⟩ := ptrN_ok h hq g5
 exact ⟨by simp only [kp1, g4]; exact k1, k2⟩
def kpV1 (w : World) (h : HT) (l : List Value) : List Value := match h, l with
 | .ptr _ h, v :: _ => kp1 w h v
 | _, _ => []
def kpN1 (m : List AO) (h : HT) (l : List AC) : Option (List Nat) := match h, l with
 | .ptr _ h, c :: _ => kq1 m h c
 | .ptr _ _, [] => none
 | _, _ => some []
def kpV (w : World) : List MK → List Value → List Value
 | [], _ => []
 | .d _ _ :: ks, l => kpV w ks l
 | .r _ _ :: ks, l => kpV w ks l
 | .o h true :: ks, l => kpV1 w h l ++ kpV w ks (l.drop 1)
 | .o _ false :: ks, l => kpV w ks l
 | .f _ :: ks, l => kpV w ks l
def kpN (m : List AO) : List MK → List AC → Option (List Nat)
 | [], _ => some []
 | .d _ _ :: ks, l => kpN m ks l
 | .r _ _ :: ks, l => kpN m ks l
 | .o h true :: ks, l => match kpN1 m h l, kpN m ks (l.drop 1) with
  | some x, some y => some (x ++ y)
  | _, _ => none
 | .o _ false :: ks, l => kpN m ks l
 | .f _ :: ks, l => kpN m ks l
theorem kpN_ok {w : World} {ρ : Nat → Value} {F : FS} {m : List AO} {N : Nat} (hm : MR w ρ F m) : ∀ (ks : List MK) {l : List AC} {vs : List Value} {L : List Nat}, kpN m ks l = some L → CRs w ρ F N l vs → kpV w ks vs = L.map ρ ∧ ∀ n ∈ L, n < m.length
 | [], l, vs, L, h, hc => by cases h; exact ⟨rfl, fun n hn => by cases hn⟩
 | .d _ _ :: ks, l, vs, L, h, hc => kpN_ok hm ks (l := l) h hc
 | .r _ _ :: ks, l, vs, L, h, hc => kpN_ok hm ks (l := l) h hc
 | .f _ :: ks, l, vs, L, h, hc => kpN_ok hm ks (l := l) h hc
 | .o _ false :: ks, l, vs, L, h, hc => kpN_ok hm ks (l := l) h hc
 | .o h0 true :: ks, l, vs, L, h, hc => by
  unfold kpN at h
  split at h <;> cases h
  rename_i x y h1 h2
  obtain ⟨k3, k4⟩ := kpN_ok hm ks h2 (F2.drop hc 1)
  have key : kpV1 w h0 vs = x.map ρ ∧ ∀ n ∈ x, n < m.length := by
   cases h0 with
   | ptr T h =>
    cases hc with
    | nil => cases h1
    | cons g1 g2 => exact kq1_ok hm h1 g1
   | _ =>
    simp only [kpN1, Option.some.injEq] at h1
    subst h1
    exact ⟨rfl, fun n hn => by cases hn⟩
  refine ⟨by unfold kpV; rw [key.1, k3, List.map_append], fun n hn => ?_⟩
  rcases List.mem_append.1 hn with hn | hn
  ·exact key.2 n hn
  ·exact k4 n hn
def KP (D : DFn) (w w' : World) (vs : List Value) : Prop := ∀ L, D.kp = some L → kpV w' D.args (lentOf D.args vs) = kpV w D.args (lentOf D.args vs)
structure Turn (w : World) (F : FS) (us : List Value) (w' : World) (F' : FS) (us' : List Value) : Prop where
 os : w'.os = w.os
 tape : w'.tape = w.tape
 output : w'.output = w.output
 size : w.heap.size ≤ w'.heap.size
 keep : ∀ b, b < w.heap.size → (∀ u ∈ us, b ∉ blk u) → w'.heap[b]? = w.heap[b]?
 fro : F.le F'
 froB : ∀ b, F' b → F b ∨ (∃ u ∈ us, b ∈ blk u) ∨ w.heap.size ≤ b
 own : ∀ u ∈ us', ∀ b, b ∈ blk u → (∃ v ∈ us, b ∈ blk v) ∨ w.heap.size ≤ b
def FnOk (P : Program) (f : Nat) (D : DFn) : Prop :=
 (∃ fn, P.funcs[f]? = some fn ∧ (fn.name == "runtime.NumGoroutine") = false ∧ fn.body.isSome = true) ∧
 ∀ (w : World) (F : FS) (vals : Array Value) (vs us : List Value) (x : (argH D.args).den) (y : D.B), Bag w (fun _ => .nilFunc) F [] us → Vals w F D.args vals.toList vs → HR w F (argH D.args) x vs us → D.f x = some y → Glob w F →
  Calls P f vals w fun e w' => ∃ u F' rvs u1 u2, e = .returned u ∧ ValS (shapeH D.res) u rvs ∧ HR w' F' (prodU (D.res.map (·.2))) (D.rs y) rvs u1 ∧ HR w' F' (outH D.args) (D.os y) (lentOf D.args vs) u2 ∧ Bag w' (fun _ => .nilFunc) F' [] (u1 ++ u2) ∧ Turn w F us w' F' (u1 ++ u2) ∧ (D.arB = false → F.same F') ∧ KP D w w' vs
def encCells : List MK → List AC → List AV
 | [], _ => []
 | .d true t :: ks, l => .agg (l.take t.size) :: encCells ks (l.drop t.size)
 | .d false t :: ks, l => (match l.take t.size with
  | [c] => .one c
  | _ => .one .any) :: encCells ks (l.drop t.size)
 | .r t g :: ks, l => (match unflatAll t (l.take t.size) with
  | some x => .one (fpC g t x)
  | none => .one .any) :: encCells ks (l.drop t.size)
 | .o _ _ :: ks, l => (match l.take 1 with
  | [c] => .one c
  | _ => .one .any) :: encCells ks (l.drop 1)
 | .f n :: ks, l => .one (.fn n) :: encCells ks l
def encArgs (ks : List MK) (x : (argH ks).den) : List AV := encCells ks (enc (argH ks) x 0).1
def encMem (ks : List MK) (x : (argH ks).den) : List AO := (enc (argH ks) x 0).2
def encLent (ks : List MK) (x : (argH ks).den) : List AC := lentOf ks (enc (argH ks) x 0).1
def kpOk (D : DFn) (lc : List AC) (m : List AO) : Bool := match D.kp with
 | none => true
 | some L => decide (kpN m D.args lc = some L)
structure DFn.Fit (D : DFn) : Prop where
 rs : ∀ r o, D.rs (D.mkB r o) = r
 os : ∀ r o, D.os (D.mkB r o) = o
 args : okArgs D.args = true
 kp : ∀ x L, D.kp = some L → kpN (encMem D.args x) D.args (encLent D.args x) = some L
 nod : (D.arB || (!(argH D.args).nodB && !(prodU (D.res.map (·.2))).nodB)) = true
def decRes (D : DFn) (lc : List AC) (x : AV) (m : List AO) : Option D.B :=
 if kpOk D lc m && notSingle x && sameShape x.shape (shapeH D.res) && x.flatCells.all (fun c => !isAny c) then
  match hdec (prodU (D.res.map (·.2))) x.flatCells m with
  | some (r, [], m1) => match hdec (outH D.args) lc m1 with
   | some (o, [], _) => some (D.mkB r o)
   | _ => none
  | _ => none
 else none
def DOk (P : Program) (tt : Tab) (f : Nat) (D : DFn) : Prop :=
 ∃ fn, P.funcs[f]? = some fn ∧ (fn.name == "runtime.NumGoroutine") = false ∧ fn.body.isSome = true ∧
  ∀ x y, D.f x = some y → ∃ (Γ : Gam) (A : Nat → Option LoopAnn) (n : Nat), GamOk P Γ ∧ absFn tt Γ A n fn (encArgs D.args x) (encMem D.args x) (decRes D (encLent D.args x)) = some y
theorem lentOf_F2 {α β : Type} {R : α → β → Prop} : ∀ (ks : List MK) {l : List α} {r : List β}, F2 R l r → F2 R (lentOf ks l) (lentOf ks r)
 | [], _, _, _ => .nil
 | .d _ t :: ks, l, r, h => lentOf_F2 ks (F2.drop h t.size)
 | .r t g :: ks, l, r, h => lentOf_F2 ks (F2.drop h t.size)
 | .o _ true :: ks, l, r, h => F2.append (F2.take h 1) (lentOf_F2 ks (F2.drop h 1))
 | .o _ false :: ks, l, r, h => lentOf_F2 ks (F2.drop h 1)
 | .f _ :: ks, l, r, h => lentOf_F2 ks h
theorem encCells_ok {w : World} {ρ : Nat → Value} {F : FS} {N : Nat} {ks : List MK} {us vs : List Value} (h : Vals w F ks us vs) : ∀ {l : List AC}, CRs w ρ F N l vs → F2 (VR w ρ F N) (encCells ks l) us := by
 induction h with
 | nil => intro l _; exact .nil
 | @agg t ks vs us r hs _ ih =>
  intro l hl
  refine .cons ⟨vs, rfl, ?_⟩ (ih ?_)
  ·have := F2.take hl t.size
   have e : (vs.toList ++ r).take t.size = vs.toList := by
    have h := takeA vs.toList r 0
    rw [Nat.add_zero, Array.length_toList, hs] at h
    simpa using h
   rwa [e] at this
  ·have := F2.drop hl t.size
   have e : (vs.toList ++ r).drop t.size = r := by
    have h := dropA vs.toList r 0
    rw [Nat.add_zero, Array.length_toList, hs] at h
    simpa using h
   rwa [e] at this
 | @one t ks v us r hs _ ih =>
  intro l hl
  cases hl with
  | @cons c _ l' _ h1 h2 =>
   refine .cons ?_ (ih ?_)
   ·rw [← hs]
    exact VR.of_CR h1
   ·show CRs w ρ F N ((c :: l').drop t.size) _
    rw [← hs]
    exact h2
 | @ref t g ks ad cs us r hs hF hc _ ih =>
  intro l hl
  refine .cons ?_ (ih ?_)
  ·have hx := F2.take hl t.size
   have e : (cs ++ r).take t.size = cs := by
    have h := takeA cs r 0
    rw [Nat.add_zero, hs] at h
    simpa using h
   rw [e] at hx
   cases hu : unflatAll t (l.take t.size) with
   | none => exact VR.of_CR (c := .any) (by cases g <;> rfl)
   | some x =>
    cases g with
    | none => exact VR.of_CR (c := .fp t x 0) ⟨ad, cs, rfl, hF, unflatAll_ok t hu hx, hc⟩
    | some f => exact VR.of_CR (c := .cfr f t x) ⟨ad, cs, rfl, hF, unflatAll_ok t hu hx, hc⟩
  ·have := F2.drop hl t.size
   have e : (cs ++ r).drop t.size = r := by
    have h := dropA cs r 0
    rw [Nat.add_zero, hs] at h
    simpa using h
   rwa [e] at this
 | @own h b ks v us r _ ih =>
  intro l hl
  cases hl with
  | @cons c _ l' _ h1 h2 => exact .cons (VR.of_CR h1) (ih h2)
 | @fn n ks us r _ ih =>
  intro l hl
  exact .cons (VR.of_CR (c := .fn n) rfl) (ih hl)
theorem core_tail {D : DFn} (hfit : D.Fit) {w w' : World} {F F' : FS} {vs us : List Value} {ρ1 ρ' : Nat → Value} {m m' : List AO} {lc : List AC} {x' : AV} {u : Value}
  (hb : Bag w ρ1 F m []) (hlc : CRs w ρ1 F m.length lc (lentOf D.args vs)) (hown : ∀ b, Own ρ1 m b → ∃ u ∈ us, b ∈ blk u) {y : D.B}
  (hkp : ∀ L, D.kp = some L → kpN m D.args lc = some L) (h1 : decRes D lc x' m' = some y) (h2 : VR w' ρ' F' m'.length x' u) (h3 : MR w' ρ' F' m') (h4 : Gl ⟨w, ρ1, F, m, [], Own ρ1 m⟩ w' ρ' F' m') :
  ∃ u0 F' rvs u1 u2, Ending.returned u = .returned u0 ∧ ValS (shapeH D.res) u0 rvs ∧ HR w' F' (prodU (D.res.map (·.2))) (D.rs y) rvs u1 ∧ HR w' F' (outH D.args) (D.os y) (lentOf D.args vs) u2 ∧ Bag w' (fun _ => .nilFunc) F' [] (u1 ++ u2) ∧ Turn w F us w' F' (u1 ++ u2) ∧ KP D w w' vs := by
 unfold decRes at h1
 split at h1 <;> try cases h1
 rename_i hsh
 simp only [Bool.and_eq_true] at hsh
 obtain ⟨⟨⟨hkq, hns⟩, hsh⟩, hna⟩ := hsh
 obtain ⟨rvs, hVS, hCR⟩ := shape_vals h2 hns hsh hna
 split at h1 <;> try cases h1
 rename_i r m1 hd1
 split at h1 <;> cases h1
 rename_i o m2 hd2
 have hb0 : Bag w' ρ' F' m' [] := ⟨h3, .nil, fun u hu => (by cases hu), fun n u b _ hu => (by cases hu), fun u hu => (by cases hu)⟩
 obtain ⟨v1, v2, u1, rfl, g1, g2, g3, g4, g5, g6⟩ := hdec_ok _ hd1 hb0 hCR
 cases g1
 rw [List.append_nil] at hVS
 have hmv : Mv w w' F F' := ⟨h4.fro, fun b hb' => h4.keep b (hb.mr.lt b hb') (fun ⟨n, hn, e⟩ => hb.mr.sep n b hn e hb')⟩
 have hlc' : CRs w' ρ' F' m1.length lc (lentOf D.args vs) := CRs.mono hmv (fun c _ n hn _ => h4.rho n hn) (by rw [g4]; exact h4.len) hlc
 obtain ⟨w1, w2, u2, e1, k1, k2, k3, k4, k5, k6⟩ := hdec_ok _ hd2 g3 hlc'
 cases k1
 rw [List.append_nil] at e1
 subst e1
 simp only [List.nil_append] at k3
 refine ⟨u, F', _, u1, u2, rfl, hVS, by rw [hfit.rs]; exact g2, by rw [hfit.os]; exact k2, k3.none _, ⟨h4.os, h4.tape, h4.output, h4.size, fun b hb' hk => h4.keep b hb' (fun ho => ?_), h4.fro, fun b hb' => ?_, fun v hv b hb' => ?_⟩, fun L hL => ?_⟩
 ·obtain ⟨v, hv, hv2⟩ := hown b ho
  exact hk v hv hv2
 ·rcases h4.froB b hb' with h | h | h
  ·exact .inl h
  ·exact .inr (.inl (hown b h))
  ·exact .inr (.inr h)
 ·have hO : Own ρ' m' b := by
   rcases List.mem_append.1 hv with hv | hv
   ·exact g6 v hv b hb'
   ·exact g5 b (k6 v hv b hb')
  rcases h4.own b hO with h | h
  ·exact .inl (hown b h)
  ·exact .inr h
 ·obtain ⟨q1, q2⟩ := kpN_ok hb.mr D.args (hkp L hL) hlc
  unfold kpOk at hkq
  rw [hL] at hkq
  obtain ⟨q3, _⟩ := kpN_ok h3 D.args (of_decide_eq_true hkq) hlc'
  rw [q1, q3]
  exact List.map_congr_left fun n hn => h4.rho n (q2 n hn)
def FS.none (F : FS) : FS := ⟨F.p, [], fun _ _ => Option.none⟩
theorem outH_nodB : ∀ (ks : List MK), (argH ks).nodB = false → (outH ks).nodB = false
 | [], h => h
 | .d _ _ :: ks, h => outH_nodB ks (by simp only [argH, HT.nodB, Bool.or_eq_false_iff] at h; exact h.2)
 | .r _ _ :: ks, h => outH_nodB ks (by simp only [argH, HT.nodB, Bool.or_eq_false_iff] at h; exact h.2)
 | .o h0 true :: ks, h => by
  simp only [argH, HT.nodB, Bool.or_eq_false_iff] at h
  simp only [outH, HT.nodB, Bool.or_eq_false_iff]
  exact ⟨h.1, outH_nodB ks h.2⟩
 | .o _ false :: ks, h => outH_nodB ks (by simp only [argH, HT.nodB, Bool.or_eq_false_iff] at h; exact h.2)
 | .f _ :: ks, h => outH_nodB ks h
theorem Vals.p {w : World} {F F' : FS} (hF : ∀ b, F b → F' b) {ks : List MK} {vs us : List Value} (h : Vals w F ks vs us) : Vals w F' ks vs us := h.mono hF
theorem Glob.none {w : World} {F : FS} (h : Glob w F) : Glob w F.none := fun i p hp =>
 let ⟨h0, h1, vs, h2, h3⟩ := h i p hp
 ⟨h0, h1, vs, RT.nu (F := F) (F' := F.none) (fun _ h => h) _ h0 h2, h3⟩
theorem FnOk.scope {P : Program} {f : Nat} {D : DFn} (hfit : D.Fit) (h1 : ∃ fn, P.funcs[f]? = some fn ∧ (fn.name == "runtime.NumGoroutine") = false ∧ fn.body.isSome = true)
  (h2 : ∀ (w : World) (F : FS) (vals : Array Value) (vs us : List Value) (x : (argH D.args).den) (y : D.B), (D.arB = false → F.nu = [] ∧ F.ka = fun _ _ => Option.none) → Bag w (fun _ => .nilFunc) F [] us → Vals w F D.args vals.toList vs → HR w F (argH D.args) x vs us → D.f x = some y → Glob w F →
   Calls P f vals w fun e w' => ∃ u F' rvs u1 u2, e = .returned u ∧ ValS (shapeH D.res) u rvs ∧ HR w' F' (prodU (D.res.map (·.2))) (D.rs y) rvs u1 ∧ HR w' F' (outH D.args) (D.os y) (lentOf D.args vs) u2 ∧ Bag w' (fun _ => .nilFunc) F' [] (u1 ++ u2) ∧ Turn w F us w' F' (u1 ++ u2) ∧ KP D w w' vs) : FnOk P f D := by
 refine ⟨h1, fun w F vals vs us x y hb hv hx hy hgb => ?_⟩
 cases har : D.arB with
 | true =>
  refine (h2 w F vals vs us x y (fun h => by rw [har] at h; cases h) hb hv hx hy hgb).mono fun e w' he => ?_
  obtain ⟨u, F', rvs, u1, u2, e1, e2, e3, e4, e5, e6, e7⟩ := he
  exact ⟨u, F', rvs, u1, u2, e1, e2, e3, e4, e5, e6, (fun h => by cases h), e7⟩
 | false =>
  have hn := hfit.nod
  rw [har] at hn
  simp only [Bool.false_or, Bool.and_eq_true, Bool.not_eq_true'] at hn
  have hb0 : Bag w (fun _ => .nilFunc) F.none [] us := ⟨⟨fun n o h => by simp at h, fun n k b hn => by obtain ⟨o, h, _⟩ := hn; simp at h, fun n b hn => by obtain ⟨o, h, _⟩ := hn; simp at h, hb.mr.lt⟩, hb.inj, hb.sep, fun n u b hn => by obtain ⟨o, h, _⟩ := hn; simp at h, hb.lt⟩
  refine (h2 w F.none vals vs us x y (fun _ => ⟨rfl, rfl⟩) hb0 (Vals.p (F := F) (F' := F.none) (fun _ h => h) hv) (HR.nu (F := F) (F' := F.none) (fun _ h => h) _ hn.1 hx) hy hgb.none).mono fun e w' he => ?_
  obtain ⟨u, F', rvs, u1, u2, e1, e2, e3, e4, e5, e6, e7⟩ := he
  refine ⟨u, ⟨F'.p, F.nu, F.ka⟩, rvs, u1, u2, e1, e2, HR.nu (F := F') (F' := ⟨F'.p, F.nu, F.ka⟩) (fun _ h => h) _ hn.2 e3, HR.nu (F := F') (F' := ⟨F'.p, F.nu, F.ka⟩) (fun _ h => h) _ (outH_nodB _ hn.1) e4, ?_, ⟨e6.os, e6.tape, e6.output, e6.size, e6.keep, ⟨e6.fro.p, fun _ _ h => h, fun _ _ _ h => h⟩, e6.froB, e6.own⟩, (fun _ => ⟨rfl, rfl⟩), e7⟩
  exact ⟨⟨fun n o h => by simp at h, fun n k b hn => by obtain ⟨o, h, _⟩ := hn; simp at h, fun n b hn => by obtain ⟨o, h, _⟩ := hn; simp at h, e5.mr.lt⟩, e5.inj, e5.sep, fun n u b hn => by obtain ⟨o, h, _⟩ := hn; simp at h, e5.lt⟩
section
variable {P : Program} {tt : Tab} (hP : TabOk P tt) (hmix : P.follows .mixedOrders = true)
include hP hmix
theorem FnOk_core {f : Nat} {D : DFn} {fn : Func} (hf : P.funcs[f]? = some fn) (hfit : D.Fit) {w : World} {F : FS} {vals : Array Value} {vs us : List Value} {ρ1 : Nat → Value} {m : List AO} {args : List AV} {lc : List AC}
  (hb : Bag w ρ1 F m []) (hav : F2 (VR w ρ1 F m.length) args vals.toList) (hlc : CRs w ρ1 F m.length lc (lentOf D.args vs)) (hown : ∀ b, Own ρ1 m b → ∃ u ∈ us, b ∈ blk u) {y : D.B}
  (hkp : ∀ L, D.kp = some L → kpN m D.args lc = some L) {Γ : Gam} {A : Nat → Option LoopAnn} {n : Nat} (hG : GamOk P Γ) (hgb : Glob w F) (hab : absFn tt Γ A n fn args m (decRes D lc) = some y) :
  Calls P f vals w fun e w' => ∃ u F' rvs u1 u2, e = .returned u ∧ ValS (shapeH D.res) u rvs ∧ HR w' F' (prodU (D.res.map (·.2))) (D.rs y) rvs u1 ∧ HR w' F' (outH D.args) (D.os y) (lentOf D.args vs) u2 ∧ Bag w' (fun _ => .nilFunc) F' [] (u1 ++ u2) ∧ Turn w F us w' F' (u1 ++ u2) ∧ KP D w w' vs := by
 refine (absFn_ok hP hG hmix hf hab w ρ1 F vals hav hb.mr hgb).mono fun e w' he => ?_
 obtain ⟨u, ρ', F', x', m', rfl, h1, h2, h3, h4⟩ := he
 exact core_tail hfit hb hlc hown hkp h1 h2 h3 h4
theorem FnOk_of {f : Nat} {D : DFn} (hD : DOk P tt f D) (hfit : D.Fit) : FnOk P f D := by
 obtain ⟨fn, hf, hname, hbody, hD⟩ := hD
 refine FnOk.scope hfit ⟨fn, hf, hname, hbody⟩ fun w F vals vs us x y _ hb hv hx hy hgb => ?_
 obtain ⟨Γ, A, n, hG, hab⟩ := hD x y hy
 obtain ⟨ρ1, q1, q2, q3, q4⟩ := enc_ok (argH D.args) (us2 := []) (m := []) hx (by rw [List.append_nil]; exact hb)
 simp only [List.nil_append, List.length_nil] at q2 q3 q4
 refine FnOk_core hP hmix hf hfit q2 (encCells_ok hv q3) (lentOf_F2 D.args q3) (fun b hb' => ?_) (fun L hL => hfit.kp x L hL) hG hgb hab
 rcases q4 b hb' with ⟨k, ⟨o, h, _⟩, _⟩ | h
 ·simp at h
 ·exact h
def DOkN (P : Program) (tt : Tab) (f : Nat) (D : DFn) (e : Nat) (t : Ty) (h : D.args = [.d false (.slice e t)]) : Prop :=
 ∃ fn, P.funcs[f]? = some fn ∧ (fn.name == "runtime.NumGoroutine") = false ∧ fn.body.isSome = true ∧
  ∀ (x : List t.den) y, D.f (h ▸ (x, ())) = some y → ∃ (Γ : Gam) (A : Nat → Option LoopAnn) (n : Nat), GamOk P Γ ∧ (x = [] → absFn tt Γ A n fn [.one .nilS] [] (decRes D []) = some y) ∧ absFn tt Γ A n fn [.one (.frn e t x)] [] (decRes D []) = some y
theorem FnOk_ofN {f : Nat} {D : DFn} {e : Nat} {t : Ty} {h : D.args = [.d false (.slice e t)]} (hD : DOkN P tt f D e t h) (hfit : D.Fit) : FnOk P f D := by
 obtain ⟨fn, hf, hname, hbody, hD⟩ := hD
 refine FnOk.scope hfit ⟨fn, hf, hname, hbody⟩ fun w F vals vs us x y _ hb hv hx hy hgb => ?_
 obtain ⟨as, res, B, fd, mk, rs, os⟩ := D
 simp only at h
 subst h
 obtain ⟨xs, u⟩ := x
 have hy' : fd ((xs, ()) : List t.den × Unit) = some y := hy
 obtain ⟨Γ, A, n, hG, hab1, hab2⟩ := hD xs y hy'
 obtain ⟨v1, v2, us1, us2, rfl, rfl, g1, g2⟩ := hx
 obtain ⟨g1, rfl⟩ := g1
 obtain ⟨rfl, rfl⟩ := g2
 have hrt := g1
 obtain ⟨a, c, rfl, h1, h2⟩ := g1
 have hb0 : Bag w (fun _ => .nilFunc) F [] [] := hb
 cases hvl : vals.toList with
 | nil => rw [hvl] at hv; cases hv
 | cons v vl =>
  rw [hvl] at hv
  have hvv : v = .slice a (len (α := t.den) xs) c ∧ vl = [] := by
   have hv2 : Vals w F [.d false (.slice e t)] (v :: vl) [.slice a (len (α := t.den) xs) c] := hv
   cases hv2 with
   | one _ hr => cases hr; exact ⟨rfl, rfl⟩
  obtain ⟨rfl, rfl⟩ := hvv
  have hlc : CRs w (fun _ => .nilFunc) F ([] : List AO).length [] (lentOf [MK.d false (.slice e t)] ([.slice a (len (α := t.den) xs) c] ++ [])) := .nil
  cases a with
  | none =>
   have hz : len (α := t.den) xs = 0 := by
    rcases h2 with h2 | ⟨ad, h2, _⟩
    ·exact h2
    ·cases h2
   have hxs : xs = [] := List.eq_nil_of_length_eq_zero hz
   by_cases hc : c = 0
   ·refine FnOk_core (vs := [.slice none (len (α := t.den) xs) c] ++ []) hP hmix hf hfit hb0 ?_ hlc (fun b hb' => by obtain ⟨k, ⟨o, h, _⟩, _⟩ := hb'; simp at h) (fun L hL => hfit.kp (xs, ()) L hL) hG hgb (hab1 hxs)
    rw [hvl]
    refine .cons ?_ .nil
    show VR _ _ _ _ (.one .nilS) _
    exact VR.of_CR (c := .nilS) (by rw [hz, hc]; rfl)
   ·exact absurd (h1.2 rfl) hc
  | some ad =>
   refine FnOk_core (vs := [.slice (some ad) (len (α := t.den) xs) c] ++ []) hP hmix hf hfit hb0 ?_ hlc (fun b hb' => by obtain ⟨k, ⟨o, h, _⟩, _⟩ := hb'; simp at h) (fun L hL => hfit.kp (xs, ()) L hL) hG hgb hab2
   rw [hvl]
   refine .cons ?_ .nil
   exact VR.of_CR (c := .frn e t xs) ⟨hrt, ad, _, _, rfl⟩
end
end Go.Proofs.YtfihdjjilofklaaGreat.Am
