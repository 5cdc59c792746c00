/- Specified functions of plain data: typed arguments, typed results. -/
import Derived.Test.YtaaljooihacpgaaAm10
set_option linter.unusedVariables false
set_option linter.unusedSimpArgs false
namespace Go.Proofs.Ytaaljooihacpgaa.Am
open Go

/-- the kind of a parameter: data (a struct or an array, or not), or one known function -/
inductive AK where
  | d (agg : Bool) (t : Ty)
  | f (n : Nat)

def prodTy : List (Bool × Ty) → Ty
  | [] => .unit
  | [p] => p.2
  | p :: l => .prod p.2 (prodTy l)
def AK.pair : AK → Bool × Ty
  | .d b t => (b, t)
  | .f _ => (true, .unit)
def argTy (l : List AK) : Ty := prodTy (l.map AK.pair)

/-- own rows, lent -/
def brw (m : List AO) : AC → AC
  | .own n => match m[n]? with
    | some (.row e t xs) => .fro e t xs
    | _ => .own n
  | c => c
def AV.isAgg : AV → Bool
  | .agg _ => true
  | _ => false
def AV.isTup : AV → Bool
  | .tup _ => true
  | _ => false

def decArg (m : List AO) : AK → AV → Option (List AC)
  | .d true t, .agg l => if l.length = t.size then some (l.map (brw m)) else none
  | .d false t, .one c => if 1 = t.size ∧ isAny (brw m c) = false then some [brw m c] else none
  | .f n, .one (.fn k) => if k = n then some [] else none
  | _, _ => none
def decCells (m : List AO) : List AK → List AV → Option (List AC)
  | [], [] => some []
  | k :: ks, v :: vs => match decArg m k v, decCells m ks vs with
    | some l, some r => some (l ++ r)
    | _, _ => none
  | _, _ => none
def decArgs (m : List AO) (ks : List AK) (vs : List AV) : Option (argTy ks).den := match decCells m ks vs with
  | some l => unflatAll (argTy ks) l
  | none => none

/-- typed arguments as values of the abstract machine -/
def encArg : AK → List AC → AV
  | .d true _, l => .agg l
  | .d false _, [c] => .one c
  | .d false _, _ => .one .any
  | .f n, _ => .one (.fn n)
def encCells : List AK → List AC → List AV
  | [], _ => []
  | k :: ks, l => encArg k (l.take k.pair.2.size) :: encCells ks (l.drop k.pair.2.size)
def encArgs (ks : List AK) (x : (argTy ks).den) : List AV := encCells ks (flat (argTy ks) x)

/-- results: slices are rows of the caller's own from now on -/
def encO : (t : Ty) → t.den → Nat → List AC × List AO
  | .int k, x, _ => ([.int k x], [])
  | .bool, x, _ => ([.bool x], [])
  | .str, x, _ => ([.str x], [])
  | .slice e t, x, n => ([.own n], [.row e t x])
  | .prod a b, x, n => ((encO a x.1 n).1 ++ (encO b x.2 (n + (encO a x.1 n).2.length)).1, (encO a x.1 n).2 ++ (encO b x.2 (n + (encO a x.1 n).2.length)).2)
  | .unit, _, _ => ([], [])
def oDec : (t : Ty) → List AC → List AO → Option (t.den × List AC × List AO)
  | .int k, l, m => match l with
    | .int k' x :: r => if k = k' then some (x, r, m) else none
    | _ => none
  | .bool, l, m => match l with
    | .bool x :: r => some (x, r, m)
    | _ => none
  | .str, l, m => match l with
    | .str x :: r => some (x, r, m)
    | _ => none
  | .slice e t, l, m => match l with
    | .own n :: r => match m[n]? with
      | some (.row e' t' xs) => if h : e' = e ∧ t' = t then some (h.2 ▸ xs, r, m.set n .gone) else none
      | _ => none
    | .nilS :: r => some ([], r, m)
    | _ => none
  | .prod a b, l, m => match oDec a l m with
    | some (x, r, m1) => match oDec b r m1 with
      | some (y, r', m2) => some ((x, y), r', m2)
      | none => none
    | none => none
  | .unit, l, m => some ((), l, m)

def AV.flatCells : AV → List AC
  | .one c => [c]
  | .agg l => l
  | .tup l => (l.map fun p => p.2).flatten
def AV.shape : AV → List (Bool × Nat)
  | .one _ => [(false, 1)]
  | .agg l => [(true, l.length)]
  | .tup l => l.map fun p => (p.1, p.2.length)
def shapeOf (l : List (Bool × Ty)) : List (Bool × Nat) := l.map fun p => (p.1, p.2.size)
def split : List (Bool × Nat) → List AC → List (Bool × List AC)
  | [], _ => []
  | (b, n) :: r, l => (b, l.take n) :: split r (l.drop n)
def mkRes (sh : List (Bool × Nat)) (l : List AC) : AV := match sh with
  | [(b, _)] => AV.ofComp (b, l)
  | sh => .tup (split sh l)
def sameShape : List (Bool × Nat) → List (Bool × Nat) → Bool
  | [], [] => true
  | (b, n) :: l, (c, m) :: r => ((b == c && Nat.beq n m) && (b || Nat.beq n 1)) && sameShape l r
  | _, _ => false

def notSingle : AV → Bool
  | .tup [_] => false
  | _ => true
def decRes (rs : List (Bool × Ty)) (x : AV) (m : List AO) : Option (prodTy rs).den :=
  if notSingle x && sameShape x.shape (shapeOf rs) && x.flatCells.all (fun c => !isAny c) then
    match oDec (prodTy rs) x.flatCells m with
    | some (y, [], _) => some y
    | _ => none
  else none

/-- do the rows of a result lead to no further slices? -/
def rowsFlat : Ty → Bool
  | .slice _ t => t.flatB
  | .prod a b => rowsFlat a && rowsFlat b
  | _ => true
def noOwn (l : List AV) : Bool := l.all fun v => v.acs.all fun c => match c.nm with
  | some _ => false
  | none => true

structure DFn where
  args : List AK
  res : List (Bool × Ty)
  f : (argTy args).den → Option (prodTy res).den

def AV.brw (m : List AO) : AV → AV
  | .one c => .one (Am.brw m c)
  | .agg l => .agg (l.map (Am.brw m))
  | .tup l => .tup (l.map fun p => (p.1, p.2.map (Am.brw m)))
/-- the names of own rows in a list of values -/
def ownsC : List AC → List Nat
  | [] => []
  | .own n :: l => n :: ownsC l
  | _ :: l => ownsC l
def ownsOf : List AV → List Nat
  | [] => []
  | v :: l => ownsC v.acs ++ ownsOf l
/-- own rows become immutable data for good -/
def frzM (ns : List Nat) (m : List AO) : List AO := kills ns (m.map fun o => match o with
  | .var T l => .var T (l.map fun c => match c with
    | .own n => if ns.contains n then brw m c else c
    | .ep n _ _ _ => if ns.contains n then .any else c
    | c => c)
  | o => o)
def dspec0 (D : DFn) (R : Type) (args : List AV) (m : List AO) (κ : AV → List AO → List (Nat × AC) → Option R) : Option R :=
  match decArgs m D.args args with
  | none => none
  | some x => if noOwn args || rowsFlat (prodTy D.res) then
      (D.f x).bind fun y => κ (mkRes (shapeOf D.res) (encO (prodTy D.res) y m.length).1) (m ++ (encO (prodTy D.res) y m.length).2) []
    else none
def dspec (D : DFn) (R : Type) (args : List AV) (m : List AO) (κ : AV → List AO → List (Nat × AC) → Option R) : Option R :=
  if noOwn args || rowsFlat (prodTy D.res) then dspec0 D R args m κ
  else if noOwn (args.map (AV.brw m)) && (ownsOf args).all (fun n => match m[n]? with
      | some (.row _ _ _) => true
      | _ => false) then
    dspec0 D R (args.map (AV.brw m)) (frzM (ownsOf args) m) fun x m' _ => κ x m' ((ownsOf args).map fun n => (n, brw m (.own n)))
  else none

section
variable {w : World} {ρ : Nat → Value} {F : Nat → Prop} {N : Nat}

theorem RT_any {F2 : Nat → Prop} : ∀ (t : Ty) {x : t.den} {l : List Value}, t.flatB = true → RT w F t x l → RT w F2 t x l
  | .int k, x, l, _, h => by unfold RT at h ⊢; exact h
  | .bool, x, l, _, h => by unfold RT at h ⊢; exact h
  | .str, x, l, _, h => by unfold RT at h ⊢; exact h
  | .slice e t, x, l, hf, h => by simp [Ty.flatB] at hf
  | .prod a b, x, l, hf, h => by
    simp only [Ty.flatB, Bool.and_eq_true] at hf
    unfold RT at h ⊢
    obtain ⟨l1, l2, rfl, h1, h2⟩ := h
    exact ⟨l1, l2, rfl, RT_any a hf.1 h1, RT_any b hf.2 h2⟩
  | .unit, _, l, _, h => by unfold RT at h ⊢; exact h
theorem RTL_any {F2 : Nat → Prop} {t : Ty} {xs : List t.den} {l : List Value} (hf : t.flatB = true) (h : RTL w F t xs l) : RTL w F2 t xs l := by
  induction h with
  | nil => exact .nil
  | cons h _ ih => exact .cons (RT_any t hf h) ih

/-- what is lent reads as immutable data in the blocks that are lent -/
def Fb (ρ : Nat → Value) (m : List AO) (F : Nat → Prop) : Nat → Prop := fun b => F b ∨ Own ρ m b

theorem brw_CR {m : List AO} (hm : MR w ρ F m) {c : AC} {v : Value} (h : CR w ρ F m.length c v) : CR w ρ (Fb ρ m F) m.length (brw m c) v := by
  have hmv : Mv w w F (Fb ρ m F) := ⟨fun _ h => .inl h, fun _ _ => rfl⟩
  unfold brw
  split
  · rename_i n
    split
    · rename_i e t xs hx
      obtain ⟨h1, h2, h3⟩ := h
      rw [h2]
      have := row_RT (s := ⟨[], m⟩) (hm.obj n _ hx)
      exact RT.mono (fun b hb => by
        rcases hb with hb | hb
        · exact .inl hb
        · exact .inr ⟨n, ⟨_, hx, by simp⟩, hb⟩) (fun _ _ => rfl) _ this
    · exact h.mono hmv (fun _ _ _ => rfl) (Nat.le_refl _)
  · exact h.mono hmv (fun _ _ _ => rfl) (Nat.le_refl _)

/-- the values behind a list of parameters -/
inductive Vals : List AK → List Value → List Value → Prop
  | nil : Vals [] [] []
  | agg {t : Ty} {ks : List AK} {vs : Array Value} {us r : List Value} : vs.size = t.size → Vals ks us r → Vals (.d true t :: ks) (.agg vs :: us) (vs.toList ++ r)
  | one {t : Ty} {ks : List AK} {v : Value} {us r : List Value} : 1 = t.size → Vals ks us r → Vals (.d false t :: ks) (v :: us) (v :: r)
  | fn {n : Nat} {ks : List AK} {us r : List Value} : Vals ks us r → Vals (.f n :: ks) (.func (.func n) #[] #[] :: us) r

theorem brw_noOwn {m : List AO} {c : AC} (h : c.nm = none) : brw m c = c := by
  cases c <;> first | rfl | simp [AC.nm] at h

/-- the blocks that a callee may read as immutable -/
def Fc (ρ : Nat → Value) (m : List AO) (F : Nat → Prop) (args : List AV) : Nat → Prop := fun b => F b ∨ (noOwn args = false ∧ Own ρ m b)

theorem decCells_ok {m : List AO} (hm : MR w ρ F m) (G : Nat → Prop) (hG : ∀ c v, CR w ρ F m.length c v → (c.nm = none ∨ G = Fb ρ m F) → CR w ρ G m.length (brw m c) v) : ∀ {ks : List AK} {args : List AV} {l : List AC} {vals : List Value}, (noOwn args = true ∨ G = Fb ρ m F) → decCells m ks args = some l → F2 (VR w ρ F m.length) args vals →
    ∃ vs, Vals ks vals vs ∧ CRs w ρ G m.length l vs
  | [], [], l, vals, hno, h, hv => by
    simp [decCells] at h
    subst h
    cases hv
    exact ⟨[], .nil, .nil⟩
  | [], _ :: _, l, vals, hno, h, hv => by simp [decCells] at h
  | _ :: _, [], l, vals, hno, h, hv => by simp [decCells] at h
  | k :: ks, x :: args, l, vals, hno, h, hv => by
    unfold decCells at h
    split at h <;> try cases h
    rename_i l1 l2 h1 h2
    cases hv with
    | @cons _ v _ vals h3 h4 =>
      have hno1 : ∀ c ∈ x.acs, c.nm = none ∨ G = Fb ρ m F := by
        intro c hc
        rcases hno with hno | hno
        · simp only [noOwn, List.all_cons, Bool.and_eq_true] at hno
          have := List.all_eq_true.1 hno.1 c hc
          left
          cases hn : c.nm with
          | none => rfl
          | some n => rw [hn] at this; simp at this
        · exact .inr hno
      have hno2 : noOwn args = true ∨ G = Fb ρ m F := by
        rcases hno with hno | hno
        · simp only [noOwn, List.all_cons, Bool.and_eq_true] at hno
          exact .inl hno.2
        · exact .inr hno
      obtain ⟨vs, h5, h6⟩ := decCells_ok hm G hG hno2 h2 h4
      unfold decArg at h1
      split at h1
      · rename_i t l'
        split at h1 <;> cases h1
        rename_i hlen
        obtain ⟨us, rfl, h7⟩ := h3
        refine ⟨us.toList ++ vs, .agg (by have := F2.length h7; simp at this; omega) h5, F2.append ?_ h6⟩
        have : ∀ {l' : List AC} {us : List Value}, (∀ c ∈ l', c.nm = none ∨ G = Fb ρ m F) → CRs w ρ F m.length l' us → CRs w ρ G m.length (l'.map (brw m)) us := by
          intro l' us hn hc
          induction hc with
          | nil => exact .nil
          | cons hc _ ih => exact .cons (hG _ _ hc (hn _ (by simp))) (ih fun c hc => hn c (by simp [hc]))
        exact this hno1 h7
      · rename_i t c
        split at h1 <;> cases h1
        rename_i hlen
        obtain ⟨hlen, hany⟩ := hlen
        have hc : c ≠ .any := by
          intro e
          subst e
          simp [brw, isAny] at hany
        exact ⟨v :: vs, .one hlen h5, .cons (hG _ _ (VR.CR h3 hc) (hno1 c (by simp [AV.acs]))) h6⟩
      · rename_i n k'
        split at h1 <;> cases h1
        rename_i hk
        subst hk
        have hv : v = .func (.func k') #[] #[] := VR.CR h3 (by simp)
        subst hv
        exact ⟨vs, .fn h5, by simpa using h6⟩
      · cases h1

theorem encCells_ok {w : World} {ρ : Nat → Value} {F : Nat → Prop} {N : Nat} {ks : List AK} {us vs : List Value} (h : Vals ks us vs) : ∀ {l : List AC}, CRs w ρ F N l vs → F2 (VR w ρ F N) (encCells ks l) us := by
  induction h with
  | nil => intro l _; exact .nil
  | @agg t ks vs us r hs _ ih =>
    intro l hl
    refine .cons ⟨vs, rfl, ?_⟩ (ih ?_)
    · have := F2.take hl t.size
      have e : (vs.toList ++ r).take t.size = vs.toList := by
        have h := takeA vs.toList r 0
        rw [Nat.add_zero, Array.length_toList, hs] at h
        simpa using h
      rwa [e] at this
    · have := F2.drop hl t.size
      have e : (vs.toList ++ r).drop t.size = r := by
        have h := dropA vs.toList r 0
        rw [Nat.add_zero, Array.length_toList, hs] at h
        simpa using h
      rwa [e] at this
  | @one t ks v us r hs _ ih =>
    intro l hl
    cases hl with
    | @cons c _ l' _ h1 h2 =>
      refine .cons ?_ (ih ?_)
      · show VR w ρ F N (encArg (.d false t) ((c :: l').take t.size)) v
        rw [← hs]
        exact VR.of_CR h1
      · show CRs w ρ F N ((c :: l').drop t.size) _
        rw [← hs]
        exact h2
  | @fn n ks us r _ ih =>
    intro l hl
    refine .cons ?_ (ih (by simpa [AK.pair, Ty.size] using hl))
    exact VR.of_CR (c := .fn n) rfl

/-- a row, told by its value alone -/
def RowR (w : World) (F : Nat → Prop) (o : AO) (v : Value) : Prop := ∃ e t xs, o = .row e t xs ∧ ∃ vs, w.ownsRow 0 e t.size v xs.length vs ∧ RTL w F t xs vs

theorem live_set {m : List AO} {n k : Nat} (h : live (m.set n .gone) k) : live m k ∧ k ≠ n := by
  obtain ⟨q, h1, h2⟩ := h
  by_cases hk : k = n
  · subst hk
    by_cases hl : k < m.length
    · rw [List.getElem?_set_self hl] at h1
      cases h1
      exact absurd rfl h2
    · rw [List.getElem?_eq_none (by simp; omega)] at h1
      cases h1
  · rw [List.getElem?_set_ne (fun e => hk e.symm)] at h1
    exact ⟨⟨q, h1, h2⟩, hk⟩

/-- what a result's own rows are -/
structure ODec (w : World) (ρ : Nat → Value) (F : Nat → Prop) (t : Ty) (y : t.den) (m m1 : List AO) (v1 us : List Value) : Prop where
  len : ∀ base, (encO t y base).2.length = us.length
  cells : ∀ (base N : Nat) (ρ1 : Nat → Value) (F1 : Nat → Prop), (∀ (i : Nat) (u : Value), us[i]? = some u → ρ1 (base + i) = u) → base + us.length ≤ N → CRs w ρ1 F1 N (encO t y base).1 v1
  rows : ∀ (base i : Nat) (o : AO) (u : Value), (encO t y base).2[i]? = some o → us[i]? = some u → RowR w F o u
  flat : rowsFlat t = true → ∀ (base i : Nat) (o : AO) (u : Value), (encO t y base).2[i]? = some o → us[i]? = some u → ∀ F1, RowR w F1 o u
  sub : ∀ n, live m1 n → live m n
  blks : ∀ (i : Nat) (u : Value) (b : Nat), us[i]? = some u → blk u = some b → ∃ n, live m n ∧ ¬ live m1 n ∧ blk (ρ n) = some b
  inj : ∀ (i j : Nat) (u v : Value) (b : Nat), us[i]? = some u → us[j]? = some v → blk u = some b → blk v = some b → i = j

theorem oDec_ok {N : Nat} {m0 : List AO} (hinj : ∀ n k b, live m0 n → live m0 k → blk (ρ n) = some b → blk (ρ k) = some b → n = k) :
    ∀ (t : Ty) {l r : List AC} {m m1 : List AO} {y : t.den} {vs : List Value}, oDec t l m = some (y, r, m1) → CRs w ρ F N l vs → (∀ n, live m n → live m0 n) → (∀ n o, m[n]? = some o → ∃ N, ObjR w ρ F N o (ρ n)) →
      ∃ v1 v2 us, vs = v1 ++ v2 ∧ CRs w ρ F N r v2 ∧ ODec w ρ F t y m m1 v1 us ∧ (∀ n o, m1[n]? = some o → ∃ N, ObjR w ρ F N o (ρ n))
  | .int k, l, r, m, m1, y, vs, h, hc, hl, ho => by
    unfold oDec at h
    split at h <;> try cases h
    rename_i k' x r'
    split at h <;> cases h
    rename_i hk
    subst hk
    cases hc with
    | cons h1 h2 =>
      refine ⟨[_], _, [], rfl, h2, ⟨fun _ => rfl, fun base N ρ1 F1 _ _ => .cons h1 .nil, ?_, ?_, fun _ h => h, ?_, ?_⟩, ho⟩ <;> intros <;> simp_all
  | .bool, l, r, m, m1, y, vs, h, hc, hl, ho => by
    unfold oDec at h
    split at h <;> cases h
    cases hc with
    | cons h1 h2 =>
      refine ⟨[_], _, [], rfl, h2, ⟨fun _ => rfl, fun base N ρ1 F1 _ _ => .cons h1 .nil, ?_, ?_, fun _ h => h, ?_, ?_⟩, ho⟩ <;> intros <;> simp_all
  | .str, l, r, m, m1, y, vs, h, hc, hl, ho => by
    unfold oDec at h
    split at h <;> cases h
    cases hc with
    | cons h1 h2 =>
      refine ⟨[_], _, [], rfl, h2, ⟨fun _ => rfl, fun base N ρ1 F1 _ _ => .cons h1 .nil, ?_, ?_, fun _ h => h, ?_, ?_⟩, ho⟩ <;> intros <;> simp_all
  | .slice e t, l, r, m, m1, y, vs, h, hc, hl, ho => by
    have fin : ∀ (y : List t.den) (m1 : List AO) (v : Value) (r : List AC) (v2 : List Value), CRs w ρ F N r v2 → (∃ N, ObjR w ρ F N (.row e t y) v) → v.oneCell' = true → (∀ n, live m1 n → live m n) → (∀ b, blk v = some b → ∃ n, live m n ∧ ¬ live m1 n ∧ blk (ρ n) = some b) → (∀ n o, m1[n]? = some o → ∃ N, ObjR w ρ F N o (ρ n)) →
        ∃ v1 v2' us, v :: v2 = v1 ++ v2' ∧ CRs w ρ F N r v2' ∧ ODec w ρ F (.slice e t) y m m1 v1 us ∧ (∀ n o, m1[n]? = some o → ∃ N, ObjR w ρ F N o (ρ n)) := by
      intro y m1 v r v2 h1 h2 h3 h4 h5 h6
      obtain ⟨_, vs, k1, k2⟩ := h2
      refine ⟨[v], v2, [v], rfl, h1, ⟨fun _ => rfl, fun base N ρ1 F1 g1 g2 => .cons ⟨by simp at g2; omega, ?_, h3⟩ .nil, ?_, ?_, h4, ?_, ?_⟩, h6⟩
      · have := g1 0 v (by simp)
        rw [Nat.add_zero] at this
        exact this.symm
      · intro base i o u g1 g2
        cases i with
        | zero => cases g1; cases g2; exact ⟨e, t, y, rfl, vs, k1, k2⟩
        | succ i => simp at g2
      · intro hf base i o u g1 g2 F1
        cases i with
        | zero => cases g1; cases g2; exact ⟨e, t, y, rfl, vs, k1, RTL_any hf k2⟩
        | succ i => simp at g2
      · intro i u b g1 g2
        cases i with
        | zero => cases g1; exact h5 b g2
        | succ i => simp at g1
      · intro i j u v b g1 g2 _ _
        cases i <;> cases j <;> simp_all
    unfold oDec at h
    split at h
    · rename_i n r'
      split at h <;> try cases h
      rename_i e' t' xs hx
      split at h <;> cases h
      rename_i hk
      obtain ⟨rfl, rfl⟩ := hk
      cases hc with
      | @cons _ v _ v2 h1 h2 =>
        obtain ⟨k1, k2, k3⟩ := h1
        have hln : live m n := ⟨_, hx, by simp⟩
        refine fin xs _ v _ v2 h2 (by rw [k2]; exact ho n _ hx) k3 (fun k hk => (live_set hk).1) (fun b hb => ⟨n, hln, fun hk => (live_set hk).2 rfl, by rw [← k2]; exact hb⟩) (fun k o hk => ?_)
        by_cases hkn : k = n
        · subst hkn
          rw [List.getElem?_set_self (live_lt hln)] at hk
          cases hk
          exact ⟨0, trivial⟩
        · rw [List.getElem?_set_ne (fun e => hkn e.symm)] at hk
          exact ho k o hk
    · cases h
      cases hc with
      | @cons _ v _ v2 h1 h2 =>
        have hv : v = .slice none 0 0 := h1
        subst hv
        exact fin [] _ _ _ v2 h2 ⟨0, [], World.ownsRow_nil w 0 e t.size, .nil⟩ rfl (fun _ h => h) (fun b hb => by simp [blk] at hb) ho
    · cases h
  | .prod a b, l, r, m, m1, y, vs, h, hc, hl, ho => by
    unfold oDec at h
    split at h
    case h_2 => cases h
    rename_i x r1 m2 h1
    split at h
    case h_2 => cases h
    rename_i z r2 m3 h2
    cases h
    obtain ⟨v1, v2, us, rfl, g2, g3, g4⟩ := oDec_ok hinj a h1 hc hl ho
    obtain ⟨v3, v4, us', rfl, g5, g6, g7⟩ := oDec_ok hinj b h2 g2 (fun n hn => hl n (g3.sub n hn)) g4
    have hb : ∀ base, (encO a x base).2.length = us.length := g3.len
    have get : ∀ (base i : Nat) (o : AO) (u : Value), ((encO a x base).2 ++ (encO b z (base + (encO a x base).2.length)).2)[i]? = some o → (us ++ us')[i]? = some u →
        ((encO a x base).2[i]? = some o ∧ us[i]? = some u) ∨ ((encO b z (base + (encO a x base).2.length)).2[i - us.length]? = some o ∧ us'[i - us.length]? = some u) := by
      intro base i o u q1 q2
      by_cases hi : i < us.length
      · rw [List.getElem?_append_left (by rw [hb]; exact hi)] at q1
        rw [List.getElem?_append_left hi] at q2
        exact .inl ⟨q1, q2⟩
      · rw [List.getElem?_append_right (by rw [hb]; omega), hb] at q1
        rw [List.getElem?_append_right (by omega)] at q2
        rw [← hb base] at q1
        exact .inr ⟨by rw [hb] at q1 ⊢; exact q1, q2⟩
    have part : ∀ (i : Nat) (u : Value), (us ++ us')[i]? = some u → us[i]? = some u ∨ (us.length ≤ i ∧ us'[i - us.length]? = some u) := by
      intro i u q
      by_cases hi : i < us.length
      · rw [List.getElem?_append_left hi] at q; exact .inl q
      · rw [List.getElem?_append_right (by omega)] at q; exact .inr ⟨by omega, q⟩
    refine ⟨v1 ++ v3, v4, us ++ us', by simp, g5, ⟨?_, ?_, ?_, ?_, fun n hn => g3.sub n (g6.sub n hn), ?_, ?_⟩, g7⟩
    · intro base
      show ((encO a x base).2 ++ (encO b z (base + (encO a x base).2.length)).2).length = _
      rw [List.length_append, List.length_append, g3.len, g6.len]
    · intro base N' ρ1 F1 q1 q2
      rw [List.length_append] at q2
      show CRs w ρ1 F1 N' ((encO a x base).1 ++ (encO b z (base + (encO a x base).2.length)).1) _
      refine F2.append (g3.cells base N' ρ1 F1 (fun i u hi => q1 i u (by rw [List.getElem?_append_left (List.getElem?_eq_some_iff.1 hi).1]; exact hi)) (by omega)) (g6.cells _ N' ρ1 F1 (fun i u hi => ?_) (by rw [hb]; omega))
      rw [hb, Nat.add_assoc]
      exact q1 _ u (by rw [List.getElem?_append_right (by omega), Nat.add_sub_cancel_left]; exact hi)
    · intro base i o u q1 q2
      rcases get base i o u q1 q2 with ⟨p1, p2⟩ | ⟨p1, p2⟩
      · exact g3.rows _ _ _ _ p1 p2
      · exact g6.rows _ _ _ _ p1 p2
    · intro hf base i o u q1 q2 F1
      simp only [rowsFlat, Bool.and_eq_true] at hf
      rcases get base i o u q1 q2 with ⟨p1, p2⟩ | ⟨p1, p2⟩
      · exact g3.flat hf.1 _ _ _ _ p1 p2 F1
      · exact g6.flat hf.2 _ _ _ _ p1 p2 F1
    · intro i u b' q1 q2
      rcases part i u q1 with p | ⟨_, p⟩
      · obtain ⟨n, p1, p2, p3⟩ := g3.blks i u b' p q2
        exact ⟨n, p1, fun h => p2 (g6.sub n h), p3⟩
      · obtain ⟨n, p1, p2, p3⟩ := g6.blks _ u b' p q2
        exact ⟨n, g3.sub n p1, p2, p3⟩
    · intro i j u v b' q1 q2 q3 q4
      rcases part i u q1 with p | ⟨pi, p⟩ <;> rcases part j v q2 with q | ⟨qj, q⟩
      · exact g3.inj i j u v b' p q q3 q4
      · exfalso
        obtain ⟨n, p1, p2, p3⟩ := g3.blks i u b' p q3
        obtain ⟨k, k1, k2, k3⟩ := g6.blks _ v b' q q4
        have := hinj n k b' (hl n p1) (hl k (g3.sub k k1)) p3 k3
        subst this
        exact p2 k1
      · exfalso
        obtain ⟨n, p1, p2, p3⟩ := g3.blks j v b' q q4
        obtain ⟨k, k1, k2, k3⟩ := g6.blks _ u b' p q3
        have := hinj n k b' (hl n p1) (hl k (g3.sub k k1)) p3 k3
        subst this
        exact p2 k1
      · have := g6.inj _ _ u v b' p q q3 q4
        omega
  | .unit, l, r, m, m1, y, vs, h, hc, hl, ho => by
    unfold oDec at h
    cases h
    refine ⟨[], vs, [], rfl, hc, ⟨fun _ => rfl, fun base N ρ1 F1 _ _ => .nil, ?_, ?_, fun _ h => h, ?_, ?_⟩, ho⟩ <;> intros <;> simp_all

/-- a component of a result and its cells -/
def V1 (b : Bool) (n : Nat) (u : Value) (vs : List Value) : Prop := (b = true → u = .agg vs.toArray) ∧ (b = false → vs = [u]) ∧ vs.length = n
inductive ValL : List (Bool × Nat) → List Value → List Value → Prop
  | nil : ValL [] [] []
  | cons {b : Bool} {n : Nat} {sh : List (Bool × Nat)} {u : Value} {us v1 vs : List Value} : V1 b n u v1 → ValL sh us vs → ValL ((b, n) :: sh) (u :: us) (v1 ++ vs)
def ValS (sh : List (Bool × Nat)) (u : Value) (vs : List Value) : Prop := (∃ b n, sh = [(b, n)] ∧ V1 b n u vs) ∨ ((∀ p, sh ≠ [p]) ∧ ∃ us, u = .tuple us ∧ ValL sh us.toList vs)

theorem comp_V1 {b : Bool} {l : List AC} {u : Value} (h : VRb w ρ F N b l u) (h1 : (b || Nat.beq l.length 1) = true) (h2 : l.all (fun c => !isAny c) = true) : ∃ v1, V1 b l.length u v1 ∧ CRs w ρ F N l v1 := by
  cases b with
  | true =>
    obtain ⟨vs, rfl, h⟩ := h
    exact ⟨vs.toList, ⟨fun _ => rfl, fun h => by simp at h, (F2.length h).symm⟩, h⟩
  | false =>
    match l, h with
    | [], _ => simp at h1
    | [c], h =>
      have hc : c ≠ .any := by intro e; subst e; simp [isAny] at h2
      have h' : CR w ρ F N c u := VR.CR h hc
      exact ⟨[u], ⟨fun h => by simp at h, fun _ => rfl, rfl⟩, .cons h' .nil⟩
    | _ :: _ :: _, _ => simp at h1
theorem V1_comp {b : Bool} {n : Nat} {l : List AC} {u : Value} {v1 : List Value} (h : V1 b n u v1) (hc : CRs w ρ F N l v1) : VR w ρ F N (AV.ofComp (b, l)) u ∧ VRb w ρ F N b l u := by
  cases b with
  | true =>
    have := h.1 rfl
    subst this
    exact ⟨⟨v1.toArray, rfl, by simpa using hc⟩, ⟨v1.toArray, rfl, by simpa using hc⟩⟩
  | false =>
    have := h.2.1 rfl
    subst this
    cases hc with
    | cons h1 h2 => cases h2; exact ⟨VR.of_CR h1, VR.of_CR h1⟩

theorem shape_eq : ∀ {a b : List (Bool × Nat)}, sameShape a b = true → a = b ∧ ∀ p ∈ a, (p.1 || Nat.beq p.2 1) = true
  | [], [], _ => ⟨rfl, by simp⟩
  | [], _ :: _, h => by simp [sameShape] at h
  | _ :: _, [], h => by simp [sameShape] at h
  | (b, n) :: l, (c, m) :: r, h => by
    simp only [sameShape, Bool.and_eq_true, beq_iff_eq] at h
    obtain ⟨⟨⟨h1, h2⟩, h3⟩, h4⟩ := h
    obtain ⟨h5, h6⟩ := shape_eq h4
    have h2 : n = m := Nat.eq_of_beq_eq_true h2
    refine ⟨by rw [h1, h2, h5], fun p hp => ?_⟩
    rcases List.mem_cons.1 hp with rfl | hp
    · exact h3
    · exact h6 p hp

theorem shape_vals {x : AV} {u : Value} (h : VR w ρ F N x u) (hns : notSingle x = true) {sh : List (Bool × Nat)} (hs : sameShape x.shape sh = true) (ha : x.flatCells.all (fun c => !isAny c) = true) : ∃ vs, ValS sh u vs ∧ CRs w ρ F N x.flatCells vs := by
  obtain ⟨rfl, hp⟩ := shape_eq hs
  cases x with
  | one c =>
    obtain ⟨v1, h1, h2⟩ := comp_V1 (b := false) (l := [c]) h rfl ha
    exact ⟨v1, .inl ⟨false, 1, rfl, h1⟩, h2⟩
  | agg l =>
    obtain ⟨v1, h1, h2⟩ := comp_V1 (b := true) (l := l) h rfl ha
    exact ⟨v1, .inl ⟨true, _, rfl, h1⟩, h2⟩
  | tup l =>
    obtain ⟨us, rfl, h⟩ := h
    have key : ∀ {l : List (Bool × List AC)} {us : List Value}, F2 (fun p v => VRb w ρ F N p.1 p.2 v) l us → (∀ p ∈ l, (p.1 || Nat.beq p.2.length 1) = true) → (l.map fun p => p.2).flatten.all (fun c => !isAny c) = true → ∃ vs, ValL (l.map fun p => (p.1, p.2.length)) us vs ∧ CRs w ρ F N (l.map fun p => p.2).flatten vs := by
      intro l us h
      induction h with
      | nil => intro _ _; exact ⟨[], .nil, .nil⟩
      | @cons p v l us h hr ih =>
        intro hp ha
        simp only [List.map_cons, List.flatten_cons, List.all_append, Bool.and_eq_true] at ha
        obtain ⟨v1, h1, h2⟩ := comp_V1 h (hp p (by simp)) ha.1
        obtain ⟨vs, h3, h4⟩ := ih (fun q hq => hp q (by simp [hq])) ha.2
        exact ⟨v1 ++ vs, .cons h1 h3, F2.append h2 h4⟩
    obtain ⟨vs, h1, h2⟩ := key h (fun p hp' => hp (p.1, p.2.length) (by simp only [AV.shape, List.mem_map]; exact ⟨p, hp', rfl⟩)) ha
    by_cases hl : ∃ p, AV.shape (.tup l) = [p]
    · exfalso
      obtain ⟨p, e⟩ := hl
      match l, e with
      | [q], _ => simp [notSingle] at hns
    · exact ⟨vs, .inr ⟨fun p e => hl ⟨p, e⟩, us, rfl, h1⟩, h2⟩

theorem vals_res {sh : List (Bool × Nat)} {u : Value} {vs : List Value} (h : ValS sh u vs) {l : List AC} (hc : CRs w ρ F N l vs) : VR w ρ F N (mkRes sh l) u := by
  rcases h with ⟨b, n, rfl, h⟩ | ⟨hne, us, rfl, h⟩
  · exact (V1_comp h hc).1
  · have e : mkRes sh l = .tup (split sh l) := by
      unfold mkRes
      split
      · rename_i b n; exact absurd rfl (hne (b, n))
      · rfl
    rw [e]
    refine ⟨us, rfl, ?_⟩
    clear e hne
    generalize us.toList = ul at h
    induction h generalizing l with
    | nil => exact .nil
    | @cons b n sh u us v1 vs h1 _ ih =>
      have hl : (l.take n) ++ l.drop n = l := List.take_append_drop ..
      have h2 := F2.take hc n
      have h3 := F2.drop hc n
      have e1 : (v1 ++ vs).take n = v1 := by have := takeA v1 vs 0; rw [Nat.add_zero, h1.2.2] at this; simpa using this
      have e2 : (v1 ++ vs).drop n = vs := by have := dropA v1 vs 0; rw [Nat.add_zero, h1.2.2] at this; simpa using this
      rw [e1] at h2
      rw [e2] at h3
      exact .cons (V1_comp h1 h2).2 (ih h3)
end
end Go.Proofs.Ytaaljooihacpgaa.Am
