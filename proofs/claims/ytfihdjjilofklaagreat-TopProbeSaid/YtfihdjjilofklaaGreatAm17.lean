/- Calls of functions of typed data and memory, seen by the caller. -/
import Derived.Test.YtfihdjjilofklaaGreatAm12
set_option linter.unusedVariables false
set_option linter.unusedSimpArgs false
namespace Go.Proofs.YtfihdjjilofklaaGreat.Am
open Go
def argCells (m : List AO) : List MK → List AV → Option (List AC × List AC)
 | [], [] => some ([], [])
 | k :: ks, v :: vs => match argCells m ks vs with
  | some (o, d) => match k, v with
   | .d true t, .agg l => if l.length = t.size then some (o, l ++ d) else none
   | .d false t, .one c => if 1 = t.size ∧ isAny c = false then some (o, c :: d) else none
   | .r t .none, .one (.ptr n off) => match m[n]? with
    | some (.var _ l) => if off = 0 ∧ l.length = t.size then some (o, l ++ d) else none
    | _ => none
   | .r t .none, .one (.fp t' x off) => if t' = t ∧ off = 0 then some (o, flat t' x ++ d) else none
   | .r t (.some g), .one (.clo f n) => match m[n]? with
    | some (.var _ l) => if f = g ∧ l.length = t.size then some (o, l ++ d) else none
    | _ => none
   | .r t (.some g), .one (.cfr f t' x) => if t' = t ∧ f = g then some (o, flat t' x ++ d) else none
   | .o _ _, .one c => if isAny c = false then some (c :: o, d) else none
   | .f n, .one (.fn k) => if k = n then some (o, d) else none
   | _, _ => none
  | none => none
 | _, _ => none
def refsOf : List MK → List AV → List Nat
 | .r _ _ :: ks, .one (.ptr n _) :: vs => n :: refsOf ks vs
 | .r _ _ :: ks, .one (.clo _ n) :: vs => n :: refsOf ks vs
 | _ :: ks, _ :: vs => refsOf ks vs
 | _, _ => []
def noRef : List Nat → Bool
 | [] => true
 | _ :: _ => false
def noNm (l : List AC) : Bool := l.all fun c => match c.nm with
 | some _ => false
 | none => true
def encRs {R : Type} : (hs : List HT) → (prodU hs).den → Nat → (List AC → List AO → Option R) → Option R
 | [], _, _, κ => κ [] []
 | h :: hs, x, n, κ => encK h x.1 n fun l1 o1 => encRs hs x.2 (n + o1.length) fun l2 o2 => κ (l1 ++ l2) (o1 ++ o2)
def isGone : Option AO → Bool
 | some .gone => true
 | _ => false
def putOne : (h : HT) → AC → h.den → List AO → Option (List AO)
 | .own e t, c, x, m => match c with
  | .own n => if isGone m[n]? = true then some (m.set n (.row e t x)) else none
  | _ => none
 | .ptr T h, c, x, m => match c with
  | .ptr n off => if isGone m[n]? = true ∧ off = 0 then some ((m ++ (enc h x m.length).2).set n (.var T (enc h x m.length).1)) else none
  | _ => none
 | .clo g T h, c, x, m => match c with
  | .clo g' n => if isGone m[n]? = true ∧ g' = g then some ((m ++ (enc h x m.length).2).set n (.var T (enc h x m.length).1)) else none
  | _ => none
 | .d _, _, _, _ => none
 | .opt _ _, _, _, _ => none
 | .prod _ _, _, _, _ => none
 | .unit, _, _, _ => none
 | .mp ka va kt vt, c, x, m => match c with
  | .own n => if isGone m[n]? = true then some (m.set n (.mapo ka va kt vt x)) else none
  | _ => none
 | .nd T e a b, _, x, m => some (m ++ [.arena T e a b x.1 none])
 | .nilS, _, _, _ => none
def putO : (ks : List MK) → List AC → (outH ks).den → List AO → Option (List AO)
 | [], _, _, m => some m
 | .d _ _ :: ks, l, o, m => putO ks l o m
 | .r _ _ :: ks, l, o, m => putO ks l o m
 | .f _ :: ks, l, o, m => putO ks l o m
 | .o _ false :: ks, l, o, m => putO ks (l.drop 1) o m
 | .o h true :: ks, l, o, m => match l with
  | c :: l' => match putOne h c o.1 m with
   | some m' => putO ks l' o.2 m'
   | none => none
  | [] => none
def back1 (n k : Nat) (m : List AO) : Option (List AO) := bif Nat.beq n k then some m else match m[n]?, m[k]? with
 | some .gone, some o => some (((m.set n o).set k .gone).map (AO.swp n k))
 | _, _ => none
def backL : List Nat → List Nat → List AO → Option (List AO)
 | n :: a, k :: b, m => match back1 n k m with
  | some m' => backL a b m'
  | none => none
 | _, _, m => some m
def backs (D : DFn) (oc : List AC) (m m2 : List AO) : Option (List AO) := match D.kp with
 | none => some m2
 | some _ => match kpN m D.args (lentO D.args oc), kpN m2 D.args (lentO D.args oc) with
  | some a, some b => backL a b m2
  | _, _ => none
def mcall0 (D : DFn) (R : Type) (args : List AV) (m : List AO) (κ : AV → List AO → List (Nat × AC) → Option R) : Option R :=
 match argCells m D.args args with
 | none => none
 | some (oc, dc) => match hdec (ownH D.args) oc m with
  | some (xo, [], mr) => match unflatAll (datT D.args) (dc.map (brw mr)) with
   | none => none
   | some xd => if (((noNm dc && noRef (refsOf D.args args)) || ((prodU (D.res.map (·.2))).flatB && (outH D.args).flatB)) && ((refsOf D.args args).all (isLive mr) && (!D.arB || mr.all fun o => !isArena o))) = true then
     (D.f (merge D.args xo xd)).bind fun y =>
      encRs (D.res.map (·.2)) (D.rs y) mr.length fun cs os => match putO D.args oc (D.os y) (mr ++ os) with
       | some m2 => match backs D oc m m2 with
        | some m3 => κ (mkRes (shapeH D.res) cs) m3 []
        | none => none
       | none => none
    else none
  | _ => none
def ownsC : List AC → List Nat
 | [] => []
 | .own n :: l => n :: ownsC l
 | _ :: l => ownsC l
def AO.sbs (ch : List (Nat × AC)) : AO → AO
 | .var T l => .var T (l.map (AC.sbs ch))
 | o => o
def frzM (ns : List Nat) (ch : List (Nat × AC)) (m : List AO) : List AO := kills ns (m.map (AO.sbs ch))
def frzCh (ns : List Nat) (m : List AO) : List (Nat × AC) := ns.map fun n => (n, brw m (.own n))
def mcall (D : DFn) (R : Type) (args : List AV) (m : List AO) (κ : AV → List AO → List (Nat × AC) → Option R) : Option R :=
 match argCells m D.args args with
 | none => none
 | some (_, dc) =>
  if ((noNm dc && noRef (refsOf D.args args)) || ((prodU (D.res.map (·.2))).flatB && (outH D.args).flatB)) = true then mcall0 D R args m κ
  else if (ownsC dc).all (fun n => match m[n]? with
   | some (.row _ _ _) => true
   | _ => false) = true then
   mcall0 D R (args.map (AV.sbs (frzCh (ownsC dc) m))) (frzM (ownsC dc) (frzCh (ownsC dc) m) m) fun x m' _ => κ x m' (frzCh (ownsC dc) m)
  else none
section
variable {w : World} {ρ : Nat → Value} {F : FS} {N : Nat}
theorem refs_tail {k : MK} {ks : List MK} {v : AV} {vs : List AV} {n : Nat} (h : n ∈ refsOf ks vs) : n ∈ refsOf (k :: ks) (v :: vs) := by
 unfold refsOf
 split
 ·rename_i e1 e2
  cases e1
  cases e2
  exact List.mem_cons_of_mem _ h
 ·rename_i e1 e2
  cases e1
  cases e2
  exact List.mem_cons_of_mem _ h
 ·rename_i e1 e2
  cases e1
  cases e2
  exact h
 ·rename_i h2
  exact absurd rfl (h2 _ _ _ _ rfl)
theorem argCells_ok {m : List AO} (hm : MR w ρ F m) : ∀ {ks : List MK} {args : List AV} {oc dc : List AC} {vals : List Value}, argCells m ks args = some (oc, dc) → F2 (VR w ρ F m.length) args vals →
  ∃ vs ovs dvs, Vals w (F.plus fun b => ∃ n ∈ refsOf ks args, b ∈ blk (ρ n)) ks vals vs ∧ Mix ks vs ovs dvs ∧ CRs w ρ F m.length oc ovs ∧ CRs w ρ F m.length dc dvs
 | [], [], oc, dc, vals, h, hv => by
  simp [argCells] at h
  obtain ⟨rfl, rfl⟩ := h
  cases hv
  exact ⟨[], [], [], .nil, .nil, .nil, .nil⟩
 | [], _ :: _, oc, dc, vals, h, hv => by simp [argCells] at h
 | _ :: _, [], oc, dc, vals, h, hv => by simp [argCells] at h
 | k :: ks, x :: args, oc, dc, vals, h, hv => by
  unfold argCells at h
  split at h
  case h_2 => cases h
  rename_i o d h1
  cases hv with
  | @cons _ v _ vals h2 h3 =>
   obtain ⟨vs, ovs, dvs, k1, k2, k3, k4⟩ := argCells_ok hm h1 h3
   have k1 : Vals w (F.plus fun b => ∃ n ∈ refsOf (k :: ks) (x :: args), b ∈ blk (ρ n)) ks vals vs := k1.mono fun b hb => Or.imp id (fun ⟨n, hn, e⟩ => ⟨n, refs_tail hn, e⟩) hb
   split at h
   ·rename_i t l
    split at h <;> cases h
    rename_i hl
    obtain ⟨us, rfl, h5⟩ := h2
    have hus : us.size = t.size := by have := F2.length h5; simp at this; omega
    exact ⟨us.toList ++ vs, ovs, us.toList ++ dvs, .agg hus k1, .d (by simpa using hus) k2, k3, F2.append h5 k4⟩
   ·rename_i t c
    split at h <;> cases h
    rename_i hl
    have hc : c ≠ .any := by intro e; subst e; simp [isAny] at hl
    exact ⟨v :: vs, ovs, v :: dvs, .one hl.1 k1, .d (l := [v]) (by simpa using hl.1) k2, k3, .cons (VR.CR h2 hc) k4⟩
   ·rename_i t n off
    split at h <;> try cases h
    rename_i T l hl
    split at h <;> cases h
    rename_i hz
    obtain ⟨rfl, hsz⟩ := hz
    obtain ⟨q1, b, q2, q3⟩ := VR.CR h2 (c := .ptr n 0) (by simp)
    subst q3
    obtain ⟨b', us, g1, g2, g3⟩ := hm.obj n _ hl
    rw [q2] at g1
    simp only [Value.pointer.injEq, Option.some.injEq, Addr.mk.injEq, and_true] at g1
    subst g1
    have hlen : us.toList.length = t.size := by have := F2.length g3; simp at this ⊢; omega
    refine ⟨us.toList ++ vs, ovs, us.toList ++ dvs, .ref (g := .none) hlen (.inr ⟨n, ?_, by rw [q2]; simp [blk, blk1]⟩) (cellsAt_var g2) k1, .r hlen k2, k3, F2.append g3 k4⟩
    exact List.mem_cons_self ..
   ·rename_i t t' x0 off
    split at h <;> cases h
    rename_i hz
    obtain ⟨rfl, rfl⟩ := hz
    obtain ⟨ad, us, q1, q2, q3, q4⟩ := VR.CR h2 (c := .fp t' x0 0) (by simp)
    subst q1
    exact ⟨us ++ vs, ovs, us ++ dvs, .ref (g := .none) (RT.len t' q3) (.inl q2) q4 k1, .r (RT.len t' q3) k2, k3, F2.append (RT_flat t' q3) k4⟩
   ·rename_i t g f n
    split at h <;> try cases h
    rename_i T l hl
    split at h <;> cases h
    rename_i hz
    obtain ⟨rfl, hsz⟩ := hz
    obtain ⟨q1, b, q2, q3⟩ := VR.CR h2 (c := .clo f n) (by simp)
    subst q3
    obtain ⟨b', us, g1, g2, g3⟩ := hm.obj n _ hl
    rw [q2] at g1
    simp only [Value.pointer.injEq, Option.some.injEq, Addr.mk.injEq, and_true] at g1
    subst g1
    have hlen : us.toList.length = t.size := by have := F2.length g3; simp at this ⊢; omega
    refine ⟨us.toList ++ vs, ovs, us.toList ++ dvs, .ref (g := .some f) hlen (.inr ⟨n, ?_, by rw [q2]; simp [blk, blk1]⟩) (cellsAt_var g2) k1, .r hlen k2, k3, F2.append g3 k4⟩
    exact List.mem_cons_self ..
   ·rename_i t g f t' x0
    split at h <;> cases h
    rename_i hz
    obtain ⟨rfl, rfl⟩ := hz
    obtain ⟨ad, us, q1, q2, q3, q4⟩ := VR.CR h2 (c := .cfr f t' x0) (by simp)
    subst q1
    exact ⟨us ++ vs, ovs, us ++ dvs, .ref (g := .some f) (RT.len t' q3) (.inl q2) q4 k1, .r (RT.len t' q3) k2, k3, F2.append (RT_flat t' q3) k4⟩
   ·rename_i h' b c
    split at h <;> cases h
    rename_i hl
    have hc : c ≠ .any := by intro e; subst e; simp [isAny] at hl
    exact ⟨v :: vs, v :: ovs, dvs, .own k1, .o k2, .cons (VR.CR h2 hc) k3, k4⟩
   ·rename_i n k'
    split at h <;> cases h
    rename_i hk
    subst hk
    have hv : v = .func (.func k') #[] #[] := VR.CR h2 (by simp)
    subst hv
    exact ⟨vs, ovs, dvs, .fn k1, .f k2, k3, k4⟩
   ·cases h
theorem merge_HR : ∀ {ks : List MK} {vs ovs dvs us : List Value} {xo : (ownH ks).den} {xd : (datT ks).den}, okArgs ks = true → Mix ks vs ovs dvs → HR w F (ownH ks) xo ovs us → RT w F (datT ks) xd dvs → HR w F (argH ks) (merge ks xo xd) vs us
 | [], vs, ovs, dvs, us, xo, xd, _, hm, ho, hd => by
  cases hm
  exact ho
 | .d b t :: ks, vs, ovs, dvs, us, xo, xd, hok, hm, ho, hd => by
  cases hm with
  | @d _ _ _ l vs _ ds hl hm =>
   obtain ⟨l1, l2, e, h1, h2⟩ := hd
   have : l = l1 ∧ ds = l2 := List.append_inj e (by rw [hl, RT.len t h1])
   obtain ⟨rfl, rfl⟩ := this
   exact ⟨l, vs, [], us, rfl, rfl, ⟨h1, rfl⟩, merge_HR (ks := ks) hok hm ho h2⟩
 | .r t _ :: ks, vs, ovs, dvs, us, xo, xd, hok, hm, ho, hd => by
  cases hm with
  | @r _ _ _ l vs _ ds hl hm =>
   obtain ⟨l1, l2, e, h1, h2⟩ := hd
   have : l = l1 ∧ ds = l2 := List.append_inj e (by rw [hl, RT.len t h1])
   obtain ⟨rfl, rfl⟩ := this
   exact ⟨l, vs, [], us, rfl, rfl, ⟨h1, rfl⟩, merge_HR (ks := ks) hok hm ho h2⟩
 | .o h b :: ks, vs, ovs, dvs, us, xo, xd, hok, hm, ho, hd => by
  simp only [okArgs, Bool.and_eq_true] at hok
  cases hm with
  | @o _ _ _ v vs os _ hm =>
   obtain ⟨v1, v2, u1, u2, e, rfl, h1, h2⟩ := ho
   have hl := HR.len h h1
   have : h.size = 1 := Nat.eq_of_beq_eq_true hok.1
   rw [this] at hl
   obtain ⟨v', rfl⟩ := List.length_eq_one_iff.1 hl
   simp only [List.singleton_append, List.cons.injEq] at e
   obtain ⟨rfl, rfl⟩ := e
   exact ⟨[v], vs, u1, u2, rfl, rfl, h1, merge_HR (ks := ks) hok.2 hm h2 hd⟩
 | .f n :: ks, vs, ovs, dvs, us, xo, xd, hok, hm, ho, hd => by
  cases hm with
  | f hm => exact merge_HR (ks := ks) hok hm ho hd
theorem lentOf_mix : ∀ {ks : List MK} {vs ovs dvs : List Value}, Mix ks vs ovs dvs → lentOf ks vs = lentO ks ovs
 | [], _, _, _, h => rfl
 | .d b t :: ks, _, _, _, h => by
  cases h with
  | @d _ _ _ l vs _ ds hl hm =>
   unfold lentOf lentO
   rw [← lentOf_mix hm]
   congr 1
   have := dropA l vs 0
   rw [Nat.add_zero, hl] at this
   simpa using this
 | .r t _ :: ks, _, _, _, h => by
  cases h with
  | @r _ _ _ l vs _ ds hl hm =>
   unfold lentOf lentO
   rw [← lentOf_mix hm]
   congr 1
   have := dropA l vs 0
   rw [Nat.add_zero, hl] at this
   simpa using this
 | .o h' b :: ks, _, _, _, h => by
  cases h with
  | @o _ _ _ v vs os _ hm =>
   cases b
   ·exact lentOf_mix (ks := ks) hm
   ·show [v] ++ lentOf ks vs = [v] ++ lentO ks os
    rw [lentOf_mix hm]
 | .f n :: ks, _, _, _, h => by
  cases h with
  | f hm => exact lentOf_mix (ks := ks) hm
theorem noNm_brw {m : List AO} {l : List AC} (h : noNm l = true) : l.map (brw m) = l := by
 have h8 : ∀ c ∈ l, brw m c = id c := fun c hc => by
  have := List.all_eq_true.1 h c hc
  apply brw_noOwn
  cases hn : c.nm with
  | none => rfl
  | some n => rw [hn] at this; simp at this
 rw [List.map_congr_left h8]
 simp
theorem encRs_eq {R : Type} : ∀ (hs : List HT) (x : (prodU hs).den) (n : Nat) (κ : List AC → List AO → Option R), encRs hs x n κ = κ (enc (prodU hs) x n).1 (enc (prodU hs) x n).2
 | [], x, n, κ => rfl
 | h :: hs, x, n, κ => by
  unfold encRs
  rw [encK_eq h, encRs_eq hs]
  rfl
theorem isGone_of {o : Option AO} (h : isGone o = true) : o = some .gone := by
 unfold isGone at h
 split at h
 ·rfl
 ·cases h
theorem Own.set_of {m : List AO} {n b : Nat} {o : AO} (h : Own ρ (m.set n o) b) : Own ρ m b ∨ b ∈ blk (ρ n) := by
 obtain ⟨k, ⟨q, h1, h2⟩, h3⟩ := h
 by_cases e : k = n
 ·subst e; exact .inr h3
 ·rw [List.getElem?_set_ne (fun e' => e e'.symm)] at h1
  exact .inl ⟨k, ⟨q, h1, h2⟩, h3⟩
theorem putOne_ok : ∀ (h : HT) {c : AC} {x : h.den} {m m' : List AO} {v : Value} {us us2 : List Value} {N : Nat}, N ≤ m.length → putOne h c x m = some m' → CR w ρ F N c v → HR w F h x [v] us → Bag w ρ F m (us ++ us2) →
  ∃ ρ', (∀ k, k < m.length → ρ' k = ρ k) ∧ Bag w ρ' F m' us2 ∧ m.length ≤ m'.length ∧ ∀ b, Own ρ' m' b → Own ρ m b ∨ ∃ u ∈ us, b ∈ blk u
 | .own e t, c, x, m, m', v, us, us2, N, hN, h, hc, hh, hb => by
  cases c <;> simp only [putOne] at h <;> try cases h
  rename_i n
  split at h <;> cases h
  rename_i hg
  obtain ⟨v', e1, rfl, ho⟩ := hh
  cases e1
  obtain ⟨k1, k2, k3⟩ := hc
  subst k2
  have hb2 := Bag.fill (o := .row e t x) hb (isGone_of hg) ho
  refine ⟨ρ, fun _ _ => rfl, hb2, by simp, fun b hb' => ?_⟩
  rcases hb'.set_of with q | q
  ·exact .inl q
  ·exact .inr ⟨ρ n, by simp, q⟩
 | .ptr T h, c, x, m, m', v, us, us2, N, hN, hp, hc, hh, hb => by
  cases c <;> simp only [putOne] at hp <;> try cases hp
  rename_i n off
  split at hp <;> cases hp
  rename_i hg
  obtain ⟨hg, rfl⟩ := hg
  obtain ⟨b, cs, us', e1, rfl, h1, h2⟩ := hh
  cases e1
  obtain ⟨k1, b', k2, k3⟩ := hc
  simp only [Value.pointer.injEq, Option.some.injEq, Addr.mk.injEq, and_true] at k3
  subst k3
  have hnlt : n < m.length := (List.getElem?_eq_some_iff.1 (isGone_of hg)).1
  have hb2 : Bag w ρ F m (us' ++ (ρ n :: us2)) := by
   rw [k2]
   exact hb.perm (by simp only [List.cons_append]; exact List.perm_middle.symm)
  obtain ⟨ρ', g1, g2, g3, g4⟩ := enc_ok h (x := x) (us2 := ρ n :: us2) h2 hb2
  have hn : ρ' n = ρ n := g1 n hnlt
  have hgn : (m ++ (enc h x m.length).2)[n]? = some .gone := by
   rw [List.getElem?_append_left hnlt]
   exact isGone_of hg
  have hb3 := Bag.fill (n := n) (o := .var T (enc h x m.length).1) (by rw [hn]; exact g2) hgn ⟨b, cs, by rw [hn, k2], h1, g3⟩
  refine ⟨ρ', g1, hb3, by simp, fun b2 hb' => ?_⟩
  rcases hb'.set_of with q | q
  ·rcases g4 b2 q with q | ⟨u, hu, hu2⟩
   ·exact .inl q
   ·exact .inr ⟨u, by simp [hu], hu2⟩
  ·rw [hn, k2] at q
   exact .inr ⟨_, by simp, q⟩
 | .clo g T h, c, x, m, m', v, us, us2, N, hN, hp, hc, hh, hb => by
  cases c <;> simp only [putOne] at hp <;> try cases hp
  rename_i g' n
  split at hp <;> cases hp
  rename_i hg
  obtain ⟨hg, rfl⟩ := hg
  obtain ⟨b, cs, us', e1, rfl, h1, h2⟩ := hh
  cases e1
  obtain ⟨k1, b', k2, k3⟩ := hc
  cases k3
  have hnlt : n < m.length := (List.getElem?_eq_some_iff.1 (isGone_of hg)).1
  have hb2 : Bag w ρ F m (us' ++ (ρ n :: us2)) := by
   rw [k2]
   exact hb.perm (by simp only [List.cons_append]; exact List.perm_middle.symm)
  obtain ⟨ρ', g1, g2, g3, g4⟩ := enc_ok h (x := x) (us2 := ρ n :: us2) h2 hb2
  have hn : ρ' n = ρ n := g1 n hnlt
  have hgn : (m ++ (enc h x m.length).2)[n]? = some .gone := by
   rw [List.getElem?_append_left hnlt]
   exact isGone_of hg
  have hb3 := Bag.fill (n := n) (o := .var T (enc h x m.length).1) (by rw [hn]; exact g2) hgn ⟨b, cs, by rw [hn, k2], h1, g3⟩
  refine ⟨ρ', g1, hb3, by simp, fun b2 hb' => ?_⟩
  rcases hb'.set_of with q | q
  ·rcases g4 b2 q with q | ⟨u, hu, hu2⟩
   ·exact .inl q
   ·exact .inr ⟨u, by simp [hu], hu2⟩
  ·rw [hn, k2] at q
   exact .inr ⟨_, by simp, q⟩
 | .d t, c, x, m, m', v, us, us2, N, hN, h, hc, hh, hb => by simp [putOne] at h
 | .opt T h', c, x, m, m', v, us, us2, N, hN, h, hc, hh, hb => by simp [putOne] at h
 | .prod a b, c, x, m, m', v, us, us2, N, hN, h, hc, hh, hb => by simp [putOne] at h
 | .unit, c, x, m, m', v, us, us2, N, hN, h, hc, hh, hb => by simp [putOne] at h
 | .mp ka va kt vt, c, x, m, m', v, us, us2, N, hN, h, hc, hh, hb => by
  cases c <;> simp only [putOne] at h <;> try cases h
  rename_i n
  split at h <;> cases h
  rename_i hg
  obtain ⟨v', e1, rfl, ho⟩ := hh
  cases e1
  obtain ⟨k1, k2, k3⟩ := hc
  subst k2
  have hb2 := Bag.fill (o := .mapo ka va kt vt x) hb (isGone_of hg) ho
  refine ⟨ρ, fun _ _ => rfl, hb2, by simp, fun b hb' => ?_⟩
  rcases hb'.set_of with q | q
  ·exact .inl q
  ·exact .inr ⟨ρ n, by simp, q⟩
 | .nd T e a b, c, x, m, m', v, us, us2, N, hN, h, hc, hh, hb => by
  simp only [putOne, Option.some.injEq] at h
  subst h
  obtain ⟨ρ', g1, g2, g3, g4⟩ := enc_ok (.nd T e a b) hh hb
  exact ⟨ρ', g1, g2, by simp, g4⟩
 | .nilS, c, x, m, m', v, us, us2, N, hN, h, hc, hh, hb => by simp [putOne] at h
theorem putO_ok : ∀ (ks : List MK) {l : List AC} {o : (outH ks).den} {m m' : List AO} {ovs us us2 : List Value} {N : Nat} {ρ : Nat → Value}, okArgs ks = true → N ≤ m.length → putO ks l o m = some m' → CRs w ρ F N l ovs → HR w F (outH ks) o (lentO ks ovs) us → Bag w ρ F m (us ++ us2) →
  ∃ ρ', (∀ k, k < m.length → ρ' k = ρ k) ∧ Bag w ρ' F m' us2 ∧ m.length ≤ m'.length ∧ ∀ b, Own ρ' m' b → Own ρ m b ∨ ∃ u ∈ us, b ∈ blk u
 | [], l, o, m, m', ovs, us, us2, N, ρ, hok, hN, h, hc, hh, hb => by
  unfold putO at h
  cases h
  obtain ⟨_, rfl⟩ := hh
  exact ⟨ρ, fun _ _ => rfl, by simpa using hb, Nat.le_refl _, fun b hb' => .inl hb'⟩
 | .d _ _ :: ks, l, o, m, m', ovs, us, us2, N, ρ, hok, hN, h, hc, hh, hb => putO_ok ks hok hN h hc hh hb
 | .r _ _ :: ks, l, o, m, m', ovs, us, us2, N, ρ, hok, hN, h, hc, hh, hb => putO_ok ks hok hN h hc hh hb
 | .f _ :: ks, l, o, m, m', ovs, us, us2, N, ρ, hok, hN, h, hc, hh, hb => putO_ok ks hok hN h hc hh hb
 | .o h0 false :: ks, l, o, m, m', ovs, us, us2, N, ρ, hok, hN, h, hc, hh, hb => by
  simp only [okArgs, Bool.and_eq_true] at hok
  exact putO_ok ks hok.2 hN h (F2.drop hc 1) hh hb
 | .o h0 true :: ks, l, o, m, m', ovs, us, us2, N, ρ, hok, hN, h, hc, hh, hb => by
  simp only [okArgs, Bool.and_eq_true] at hok
  unfold putO at h
  split at h <;> try cases h
  rename_i c l'
  split at h <;> try cases h
  rename_i m1 h1
  cases hc with
  | @cons _ v _ ovs hc1 hc2 =>
   obtain ⟨v1, v2, u1, u2, e, rfl, g1, g2⟩ := hh
   have hl := HR.len h0 g1
   rw [Nat.eq_of_beq_eq_true hok.1] at hl
   obtain ⟨v', rfl⟩ := List.length_eq_one_iff.1 hl
   have e : v = v' ∧ lentO ks ovs = v2 := by
    have e' : [v] ++ lentO ks ovs = [v'] ++ v2 := e
    simpa using e'
   obtain ⟨rfl, rfl⟩ := e
   rw [List.append_assoc] at hb
   obtain ⟨ρ1, k1, k2, k3, k4⟩ := putOne_ok h0 hN h1 hc1 g1 hb
   obtain ⟨ρ2, f1, f2, f3, f4⟩ := putO_ok ks hok.2 (Nat.le_trans hN k3) h (CRs.mono (Mv.refl w F) (fun c _ n hn _ => k1 n (Nat.lt_of_lt_of_le hn hN)) (Nat.le_refl _) hc2) g2 k2
   refine ⟨ρ2, fun k hk => by rw [f1 k (Nat.lt_of_lt_of_le hk k3), k1 k hk], f2, Nat.le_trans k3 f3, fun b hb' => ?_⟩
   rcases f4 b hb' with q | ⟨u, hu, hu2⟩
   ·rcases k4 b q with q | ⟨u, hu, hu2⟩
    ·exact .inl q
    ·exact .inr ⟨u, by simp [hu], hu2⟩
   ·exact .inr ⟨u, by simp [hu], hu2⟩
theorem Bag.turn {w' : World} {F' F2 : FS} {m : List AO} {us us' : List Value} (h : Bag w ρ F m us) (h0 : ∀ b, F' b → b < w'.heap.size) (hi : us'.Pairwise fun u v => ∀ b, b ∈ blk u → b ∉ blk v) (hs : ∀ u ∈ us', ∀ b, b ∈ blk u → ¬ F' b) (hl : ∀ u ∈ us', ∀ b, b ∈ blk u → b < w'.heap.size)
  (hsz : w.heap.size ≤ w'.heap.size) (hk : ∀ b, b < w.heap.size → (∀ u ∈ us, b ∉ blk u) → w'.heap[b]? = w.heap[b]?) (hle : F.le F2) (hFF : ∀ b, F b → F' b) (ho : ∀ u ∈ us', ∀ b, b ∈ blk u → (∃ v ∈ us, b ∈ blk v) ∨ w.heap.size ≤ b)
  (hF2 : ∀ b, F2 b ↔ F b ∨ (F' b ∧ ((∃ u ∈ us, b ∈ blk u) ∨ w.heap.size ≤ b))) (hA : ∀ o ∈ m, isArena o = false ∨ F.same F2) : Bag w' ρ F2 m us' := by
 have hmv : Mv w w' F F2 := ⟨hle, fun b hb => hk b (h.mr.lt b hb) (fun u hu e => h.sep u hu b e hb)⟩
 have hob : ∀ n b, live m n → b ∈ blk (ρ n) → b < w.heap.size := fun n b hn hb => by
  obtain ⟨o, h1, h2⟩ := hn
  exact obj_blk_lt (h.mr.obj n o h1) h2 hb
 refine ⟨⟨fun n o hn => ?_, h.mr.inj, fun n b hn hb hf => ?_, fun b hb => ?_⟩, hi, fun u hu b hb hf => ?_, fun n u b hn hu hb he => ?_, hl⟩
 ·cases hg : o with
  | gone => trivial
  | _ =>
   rw [← hg]
   have hln : live m n := ⟨o, hn, by rw [hg]; simp⟩
   exact (h.mr.obj n o hn).mono hmv (fun _ _ _ _ _ _ _ _ => rfl) (Nat.le_refl _) (fun b hb => hk b (hob n b hln hb) (fun u hu e => h.off n u b hln hu hb e)) (hA o (List.mem_of_getElem? hn))
 ·rcases (hF2 b).1 hf with hf | ⟨_, ⟨u, hu, e⟩ | hf⟩
  ·exact h.mr.sep n b hn hb hf
  ·exact h.off n u b hn hu hb e
  ·have := hob n b hn hb; omega
 ·rcases (hF2 b).1 hb with hf | ⟨hf, _⟩
  ·exact Nat.lt_of_lt_of_le (h.mr.lt b hf) hsz
  ·exact h0 b hf
 ·rcases (hF2 b).1 hf with hf | ⟨hf, _⟩
  ·exact hs u hu b hb (hFF b hf)
  ·exact hs u hu b hb hf
 ·rcases ho u hu b he with ⟨v, hv, e⟩ | h1
  ·exact h.off n v b hn hv hb e
  ·have := hob n b hn hb; omega
end
section
variable {w w' : World} {ρ ρ2 : Nat → Value} {F FF : FS}
theorem lentO_F2 {α β : Type} {R : α → β → Prop} : ∀ (ks : List MK) {l : List α} {r : List β}, F2 R l r → F2 R (lentO ks l) (lentO ks r)
 | [], _, _, _ => .nil
 | .d _ t :: ks, l, r, h => lentO_F2 ks h
 | .r t _ :: ks, l, r, h => lentO_F2 ks h
 | .o _ true :: ks, l, r, h => F2.append (F2.take h 1) (lentO_F2 ks (F2.drop h 1))
 | .o _ false :: ks, l, r, h => lentO_F2 ks (F2.drop h 1)
 | .f _ :: ks, l, r, h => lentO_F2 ks h
theorem back1_ok {n k : Nat} {m m' : List AO} (hm : MR w ρ F m) (he : ρ n = ρ k) (h : back1 n k m = some m') : MR w ρ F m' ∧ m'.length = m.length ∧ ∀ b, Own ρ m' b → Own ρ m b := by
 unfold back1 at h
 cases hnk : Nat.beq n k with
 | true => rw [hnk] at h; cases h; exact ⟨hm, rfl, fun _ h => h⟩
 | false =>
  rw [hnk, cond_false] at h
  split at h <;> cases h
  rename_i o hn hk
  have hne : n ≠ k := fun e => by subst e; rw [Nat.beq_refl] at hnk; cases hnk
  have hnl : n < m.length := (List.getElem?_eq_some_iff.1 hn).1
  have hkl : k < m.length := (List.getElem?_eq_some_iff.1 hk).1
  have hρ : (fun j => ρ (swN n k j)) = ρ := by
   funext j
   unfold swN
   cases h1 : Nat.beq j n with
   | true => have := Nat.eq_of_beq_eq_true h1; subst this; exact he.symm
   | false =>
    cases h2 : Nat.beq j k with
    | true => have := Nat.eq_of_beq_eq_true h2; subst this; exact he
    | false => rfl
  have hl : (((m.set n o).set k .gone).map (AO.swp n k)).length = m.length := by simp
  have hget : ∀ j q, (((m.set n o).set k .gone).map (AO.swp n k))[j]? = some q → ∃ q0, q = AO.swp n k q0 ∧ ((j = n ∧ q0 = o) ∨ q0 = .gone ∨ (j ≠ n ∧ j ≠ k ∧ m[j]? = some q0)) := by
   intro j q hq
   rw [List.getElem?_map] at hq
   obtain ⟨q0, h1, rfl⟩ := Option.map_eq_some_iff.1 hq
   refine ⟨q0, rfl, ?_⟩
   by_cases e1 : j = k
   ·subst e1
    rw [List.getElem?_set_self (by simpa using hkl)] at h1
    cases h1
    exact .inr (.inl rfl)
   ·rw [List.getElem?_set_ne (fun e => e1 e.symm)] at h1
    by_cases e2 : j = n
    ·subst e2
     rw [List.getElem?_set_self hnl] at h1
     cases h1
     exact .inl ⟨rfl, rfl⟩
    ·rw [List.getElem?_set_ne (fun e => e2 e.symm)] at h1
     exact .inr (.inr ⟨e2, e1, h1⟩)
  have hobj : ∀ (q0 : AO) (v : Value), ObjR w ρ F m.length q0 v → ObjR w ρ F m.length (AO.swp n k q0) v := by
   intro q0 v hq
   cases q0 with
   | var T l =>
    obtain ⟨b, vs, k1, k2, k3⟩ := hq
    refine ⟨b, vs, k1, k2, ?_⟩
    have := CRs_swp hnl hkl k3
    rw [hρ] at this
    exact this
   | row e t xs => exact hq
   | mapo ka va kt vt xs => exact hq
   | arena T e a b recs pend => exact hq
   | gone => exact hq
  have hlive : ∀ j, live (((m.set n o).set k .gone).map (AO.swp n k)) j → (j = n ∧ live m k) ∨ (j ≠ n ∧ j ≠ k ∧ live m j) := by
   intro j ⟨q, h1, h2⟩
   obtain ⟨q0, rfl, ⟨e, rfl⟩ | rfl | ⟨e1, e2, e3⟩⟩ := hget j q h1
   ·exact .inl ⟨e, _, hk, fun e => h2 (by rw [e]; rfl)⟩
   ·exact absurd rfl h2
   ·exact .inr ⟨e1, e2, q0, e3, fun e => h2 (by rw [e]; rfl)⟩
  refine ⟨⟨fun j q hq => ?_, fun i j b hi hj h1 h2 => ?_, fun j b hj h1 => ?_, hm.lt⟩, hl, ?_⟩
  ·rw [hl]
   obtain ⟨q0, rfl, ⟨e, rfl⟩ | rfl | ⟨e1, e2, e3⟩⟩ := hget j q hq
   ·subst e
    rw [he]
    exact hobj _ _ (hm.obj k _ hk)
   ·trivial
   ·exact hobj _ _ (hm.obj j _ e3)
  ·rcases hlive i hi with ⟨rfl, l1⟩ | ⟨e1, e2, l1⟩ <;> rcases hlive j hj with ⟨rfl, l2⟩ | ⟨e3, e4, l2⟩
   ·rfl
   ·rw [he] at h1; exact absurd (hm.inj k j b l1 l2 h1 h2).symm e4
   ·rw [he] at h2; exact absurd (hm.inj i k b l1 l2 h1 h2) e2
   ·exact hm.inj i j b l1 l2 h1 h2
  ·rcases hlive j hj with ⟨rfl, l1⟩ | ⟨e1, e2, l1⟩
   ·rw [he] at h1; exact hm.sep k b l1 h1
   ·exact hm.sep j b l1 h1
  ·rintro b ⟨j, hj, h1⟩
   rcases hlive j hj with ⟨rfl, l1⟩ | ⟨e1, e2, l1⟩
   ·rw [he] at h1; exact ⟨k, l1, h1⟩
   ·exact ⟨j, l1, h1⟩
theorem backL_ok : ∀ (a b : List Nat) {m m' : List AO}, MR w ρ F m → a.map ρ = b.map ρ → backL a b m = some m' → MR w ρ F m' ∧ m'.length = m.length ∧ ∀ b, Own ρ m' b → Own ρ m b
 | [], [], m, m', hm, he, h => by simp only [backL, Option.some.injEq] at h; subst h; exact ⟨hm, rfl, fun _ h => h⟩
 | [], _ :: _, m, m', hm, he, h => by cases he
 | _ :: _, [], m, m', hm, he, h => by cases he
 | n :: a, k :: b, m, m', hm, he, h => by
  unfold backL at h
  simp only [List.map_cons, List.cons.injEq] at he
  split at h <;> try cases h
  rename_i m1 h1
  obtain ⟨g1, g2, g3⟩ := back1_ok hm he.1 h1
  obtain ⟨g4, g5, g6⟩ := backL_ok a b g1 he.2 h
  exact ⟨g4, g5.trans g2, fun b hb => g3 b (g6 b hb)⟩
theorem backs_ok {D : DFn} {oc : List AC} {m m2 m3 : List AO} {N : Nat} {vs : List Value} (hm : MR w ρ F m) (hm2 : MR w' ρ2 FF m2) (h : backs D oc m m2 = some m3) (h1 : CRs w ρ F m.length (lentO D.args oc) vs) (h2 : CRs w' ρ2 FF N (lentO D.args oc) vs)
  (hρ : ∀ n, n < m.length → ρ2 n = ρ n) (hk : ∀ L, D.kp = some L → kpV w' D.args vs = kpV w D.args vs) : MR w' ρ2 FF m3 ∧ m3.length = m2.length ∧ ∀ b, Own ρ2 m3 b → Own ρ2 m2 b := by
 unfold backs at h
 split at h
 ·cases h; exact ⟨hm2, rfl, fun _ h => h⟩
 ·rename_i L hL
  split at h <;> try cases h
  rename_i a b ha hb
  obtain ⟨k1, k2⟩ := kpN_ok hm D.args ha h1
  obtain ⟨k3, _⟩ := kpN_ok hm2 D.args hb h2
  refine backL_ok a b hm2 ?_ h
  rw [← k3, hk L hL, k1]
  exact List.map_congr_left fun n hn => hρ n (k2 n hn)
end
section
variable {P : Program} {pu : Prop}
theorem noO_us {w : World} {F : FS} : ∀ {ks : List MK} {x : (ownH ks).den} {vs us : List Value}, noO ks = true → HR w F (ownH ks) x vs us → us = []
 | [], _, _, _, _, h => h.2
 | .d _ _ :: ks, x, vs, us, hn, h => noO_us (ks := ks) hn h
 | .r _ _ :: ks, x, vs, us, hn, h => noO_us (ks := ks) hn h
 | .f _ :: ks, x, vs, us, hn, h => noO_us (ks := ks) hn h
 | .o _ _ :: ks, x, vs, us, hn, h => by simp [noO] at hn
theorem kills_get : ∀ (ns : List Nat) (m : List AO) (k : Nat), (kills ns m).length = m.length ∧ ∀ o, (kills ns m)[k]? = some o → o = AO.gone ∨ (k ∉ ns ∧ m[k]? = some o)
 | [], m, k => ⟨rfl, fun o h => .inr ⟨by simp, h⟩⟩
 | n :: ns, m, k => by
  obtain ⟨h1, h2⟩ := kills_get ns (m.set n .gone) k
  refine ⟨by unfold kills; rw [h1]; simp, fun o ho => ?_⟩
  unfold kills at ho
  rcases h2 o ho with h | ⟨h3, h4⟩
  ·exact .inl h
  ·rw [List.getElem?_set] at h4
   split at h4
   ·split at h4
    ·cases h4; exact .inl rfl
    ·cases h4
   ·rename_i hne
    exact .inr ⟨by simp only [List.mem_cons, not_or]; exact ⟨fun e => hne e.symm, h3⟩, h4⟩
theorem isLiveB_spec {m : List AO} {n : Nat} (h : isLive m n = true) : live m n := by
 unfold isLive at h
 split at h
 ·cases h
 ·rename_i o hne hn
  exact ⟨_, hn, fun e => hne e⟩
 ·cases h
theorem mcall0_ok {f : Nat} {D : DFn} (hD : FnOk P f D) (hfit : D.Fit) (hpu : pu → noO D.args = true) {R : Type} {args : List AV} {m : List AO} {κ : AV → List AO → List (Nat × AC) → Option R} {r : R} (h : mcall0 D R args m κ = some r) :
  ∃ x m' ch, κ x m' ch = some r ∧ ch = [] ∧ CallOk P pu f args m x m' ch := by
 unfold mcall0 at h
 split at h
 ·cases h
 rename_i oc dc hac
 split at h <;> try cases h
 rename_i xo mr hx
 split at h
 ·cases h
 rename_i xd hd
 split at h <;> try cases h
 rename_i hfl
 rw [Bool.and_eq_true, Bool.and_eq_true] at hfl
 obtain ⟨hfl, hlv, hnoA⟩ := hfl
 obtain ⟨y, hy, hk⟩ := Option.bind_eq_some_iff.1 h
 rw [encRs_eq] at hk
 split at hk
 case h_2 => cases hk
 rename_i m2 hput
 split at hk
 case h_2 => cases hk
 rename_i m3 hback
 refine ⟨_, _, _, hk, rfl, hD.1, fun w ρ F vals hvals hm hgb => ?_⟩
 obtain ⟨vs, ovs, dvs, hV, hM, hO, hDC⟩ := argCells_ok hm hac hvals
 have hb0 : Bag w ρ F m [] := ⟨hm, .nil, fun u hu => (by cases hu), fun n u b _ hu => (by cases hu), fun u hu => (by cases hu)⟩
 obtain ⟨v1, v2, us, e0, e1, hHR, hb1, hlen, hOm, hOu⟩ := hdec_ok _ hx hb0 hO
 cases e1
 rw [List.append_nil] at e0
 subst e0
 simp only [List.nil_append] at hb1
 obtain ⟨G, hFG, hGs, hGlt, hGsep, hGF, hrt, hGr⟩ : ∃ G : FS, F.le G ∧ F.same G ∧ (∀ b, G b → b < w.heap.size) ∧ (∀ u ∈ us, ∀ b, b ∈ blk u → ¬ G b) ∧ ((noNm dc && noRef (refsOf D.args args)) = true → ∀ b, G b → F b) ∧ RT w G (datT D.args) xd dvs ∧ ∀ n ∈ refsOf D.args args, ∀ b, b ∈ blk (ρ n) → G b := by
  cases hno : (noNm dc && noRef (refsOf D.args args)) with
  | true =>
   rw [Bool.and_eq_true] at hno
   rw [noNm_brw hno.1] at hd
   refine ⟨F, .refl F, .refl F, hm.lt, hb1.sep, fun _ _ h => h, unflatAll_ok _ hd hDC, fun n hn => ?_⟩
   cases hr : refsOf D.args args with
   | nil => rw [hr] at hn; cases hn
   | cons a l => rw [hr] at hno; exact absurd hno.2 (by simp [noRef])
  | false =>
   have hDC' : CRs w ρ F mr.length dc dvs := by rw [hlen]; exact hDC
   have hbr : CRs w ρ (Fb ρ mr F) mr.length (dc.map (brw mr)) dvs := by
    have : ∀ {l : List AC} {us : List Value}, CRs w ρ F mr.length l us → CRs w ρ (Fb ρ mr F) mr.length (l.map (brw mr)) us := by
     intro l us hc
     induction hc with
     | nil => exact .nil
     | cons hc _ ih => exact .cons (brw_CR hb1.mr hc) ih
    exact this hDC'
   refine ⟨Fb ρ mr F, .plus F _, ⟨rfl, rfl⟩, fun b hb => ?_, fun u hu b hb hg => ?_, fun h => (by simp at h), unflatAll_ok _ hd hbr, fun n hn b hb => .inr ⟨n, isLiveB_spec (List.all_eq_true.1 hlv n hn), hb⟩⟩
   ·rcases hb with hb | ⟨n, ⟨o, h1, h2⟩, hb⟩
    ·exact hm.lt b hb
    ·exact obj_blk_lt (hb1.mr.obj n o h1) h2 hb
   ·rcases hg with hg | ⟨n, hn, hg⟩
    ·exact hb1.sep u hu b hb hg
    ·exact hb1.off n u b hn hu hg hb
 have hbG : Bag w (fun _ => .nilFunc) G [] us := ⟨⟨fun n o h => by simp at h, fun n k b hn => by obtain ⟨o, h, _⟩ := hn; simp at h, fun n b hn => by obtain ⟨o, h, _⟩ := hn; simp at h, hGlt⟩, hb1.inj, hGsep, fun n u b hn => by obtain ⟨o, h, _⟩ := hn; simp at h, hb1.lt⟩
 have hHG : HR w G (ownH D.args) xo ovs us := HR.mono ⟨hFG, fun _ _ => rfl⟩ _ (.inr hGs) (fun _ _ _ _ => rfl) hHR
 have hV : Vals w G D.args vals.toList vs := hV.mono fun b hb => Or.elim hb (hFG.p b) fun ⟨n, hn, e⟩ => hGr n hn b e
 refine (hD.2 w G vals vs us _ y hbG hV (merge_HR hfit.args hM hHG hrt) hy (hgb.mono ⟨hFG, fun _ _ => rfl⟩)).mono fun e w' he => ?_
 obtain ⟨u, F', rvs, u1, u2, rfl, g1, g2, g3, g4, g5, g6, g7⟩ := he
 let F2 : FS := ⟨fun b => F b ∨ (F' b ∧ ((∃ u ∈ us, b ∈ blk u) ∨ w.heap.size ≤ b)), F'.nu, F'.ka⟩
 have hF2 : F.le F2 := ⟨fun b hb => .inl hb, fun i b h => g5.fro.nu i b (hFG.nu i b h), fun i n v h => g5.fro.ka i n v (hFG.ka i n v h)⟩
 have hA : ∀ o ∈ mr, isArena o = false ∨ F.same F2 := fun o ho => by
  cases har : D.arB with
  | true =>
   rw [har] at hnoA
   simp only [Bool.not_true, Bool.false_or, List.all_eq_true, Bool.not_eq_true'] at hnoA
   exact .inl (hnoA o ho)
  | false => exact .inr (hGs.trans (F1 := G) (F2 := F2) ⟨(g6 har).1, (g6 har).2⟩)
 have hb2 : Bag w' ρ F2 mr (u1 ++ u2) := hb1.turn g4.mr.lt g4.inj g4.sep g4.lt g5.size g5.keep hF2 (fun b hb => g5.fro.p b (hFG.p b hb)) g5.own (fun b => Iff.rfl) hA
 have hres : ∀ (h : HT) (x : h.den) (vs us : List Value), ((noNm dc && noRef (refsOf D.args args)) || h.flatB) = true → HR w' F' h x vs us → HR w' F2 h x vs us := by
  intro h x vs us' hf hh
  cases hno : (noNm dc && noRef (refsOf D.args args)) with
  | true =>
   have hle : FS.le F' F2 := ⟨fun b hb => ?_, fun _ _ h => h, fun _ _ _ h => h⟩
   ·exact HR.mono (F := F') (F' := F2) ⟨hle, fun _ _ => rfl⟩ h (.inr ⟨rfl, rfl⟩) (fun _ _ _ _ => rfl) hh
   rcases g5.froB b hb with q | q | q
   ·exact .inl (hGF hno b q)
   ·exact .inr ⟨hb, .inl q⟩
   ·exact .inr ⟨hb, .inr q⟩
  | false =>
   rw [hno] at hf
   exact HR.any h (by simpa using hf) hh
 have hfl1 : ((noNm dc && noRef (refsOf D.args args)) || (prodU (D.res.map (·.2))).flatB) = true := by
  cases hno : (noNm dc && noRef (refsOf D.args args)) with
  | true => rfl
  | false => rw [hno] at hfl; simp only [Bool.false_or, Bool.and_eq_true] at hfl ⊢; exact hfl.1
 have hfl2 : ((noNm dc && noRef (refsOf D.args args)) || (outH D.args).flatB) = true := by
  cases hno : (noNm dc && noRef (refsOf D.args args)) with
  | true => rfl
  | false => rw [hno] at hfl; simp only [Bool.false_or, Bool.and_eq_true] at hfl ⊢; exact hfl.2
 obtain ⟨ρ1, k1, k2, k3, k4⟩ := enc_ok _ (hres _ _ _ _ hfl1 g2) hb2
 have hlM : mr.length ≤ (mr ++ (enc (prodU (D.res.map (·.2))) (D.rs y) mr.length).2).length := by simp
 have hmv : Mv w w' F F2 := ⟨hF2, fun b hb => g5.keep b (hm.lt b hb) (fun u hu e => hb1.sep u hu b e hb)⟩
 have hO2 : CRs w' ρ1 F2 m.length oc ovs := CRs.mono hmv (fun c _ n hn _ => k1 n (by rw [hlen]; exact hn)) (Nat.le_refl _) hO
 obtain ⟨ρ2, f1, f2, f3, f4⟩ := putO_ok D.args (us2 := []) hfit.args (by rw [← hlen]; exact hlM) hput hO2 (by rw [← lentOf_mix hM]; exact hres _ _ _ _ hfl2 g3) (by rw [List.append_nil]; exact k2)
 have hρ : ∀ n, n < m.length → ρ2 n = ρ n := fun n hn => by rw [f1 n (Nat.lt_of_lt_of_le hn (by rw [← hlen]; exact hlM)), k1 n (by rw [hlen]; exact hn)]
 have hown : ∀ b, Own ρ2 m2 b → Own ρ m b ∨ w.heap.size ≤ b := by
  intro b hb
  have hu : ∀ u ∈ u1 ++ u2, b ∈ blk u → Own ρ m b ∨ w.heap.size ≤ b := fun u hu hb => by
   rcases g5.own u hu b hb with ⟨v, hv, e⟩ | q
   ·exact .inl (hOu v hv b e)
   ·exact .inr q
  rcases f4 b hb with q | ⟨u, hu', e⟩
  ·rcases k4 b q with q | ⟨u, hu', e⟩
   ·exact .inl (hOm b q)
   ·exact hu u (by simp [hu']) e
  ·exact hu u (by simp [hu']) e
 have hO3 : CRs w' ρ2 F2 m2.length oc ovs := CRs.mono hmv (fun c _ n hn _ => hρ n hn) (Nat.le_trans (by rw [← hlen]; exact hlM) f3) hO
 obtain ⟨b1, b2, b3⟩ := backs_ok hm f2.mr hback (lentO_F2 D.args hO) (lentO_F2 D.args hO3) hρ (fun L hL => by
  have := g7 L hL
  rw [lentOf_mix hM] at this
  exact this)
 refine ⟨u, ρ2, F2, rfl, ?_, b1, ⟨g5.os, g5.tape, g5.output, g5.size, fun b hb hO => g5.keep b hb (fun u hu e => hO (hOu u hu b e)), fun b hb => hown b (b3 b hb), hF2, fun b hb => ?_, ?_, hρ⟩, fun p hp => (by cases hp), fun hp => ?_⟩
 ·refine vals_res g1 (CRs.mono (Mv.refl w' F2) (fun c _ n hn _ => f1 n hn) (by rw [b2]; exact f3) k3)
 ·rcases hb with hb | ⟨_, ⟨u, hu, e⟩ | hb⟩
  ·exact .inl hb
  ·exact .inr (.inl (hOu u hu b e))
  ·exact .inr (.inr hb)
 ·show m.length ≤ m3.length
  rw [b2]
  exact Nat.le_trans (by rw [← hlen]; exact hlM) f3
 ·obtain rfl := noO_us (hpu hp) hHR
  exact ⟨g5.size, fun b hb => g5.keep b hb (fun u hu => by cases hu)⟩
theorem frz_call {f : Nat} {args : List AV} {m m' : List AO} {x : AV} {ns : List Nat} (hrow : ∀ n ∈ ns, ∃ e t xs, m[n]? = some (.row e t xs)) (h : CallOk P pu f (args.map (AV.sbs (frzCh ns m))) (frzM ns (frzCh ns m) m) x m' []) : CallOk P pu f args m x m' (frzCh ns m) := by
 obtain ⟨hfn, h2⟩ := h
 refine ⟨hfn, fun w ρ F vals hv hm hgb => ?_⟩
 let Fz : FS := F.plus fun b => ∃ n ∈ ns, b ∈ blk (ρ n)
 have hmv : Mv w w F Fz := ⟨.plus F _, fun _ _ => rfl⟩
 have hlive0 : ∀ n ∈ ns, live m n := fun n hn => by obtain ⟨e, t, xs, hx⟩ := hrow n hn; exact ⟨_, hx, by simp⟩
 have hlt : ∀ b, Fz b → b < w.heap.size := by
  rintro b (hb | ⟨n, hn, hb⟩)
  ·exact hm.lt b hb
  ·obtain ⟨o, k1, k2⟩ := hlive0 n hn
   exact obj_blk_lt (hm.obj n o k1) k2 hb
 have hch : ∀ p ∈ frzCh ns m, CR w ρ Fz m.length p.2 (ρ p.1) := by
  intro p hp
  obtain ⟨n, hn, rfl⟩ := List.mem_map.1 hp
  obtain ⟨e, t, xs, hx⟩ := hrow n hn
  simp only [brw, hx]
  have hle : (F.plus fun b => b ∈ blk (ρ n)).le Fz := ⟨fun b hb => by
   rcases hb with hb | hb
   ·exact .inl hb
   ·exact .inr ⟨n, hn, hb⟩, fun _ _ h => h, fun _ _ _ h => h⟩
  exact RT.mono hle (fun _ _ => rfl) _ (row_RT (s := ⟨[], m⟩) (hm.obj n _ hx))
 have hlen : (frzM ns (frzCh ns m) m).length = m.length := by unfold frzM; rw [(kills_get _ _ 0).1]; simp
 have hget : ∀ k o, (frzM ns (frzCh ns m) m)[k]? = some o → o = AO.gone ∨ (k ∉ ns ∧ ∃ o0, m[k]? = some o0 ∧ o = o0.sbs (frzCh ns m)) := by
  intro k o ho
  unfold frzM at ho
  rcases (kills_get _ _ k).2 o ho with h | ⟨h3, h4⟩
  ·exact .inl h
  ·rw [List.getElem?_map] at h4
   obtain ⟨o0, h5, rfl⟩ := Option.map_eq_some_iff.1 h4
   exact .inr ⟨h3, o0, h5, rfl⟩
 have hlive : ∀ k, live (frzM ns (frzCh ns m) m) k → live m k ∧ k ∉ ns := by
  intro k ⟨o, ho, hg⟩
  rcases hget k o ho with h | ⟨h3, o0, h4, rfl⟩
  ·exact absurd h hg
  ·exact ⟨⟨o0, h4, fun e => hg (by subst e; rfl)⟩, h3⟩
 have hOwn : ∀ b, Own ρ (frzM ns (frzCh ns m) m) b → Own ρ m b := by
  rintro b ⟨k, hk, hb⟩
  exact ⟨k, (hlive k hk).1, hb⟩
 have hm1 : MR w ρ Fz (frzM ns (frzCh ns m) m) := by
  refine ⟨?_, ?_, ?_, hlt⟩
  ·intro k o ho
   rw [hlen]
   rcases hget k o ho with rfl | ⟨h3, o0, h4, rfl⟩
   ·trivial
   ·have hob := hm.obj k o0 h4
    cases o0 with
    | var T l =>
     obtain ⟨b, vs, g1, g2, g3⟩ := hob
     exact ⟨b, vs, g1, g2, sbs_CRs hmv (Nat.le_refl _) (fun _ _ => rfl) hch g3⟩
    | row e t xs =>
     obtain ⟨vs, g1, g2⟩ := hob
     exact ⟨vs, g1, g2.mono hmv.le hmv.same⟩
    | mapo ka va kt vt xs => exact hob
    | arena T e a b recs pend => obtain ⟨ks, g1, g2⟩ := hob; exact ⟨ks, g1, g2.mono hmv ⟨rfl, rfl⟩ (fun _ _ => rfl)⟩
    | gone => trivial
  ·intro j k b hj hk
   exact hm.inj j k b (hlive j hj).1 (hlive k hk).1
  ·intro j b hj hb hf
   obtain ⟨h3, h4⟩ := hlive j hj
   rcases hf with hf | ⟨n, hn, hf⟩
   ·exact hm.sep j b h3 hb hf
   ·have := hm.inj j n b h3 (hlive0 n hn) hb hf
    subst this
    exact h4 hn
 have hv1 : F2 (VR w ρ Fz (frzM ns (frzCh ns m) m).length) (args.map (AV.sbs (frzCh ns m))) vals.toList := by
  rw [hlen]
  exact sbs_TR hmv (Nat.le_refl _) (fun _ _ => rfl) hch hv
 refine (h2 w ρ Fz vals hv1 hm1 (hgb.mono hmv)).mono fun e w' he => ?_
 obtain ⟨u, ρ', F', rfl, g1, g2, g3, _, g6⟩ := he
 have hmv2 : Mv w w' Fz F' := ⟨g3.fro, fun b hb => g3.keep b (hlt b hb) (fun ⟨k, hk, e⟩ => hm1.sep k b hk e hb)⟩
 refine ⟨u, ρ', F', rfl, g1, g2, ⟨g3.os, g3.tape, g3.output, g3.size, fun b hb hO => g3.keep b hb (fun h => hO (hOwn b h)), fun b hb => (g3.own b hb).imp (hOwn b) id, (FS.le.plus F _).trans g3.fro, fun b hb => ?_, by have := g3.len; simp only [hlen] at this; exact this, fun n hn => g3.rho n (by simp only [hlen]; exact hn)⟩, fun p hp => ?_, g6⟩
 ·rcases g3.froB b hb with (h | ⟨n, hn, h⟩) | h | h
  ·exact .inl h
  ·exact .inr (.inl ⟨n, hlive0 n hn, h⟩)
  ·exact .inr (.inl (hOwn b h))
  ·exact .inr (.inr h)
 ·have hq := hch p hp
  obtain ⟨n, hn, rfl⟩ := List.mem_map.1 hp
  have hnm : (brw m (.own n)).nm = none := by
   obtain ⟨e, t, xs, hx⟩ := hrow n hn
   simp only [brw, hx]
   rfl
  exact hq.mono hmv2 (fun k _ e => by rw [hnm] at e; cases e) (by have := g3.len; simp only [hlen] at this; exact this)
theorem mcall_ok {f : Nat} {D : DFn} (hD : FnOk P f D) (hfit : D.Fit) (hpu : pu → noO D.args = true) {R : Type} {args : List AV} {m : List AO} {κ : AV → List AO → List (Nat × AC) → Option R} {r : R} (h : mcall D R args m κ = some r) :
  ∃ x m' ch, κ x m' ch = some r ∧ CallOk P pu f args m x m' ch := by
 unfold mcall at h
 split at h
 ·cases h
 split at h
 ·obtain ⟨x, m', ch, h1, _, h2⟩ := mcall0_ok hD hfit hpu h
  exact ⟨x, m', ch, h1, h2⟩
 split at h <;> try cases h
 rename_i hrows
 obtain ⟨x, m', ch, h1, rfl, h2⟩ := mcall0_ok hD hfit hpu h
 refine ⟨x, m', _, h1, frz_call (fun n hn => ?_) h2⟩
 have := List.all_eq_true.1 hrows n hn
 split at this
 ·rename_i e t xs hx; exact ⟨e, t, xs, hx⟩
 ·cases this
def gamF (l : List (Nat × DFn)) : GamF := fun R f args m κ => match l.find? (fun p => Nat.beq p.1 f) with
 | some p => mcall p.2 R args m κ
 | none => none
def gamD (l : List (Nat × DFn)) : GamF := fun R f args m κ => match l.find? (fun p => Nat.beq p.1 f) with
 | some p => if noO p.2.args = true then mcall p.2 R args m κ else none
 | none => none
def gamOf (l : List (Nat × DFn)) : Gam := ⟨gamF l, gamD l, fun _ => none⟩
theorem gamOf_ok {l : List (Nat × DFn)} (h : ∀ p ∈ l, FnOk P p.1 p.2 ∧ p.2.Fit) : GamOk P (gamOf l) := by
 refine ⟨fun R f args m κ r hr => ?_, fun R f args m κ r hr => ?_, fun f i hi => by cases hi⟩
 ·simp only [gamOf, gamF] at hr
  split at hr
  ·rename_i p hp
   have h1 := List.find?_some hp
   have h2 : p.1 = f := Nat.eq_of_beq_eq_true h1
   subst h2
   obtain ⟨h3, h4⟩ := h p (List.mem_of_find?_eq_some hp)
   exact CallTo.of (mcall_ok h3 h4 (fun h => h.elim) hr)
  ·cases hr
 ·simp only [gamOf, gamD] at hr
  split at hr
  ·rename_i p hp
   have h1 := List.find?_some hp
   have h2 : p.1 = f := Nat.eq_of_beq_eq_true h1
   subst h2
   obtain ⟨h3, h4⟩ := h p (List.mem_of_find?_eq_some hp)
   split at hr
   ·rename_i hno
    exact CallTo.of (mcall_ok h3 h4 (fun _ => hno) hr)
   ·cases hr
  ·cases hr
end
noncomputable def gamI (tt : Tab) (is : List (Nat × (Func × (Nat → Option LoopAnn) × Gam))) (l : List (Nat × DFn)) : Gam := ⟨fun R f args m κ => match is.find? (fun p => Nat.beq p.1 f) with
 | some p => absFn tt p.2.2.2 p.2.2.1 0 p.2.1 args m fun x m' => κ x m' []
 | none => gamF l R f args m κ, gamD l, fun _ => none⟩
theorem gamI_ok {P : Program} {tt : Tab} (hP : TabOk P tt) (hmix : P.follows .mixedOrders = true) {is : List (Nat × (Func × (Nat → Option LoopAnn) × Gam))} {l : List (Nat × DFn)} (hi : ∀ p ∈ is, P.funcs[p.1]? = some p.2.1 ∧ ((p.2.1.name == "runtime.NumGoroutine") = false ∧ p.2.1.body.isSome = true) ∧ GamOk P p.2.2.2) (h : ∀ p ∈ l, FnOk P p.1 p.2 ∧ p.2.Fit) : GamOk P (gamI tt is l) := by
 refine ⟨fun R f args m κ r hr => ?_, (gamOf_ok h).d, fun f i hi => by cases hi⟩
 simp only [gamI] at hr
 split at hr
 ·rename_i p hp
  have h1 := List.find?_some hp
  have h2 : p.1 = f := Nat.eq_of_beq_eq_true h1
  subst h2
  obtain ⟨h3, h4, h5⟩ := hi p (List.mem_of_find?_eq_some hp)
  refine ⟨⟨p.2.1, h3, h4⟩, fun w ρ F vals ha hm hgb => (absFn_ok hP h5 hmix h3 hr w ρ F vals ha hm hgb).mono fun e w' he => ?_⟩
  obtain ⟨u, ρ', F', x, m', g1, g2, g3, g4, g5⟩ := he
  exact ⟨x, m', [], g2, u, ρ', F', g1, g3, g4, g5, (fun _ hp => by cases hp), fun hf => hf.elim⟩
 ·exact (gamOf_ok h).c R f args m κ r hr
end Go.Proofs.YtfihdjjilofklaaGreat.Am
