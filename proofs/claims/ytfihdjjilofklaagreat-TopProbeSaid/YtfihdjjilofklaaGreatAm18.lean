/- Each operation of the abstract machine is sound: maps, interfaces whose type is known, bytes that become a string. -/
import Derived.Test.YtfihdjjilofklaaGreatAm7
set_option linter.unusedVariables false
set_option linter.unusedSimpArgs false
namespace Go.Proofs.YtfihdjjilofklaaGreat.Am
open Go
section
variable {w : World} {ρ : Nat → Value} {F : FS} {N : Nat}
theorem RT_cellsV : ∀ (t : Ty) {x : t.den} {l : List Value}, t.keyB = true → RT w F t x l → l = cellsV t x
 | .int k, x, l, _, h => by unfold RT at h; exact h
 | .bool, x, l, _, h => by unfold RT at h; exact h
 | .str, x, l, _, h => by unfold RT at h; exact h
 | .slice e t, x, l, hk, h => by simp [Ty.keyB] at hk
 | .ifc T t, x, l, hk, h => by simp [Ty.keyB] at hk
 | .prod a b, x, l, hk, h => by
  simp only [Ty.keyB, Bool.and_eq_true] at hk
  unfold RT at h
  obtain ⟨l1, l2, rfl, h1, h2⟩ := h
  rw [RT_cellsV a hk.1 h1, RT_cellsV b hk.2 h2]
  rfl
 | .unit, _, l, _, h => by unfold RT at h; exact h
theorem cellsV_RT : ∀ (t : Ty) (x : t.den), t.keyB = true → RT w F t x (cellsV t x)
 | .int k, x, _ => (rfl : [_] = [_])
 | .bool, x, _ => (rfl : [_] = [_])
 | .str, x, _ => (rfl : [_] = [_])
 | .slice e t, x, hk => by simp [Ty.keyB] at hk
 | .ifc T t, x, hk => by simp [Ty.keyB] at hk
 | .prod a b, x, hk => by
  simp only [Ty.keyB, Bool.and_eq_true] at hk
  exact RT_prod (cellsV_RT a x.1 hk.1) (cellsV_RT b x.2 hk.2)
 | .unit, _, _ => (rfl : ([] : List Value) = [])
theorem cellsV_len : ∀ (t : Ty) (x : t.den), t.keyB = true → (cellsV t x).length = t.size
 | .int k, x, _ => rfl
 | .bool, x, _ => rfl
 | .str, x, _ => rfl
 | .slice e t, x, hk => by simp [Ty.keyB] at hk
 | .ifc T t, x, hk => by simp [Ty.keyB] at hk
 | .prod a b, x, hk => by
  simp only [Ty.keyB, Bool.and_eq_true] at hk
  show (cellsV a x.1 ++ cellsV b x.2).length = a.size + b.size
  rw [List.length_append, cellsV_len a x.1 hk.1, cellsV_len b x.2 hk.2]
 | .unit, _, _ => rfl
theorem cellsV_inj : ∀ (t : Ty) (x y : t.den), t.keyB = true → cellsV t x = cellsV t y → x = y
 | .int k, x, y, _, h => by
  have h : ([Value.int k x] : List Value) = [Value.int k y] := h
  exact (Value.int.inj (List.cons.inj h).1).2
 | .bool, x, y, _, h => by
  have h : ([Value.bool x] : List Value) = [Value.bool y] := h
  exact Value.bool.inj (List.cons.inj h).1
 | .str, x, y, _, h => by
  have h : ([Value.string x] : List Value) = [Value.string y] := h
  exact Value.string.inj (List.cons.inj h).1
 | .slice e t, x, y, hk, _ => by simp [Ty.keyB] at hk
 | .ifc T t, x, y, hk, _ => by simp [Ty.keyB] at hk
 | .prod a b, x, y, hk, h => by
  simp only [Ty.keyB, Bool.and_eq_true] at hk
  have h : cellsV a x.1 ++ cellsV b x.2 = cellsV a y.1 ++ cellsV b y.2 := h
  obtain ⟨h1, h2⟩ := List.append_inj h (by rw [cellsV_len a _ hk.1, cellsV_len a _ hk.1])
  exact Prod.ext (cellsV_inj a _ _ hk.1 h1) (cellsV_inj b _ _ hk.2 h2)
 | .unit, x, y, _, _ => rfl
theorem eqDI_iff (a b : Int) : eqDI a b = true ↔ a = b := by unfold eqDI; exact decide_eq_true_iff
theorem eqD_iff : ∀ (t : Ty) (x y : t.den), t.keyB = true → (eqD t x y = true ↔ x = y)
 | .int k, x, y, _ => by
  exact eqDI_iff x y
 | .bool, x, y, _ => by
  show eqDB x y = true ↔ _
  exact beq_iff_eq
 | .str, x, y, _ => by
  show eqDS x y = true ↔ _
  unfold eqDS
  rw [beq_iff_eq]
  constructor
  ·intro h
   have h1 : (x : ByteArray).data = (y : ByteArray).data := Array.toList_inj.1 h
   exact ByteArray.ext h1
  ·intro h; rw [h]
 | .slice e t, x, y, hk => by simp [Ty.keyB] at hk
 | .ifc T t, x, y, hk => by simp [Ty.keyB] at hk
 | .prod a b, x, y, hk => by
  simp only [Ty.keyB, Bool.and_eq_true] at hk
  show (eqD a x.1 y.1 && eqD b x.2 y.2) = true ↔ _
  rw [Bool.and_eq_true, eqD_iff a _ _ hk.1, eqD_iff b _ _ hk.2]
  constructor
  ·intro h; exact Prod.ext h.1 h.2
  ·intro h; rw [h]; exact ⟨rfl, rfl⟩
 | .unit, x, y, _ => ⟨fun _ => rfl, fun _ => rfl⟩
theorem vOf_one {t : Ty} {x : t.den} {v : Value} (h : cellsV t x = [v]) : vOf false t x = v := by
 unfold vOf
 rw [h]
theorem keyIn_ok {ag : Bool} {t : Ty} {v : AV} {u : Value} {x : t.den} (hk : t.keyB = true) (h : keyIn ag t v = some x) (hv : VR w ρ F N v u) : u = vOf ag t x := by
 unfold keyIn at h
 split at h
 ·rename_i l
  obtain ⟨vs, rfl, hc⟩ := hv
  have := RT_cellsV t hk (unflatAll_ok t h hc)
  show Value.agg vs = .agg (cellsV t x).toArray
  rw [← this, Array.toArray_toList]
 ·cases h
 ·rename_i c hne
  have hc : CR w ρ F N c u := VR.CR hv (fun e => hne e)
  have := RT_cellsV t hk (unflatAll_ok t h (.cons hc .nil))
  exact (vOf_one this.symm).symm
 ·cases h
theorem vOf_VRb (ag : Bool) (t : Ty) (x : t.den) (hk : t.keyB = true) : VRb w ρ F N ag (flat t x) (vOf ag t x) := by
 have h := RT_flat (ρ := ρ) (N := N) t (cellsV_RT (w := w) (F := F) t x hk)
 cases ag with
 | true => exact ⟨(cellsV t x).toArray, rfl, by simpa using h⟩
 | false =>
  cases hf : flat t x with
  | nil => trivial
  | cons c r =>
   rw [hf] at h
   cases r with
   | cons d r => cases c <;> trivial
   | nil =>
    cases hc : cellsV t x with
    | nil => rw [hc] at h; cases h
    | cons v r2 =>
     rw [hc] at h
     cases h with
     | cons h1 h2 =>
      cases h2
      rw [vOf_one hc]
      exact VR.of_CR h1
end
theorem F2.set2 {α β : Type} {R : α → β → Prop} {l : List α} {r : List β} {x : α} {y : β} (h : F2 R l r) (hx : R x y) : ∀ n, F2 R (l.set n x) (r.set n y) := by
 induction h with
 | nil => intro n; exact .nil
 | cons h hr ih =>
  intro n
  cases n with
  | zero => exact .cons hx hr
  | succ n => exact .cons h (ih n)
section
variable {ka va : Bool} {kt vt : Ty} (hk : kt.keyB = true) {P : Program} {K : Nat} (hK : Maps.Keyed P K) (hO : ∀ x : kt.den, okKey kt x = true → ∃ l, keyOf P K (vOf ka kt x) = some l)
include hk hK hO
omit hK hO in
theorem vOf_inj (h1 : (ka || Nat.beq kt.size 1) = true) {x y : kt.den} (h : vOf ka kt x = vOf ka kt y) : x = y := by
 have hlx := cellsV_len kt x hk
 have hly := cellsV_len kt y hk
 cases ka with
 | true =>
  have h : Value.agg (cellsV kt x).toArray = .agg (cellsV kt y).toArray := h
  rw [Value.agg.injEq] at h
  exact cellsV_inj kt x y hk (by have := congrArg Array.toList h; simpa using this)
 | false =>
  have h1 : kt.size = 1 := Nat.eq_of_beq_eq_true h1
  rw [h1] at hlx hly
  obtain ⟨u, hu⟩ := List.length_eq_one_iff.1 hlx
  obtain ⟨v, hv⟩ := List.length_eq_one_iff.1 hly
  rw [vOf_one hu, vOf_one hv] at h
  exact cellsV_inj kt x y hk (by rw [hu, hv, h])
theorem find_ok (h1s : (ka || Nat.beq kt.size 1) = true) {w : World} {xs : List (kt.den × vt.den)} {es : List MapEntry} (hE : F2 (ER ka va kt vt) xs es) (hd : xs.Pairwise fun p q => p.1 ≠ q.1) {k : kt.den} (hok : okKey kt k = true) :
  ((Instr.findKey K (vOf ka kt k) es).run P w = .ok none w ∧ mget (eqD kt) xs k = none ∧ ∀ v, mput (eqD kt) xs k v = xs ++ [(k, v)] ∧ ∀ p ∈ xs, p.1 ≠ k) ∨
   ∃ (j : Nat) (e : MapEntry) (p : kt.den × vt.den), (Instr.findKey K (vOf ka kt k) es).run P w = .ok (some (j, e.val)) w ∧ es[j]? = some e ∧ xs[j]? = some p ∧ p.1 = k ∧ ER ka va kt vt p e ∧ mget (eqD kt) xs k = some p.2 ∧ ∀ v, mput (eqD kt) xs k v = xs.set j (p.1, v) := by
 have hkeys : ∀ e ∈ es, ∃ l, keyOf P K e.key = some l := by
  intro e he
  obtain ⟨j, hj⟩ := List.getElem?_of_mem he
  have hlen := F2.length hE
  obtain ⟨p, hp⟩ : ∃ p, xs[j]? = some p := by
   have := (List.getElem?_eq_some_iff.1 hj).1
   exact ⟨xs[j], List.getElem?_eq_getElem (by omega)⟩
  obtain ⟨e', he', h1, h2, h3⟩ := F2.get hE j p hp
  rw [hj] at he'
  cases he'
  rw [h2]
  exact hO _ h1
 obtain ⟨lx, hlx⟩ := hO k hok
 rcases hK.find w hlx es hkeys with ⟨h1, h2⟩ | ⟨j, e, h1, h2, h3⟩
 ·have hno : ∀ p ∈ xs, p.1 ≠ k := by
   intro p hp e
   obtain ⟨j, hj⟩ := List.getElem?_of_mem hp
   obtain ⟨e', he', g1, g2, g3⟩ := F2.get hE j p hj
   exact h2 e' (List.mem_of_getElem? he') (by rw [g2, e])
  refine .inl ⟨h1, ?_, fun v => ⟨?_, hno⟩⟩
  ·clear hE hd hkeys h1 h2
   induction xs with
   | nil => rfl
   | cons p xs ih =>
    have : eqD kt p.1 k = false := by
     cases h : eqD kt p.1 k
     ·rfl
     ·exact absurd ((eqD_iff kt _ _ hk).1 h) (hno p (by simp))
    show (bif eqD kt p.1 k then some p.2 else mget (eqD kt) xs k) = none
    rw [this]
    exact ih fun q hq => hno q (by simp [hq])
  ·clear hE hd hkeys h1 h2
   induction xs with
   | nil => rfl
   | cons p xs ih =>
    have : eqD kt p.1 k = false := by
     cases h : eqD kt p.1 k
     ·rfl
     ·exact absurd ((eqD_iff kt _ _ hk).1 h) (hno p (by simp))
    show (bif eqD kt p.1 k then (p.1, v) :: xs else p :: mput (eqD kt) xs k v) = p :: (xs ++ [(k, v)])
    rw [this, ih fun q hq => hno q (by simp [hq])]
    rfl
 ·have hlen := F2.length hE
  obtain ⟨p, hp⟩ : ∃ p, xs[j]? = some p := by
   have := (List.getElem?_eq_some_iff.1 h2).1
   exact ⟨xs[j], List.getElem?_eq_getElem (by omega)⟩
  obtain ⟨e', he', g1, g2, g3⟩ := F2.get hE j p hp
  rw [h2] at he'
  cases he'
  have hpk : p.1 = k := vOf_inj hk h1s (by rw [← g2, h3])
  refine .inr ⟨j, e, p, h1, h2, hp, hpk, ⟨g1, g2, g3⟩, ?_⟩
  clear hE hkeys h1 h2 hlen
  induction xs generalizing j with
  | nil => simp at hp
  | cons q xs ih =>
   obtain ⟨d1, d2⟩ := List.pairwise_cons.1 hd
   cases j with
   | zero =>
    simp at hp
    subst hp
    have : eqD kt q.1 k = true := (eqD_iff kt _ _ hk).2 hpk
    refine ⟨?_, fun v => ?_⟩
    ·show (bif eqD kt q.1 k then some q.2 else mget (eqD kt) xs k) = some q.2
     rw [this]
     rfl
    ·show (bif eqD kt q.1 k then (q.1, v) :: xs else q :: mput (eqD kt) xs k v) = (q.1, v) :: xs
     rw [this]
     rfl
   | succ j =>
    have hp' : xs[j]? = some p := by simpa using hp
    have : eqD kt q.1 k = false := by
     cases h : eqD kt q.1 k
     ·rfl
     ·exact absurd (((eqD_iff kt _ _ hk).1 h).trans hpk.symm) (d1 p (List.mem_of_getElem? hp'))
    obtain ⟨i1, i2⟩ := ih d2 j hp'
    refine ⟨?_, fun v => ?_⟩
    ·show (bif eqD kt q.1 k then some q.2 else mget (eqD kt) xs k) = some p.2
     rw [this]
     exact i1
    ·show (bif eqD kt q.1 k then (q.1, v) :: xs else q :: mput (eqD kt) xs k v) = q :: xs.set j (p.1, v)
     rw [this, i2 v]
     rfl
end
section
variable {R : Type} {P : Program} {tt : Tab} (hP : TabOk P tt) {Γ : GamF} {pu : Prop} {g : Beg} {ρ : Nat → Value} {F : FS} {s : St} {a : Act} {w : World} {κ : St → Option R} {r : R} {o : Oper}
include hP
theorem td_map {T k e : Nat} (h : tt.td T = .map k e) : P.underlying T = some (.map k e) := by
 obtain ⟨i, h1, h2⟩ := td_some (T := T) (by rw [h]; simp)
 obtain ⟨d, h3, h4⟩ := tab_desc hP h1
 rw [h2, h] at h4
 cases d <;> simp [TD.of] at h4
 rw [h3, h4.1, h4.2]
theorem tab_key {T : Nat} {ka : Bool} {kt : Ty} (h : (tt T).bind (·.key) = some (ka, kt)) : kt.keyB = true ∧ (ka || Nat.beq kt.size 1) = true ∧ Maps.Keyed P T ∧ (∀ x : kt.den, okKey kt x = true → ∃ l, keyOf P T (vOf ka kt x) = some l) ∧ (P.info? T).bind (·.zero) = some (vOf ka kt kt.dflt) := by
 cases hT : tt T with
 | none => rw [hT] at h; cases h
 | some i => rw [hT] at h; exact (hP T i hT).key ka kt h
omit hP in
theorem ok_makeMap {T : Nat} {q : Option Operand} (ho : o.op = .makeMap T q) (hs : SX g ρ F s a w) (h : absOp tt Γ s o κ = some r) : Goes P g κ r o a w := by
 cases q with
 | some q => simp only [absOp, ho] at h; cases h
 | none =>
  simp only [absOp, ho] at h
  split at h <;> try cases h
  split at h <;> try cases h
  rename_i kk vv e1 e2
  have hs' := hs.newObj (w' := w.alloc (.map #[] 0)) (o := .mapo kk.1 vv.1 kk.2 vv.2 []) (v := .map (some w.heap.size)) (World.grownBy_alloc w _ none) (fun b hb => by simp [blk, blk1] at hb; omega)
   ⟨w.heap.size, #[], 0, rfl, heap_alloc_new w _, .nil, .nil⟩
  refine goes_new (v := .map (some w.heap.size)) ?_ hs' ?_ h (fun _ _ => Ext.of_grown (World.grownBy_alloc w _ none))
  ·have hrun : (Instr.makeMap T none).run P w = .ok (.map (some w.heap.size)) (w.alloc (.map #[] 0)) := rfl
   simp [execOp, ho, hrun]
  ·exact ⟨by simp, by rw [upd_same], rfl⟩
theorem ok_lookup {T : Nat} {m x : Operand} {q : Bool} (ho : o.op = .lookup T m x q) (hs : SX g ρ F s a w) (h : absOp tt Γ s o κ = some r) : Goes P g κ r o a w := by
 simp only [absOp, ho] at h
 have hm := hs.ev m
 have hx := hs.ev x
 split at h <;> try cases h
 rename_i K E n hT e1
 rw [e1] at hm
 split at h <;> try cases h
 rename_i ka va kt vt xs hn
 split at h <;> try cases h
 rename_i kk vv k e2 e3 e4
 split at h <;> try cases h
 rename_i hkv
 obtain ⟨rfl, rfl⟩ := hkv
 obtain ⟨hok, h⟩ := chk_some h
 have hu := td_map hP hT
 obtain ⟨q1, q0, q2, q3, q4⟩ := tab_key hP e2
 obtain ⟨p1, p0, p2, p3, p4⟩ := tab_key hP e3
 obtain ⟨b, es, clock, k1, k2, k3, k4⟩ := hs.mr.obj _ _ hn
 obtain ⟨m1, m2, m3⟩ := VR.CR hm (by simp)
 have hmv : a.eval m = .map (some b) := by rw [m2, k1]
 have hxv := keyIn_ok q1 e4 hx
 have hz : (zeroValue E).run P w = .ok (vOf va vt vt.dflt) w := by
  cases hi : P.info? E with
  | none => rw [hi] at p4; cases p4
  | some inf =>
   rw [hi] at p4
   have p4 : inf.zero = some (vOf va vt vt.dflt) := p4
   simp [zeroValue, typeInfo, hi, p4]
 obtain ⟨lx, hlx⟩ := q3 k hok
 have hchk : ∀ em, (Instr.checkKey em 10000 K (vOf ka kt k)).run P w = .ok () w := fun em => q2.check w em hlx
 have hfin : ∀ (v : vt.den) (ok : Bool), (∀ c : Bool, (Instr.lookup T (.map (some b)) (vOf ka kt k) c).run P w = .ok (if c then .tuple #[vOf va vt v, .bool ok] else vOf va vt v) w) → (mget (eqD kt) xs k).getD vt.dflt = v → (mget (eqD kt) xs k).isSome = ok → Goes P g κ r o a w := by
  intro v ok hrun g1 g2
  rw [g1, g2] at h
  cases q with
  | false =>
   have hvr := vOf_VRb (w := w) (ρ := ρ) (F := F) (N := s.mem.length) va vt v p1
   refine goes_new (v := vOf va vt v) ?_ hs ?_ h (fun hg _ => by simp [growOp, ho] at hg)
   ·have := hrun false
    simp only [Bool.false_eq_true, if_false] at this
    simp [execOp, ho, hmv, hxv, this]
   ·cases va with
    | true => exact hvr
    | false =>
     cases hf : flat vt v with
     | nil => exact trivial
     | cons c r =>
      rw [hf] at hvr
      cases r with
      | nil => exact hvr
      | cons d r => exact trivial
  | true =>
   refine goes_new (v := .tuple #[vOf va vt v, .bool ok]) ?_ hs ?_ h (fun hg _ => by simp [growOp, ho] at hg)
   ·have := hrun true
    simp only [if_true] at this
    simp [execOp, ho, hmv, hxv, this]
   ·exact ⟨_, rfl, .cons (vOf_VRb va vt v p1) (.cons (show Value.bool ok = Value.bool ok from rfl) .nil)⟩
 rcases find_ok q1 q2 q3 q0 (w := w) k3 k4 hok with ⟨f1, f2, f3⟩ | ⟨j, e, p, f1, f2, f3, f4, f5, f6, f7⟩
 ·refine hfin vt.dflt false (fun c => ?_) (by rw [f2]; rfl) (by rw [f2]; rfl)
  cases c <;> simp [Instr.lookup, run_underlying hu, MapKept.run_getObj_map k2, hchk, f1, hz, Result.andThen]
 ·refine hfin p.2 true (fun c => ?_) (by rw [f6]; rfl) (by rw [f6]; rfl)
  have hev : e.val = vOf va vt p.2 := f5.2.2
  cases c <;> simp [Instr.lookup, run_underlying hu, MapKept.run_getObj_map k2, hchk, f1, hev, Result.andThen]
theorem ok_mapUpdate {T : Nat} {m x y : Operand} (ho : o.op = .mapUpdate T m x y) (hs : SX g ρ F s a w) (h : absOp tt Γ s o κ = some r) : Goes P g κ r o a w := by
 simp only [absOp, ho] at h
 have hm := hs.ev m
 have hx := hs.ev x
 have hy := hs.ev y
 split at h <;> try cases h
 rename_i K E n hd hT e1
 rw [e1] at hm
 split at h <;> try cases h
 rename_i ka va kt vt xs hn
 split at h <;> try cases h
 rename_i kk vv k v e2 e3 e4 e5
 split at h <;> try cases h
 rename_i hkv
 obtain ⟨rfl, rfl⟩ := hkv
 obtain ⟨hok, h⟩ := chk_some h
 have hu := td_map hP hT
 obtain ⟨q1, q0, q2, q3, q4⟩ := tab_key hP e2
 obtain ⟨p1, p0, p2, p3, p4⟩ := tab_key hP e3
 obtain ⟨b, es, clock, k1, k2, k3, k4⟩ := hs.mr.obj _ _ hn
 obtain ⟨m1, m2, m3⟩ := VR.CR hm (by simp)
 have hmv : a.eval m = .map (some b) := by rw [m2, k1]
 have hxv := keyIn_ok q1 e4 hx
 have hyv := keyIn_ok p1 e5 hy
 obtain ⟨lx, hlx⟩ := q3 k hok
 have hchk : (Instr.checkKey false 10000 K (vOf ka kt k)).run P w = .ok () w := q2.check w false hlx
 have hnl : live s.mem n := ⟨_, hn, by simp⟩
 have hbl : b < w.heap.size := (Array.getElem?_eq_some_iff.1 k2).1
 have hfin : ∀ (es' : Array MapEntry) (clock' : Nat) (xs' : List (kt.den × vt.den)), (Instr.mapUpdate T (.map (some b)) (vOf ka kt k) (vOf va vt v)).run P w = .ok () { w with heap := w.heap.setIfInBounds b (.map es' clock') } → mput (eqD kt) xs k v = xs' → F2 (ER ka va kt vt) xs' es'.toList → (xs'.Pairwise fun p q => p.1 ≠ q.1) → Goes P g κ r o a w := by
  intro es' clock' xs' hrun hput hF hD
  rw [hput] at h
  have hg : w.grownBy { w with heap := w.heap.setIfInBounds b (.map es' clock') } (some b) := by
   exact ⟨rfl, rfl, rfl, by simp, fun c hc hne => by
    show (w.heap.setIfInBounds b (.map es' clock'))[c]? = w.heap[c]?
    rw [Array.getElem?_setIfInBounds_ne (fun e => hne (by rw [e]))]⟩
  have hs' := hs.setObj hnl (fun c e => by cases e; rw [k1]; simp [blk, blk1]) hg (o := .mapo ka va kt vt xs') ⟨b, es', clock', k1, by
   show (w.heap.setIfInBounds b (.map es' clock'))[b]? = _
   simp [hbl], hF, hD⟩
  refine goes_skip hd ?_ hs' h (fun hg _ => by simp [growOp, ho] at hg) (.no (fun T x y e => by rw [ho] at e; cases e) (fun c e => by rw [ho] at e; cases e))
  simp [execOp, ho, hmv, hxv, hyv, hrun]
 rcases find_ok q1 q2 q3 q0 (w := w) k3 k4 hok with ⟨f1, f2, f3⟩ | ⟨j, e, p, f1, f2, f3, f4, f5, f6, f7⟩
 ·refine hfin (es.push { key := vOf ka kt k, val := vOf va vt v, born := clock }) (clock + 1) _ ?_ (f3 v).1 ?_ ?_
  ·simp [Instr.mapUpdate, run_underlying hu, MapKept.run_getObj_map k2, hchk, f1, MapKept.run_setObj_map _ k2, Result.andThen]
  ·rw [Array.toList_push]
   exact F2.append k3 (.cons ⟨hok, rfl, rfl⟩ .nil)
  ·rw [List.pairwise_append]
   exact ⟨k4, List.pairwise_singleton .., fun p hp q hq => by
    rw [List.mem_singleton] at hq
    subst hq
    exact (f3 v).2 p hp⟩
 ·have hek : e.key = vOf ka kt k := by rw [f5.2.1, f4]
  have hej : es[j]? = some e := by rw [← Array.getElem?_toList]; exact f2
  refine hfin (es.modify j fun e => { e with key := vOf ka kt k, val := vOf va vt v }) clock _ ?_ (f7 v) ?_ ?_
  ·simp [Instr.mapUpdate, run_underlying hu, MapKept.run_getObj_map k2, hchk, f1, hej, hek, q2.stays w hlx, MapKept.run_setObj_map _ k2, Result.andThen]
  ·have hjl : j < es.size := (Array.getElem?_eq_some_iff.1 hej).1
   have e1 : (es.modify j fun e => { e with key := vOf ka kt k, val := vOf va vt v }).toList = es.toList.set j { e with key := vOf ka kt k, val := vOf va vt v } := by
    rw [Array.toList_modify, ChangeMaps.modify_eq_set _ _ j e f2]
   rw [e1]
   have hk2 : vOf ka kt k = vOf ka kt p.1 := by rw [f4]
   exact F2.set2 k3 (x := (p.1, v)) (y := { e with key := vOf ka kt k, val := vOf va vt v }) ⟨f5.1, hk2, rfl⟩ j
  ·have hkeys : (xs.set j (p.1, v)).map (·.1) = xs.map (·.1) := by
    rw [List.map_set]
    apply List.ext_getElem?
    intro i
    rw [List.getElem?_set]
    split
    ·rename_i e
     subst e
     split
     ·rw [List.getElem?_map, f3]; rfl
     ·rw [List.getElem?_eq_none (by omega)]
    ·rfl
   have h1 : (xs.map (·.1)).Pairwise (· ≠ ·) := List.pairwise_map.2 k4
   rw [← hkeys] at h1
   exact List.pairwise_map.1 h1
theorem ok_makeI {T : Nat} {x : Operand} (ho : o.op = .makeInterface T x) (hs : SX g ρ F s a w) (h : absOp tt Γ s o κ = some r) : Goes P g κ r o a w := by
 simp only [absOp, ho] at h
 have hx := hs.ev x
 split at h <;> try cases h
 rename_i fs nm f t l hT e1 e2
 rw [e2] at hx
 split at h <;> try cases h
 rename_i d hd
 obtain ⟨vs, hv, hc⟩ := hx
 obtain ⟨fields, hu, _⟩ := td_struct hP hT
 have hrt := unflatAll_ok t hd hc
 refine goes_new (v := .iface T (.agg vs)) ?_ hs (VR.of_CR (c := .ifc T t d) ⟨vs, rfl, hrt⟩) h (fun hg _ => by simp [growOp, ho] at hg)
 simp [execOp, ho, hv, Instr.makeInterface, run_underlying hu]
omit hP in
theorem run_method {T f : Nat} {nm : String} (hm : methB P T nm f = true) {fs : Array Field} (hu : P.underlying T = some (.struct fs)) (vs : Array Value) (n : Nat) (w : World) : (method (n + 1) T (.agg vs) nm).run P w = .ok (f, .agg vs) w := by
 unfold methB at hm
 split at hm
 case h_2 => cases hm
 rename_i i hi
 split at hm
 case h_2 => cases hm
 rename_i m hfm
 simp only [Bool.and_eq_true] at hm
 obtain ⟨h1, h2⟩ := hm
 have hp : m.path = #[] := Array.isEmpty_iff.1 h1
 cases hf : m.func with
 | none => rw [hf] at h2; cases h2
 | some p =>
  obtain ⟨f', b⟩ := p
  cases b with
  | true => rw [hf] at h2; cases h2
  | false =>
   rw [hf] at h2
   have h2 : f' = f := Nat.eq_of_beq_eq_true h2
   subst h2
   unfold method
   simp [typeInfo, hi, hfm, hp, hf, follow, receiverAt, run_underlying hu, Place.get, Result.andThen]
omit hP in
theorem arr_get0 (v : Value) (l : Array Value) : (#[v] ++ l)[0]? = some v := by
 obtain ⟨l⟩ := l
 simp
omit hP in
theorem arr_ext1 (v : Value) (l : Array Value) : (#[v] ++ l).extract 1 (#[v] ++ l).size = l := by
 obtain ⟨l⟩ := l
 simp
theorem ok_invoke {c : Call} {q : Operand} {nm : String} (hG : GamFOk P pu Γ) (ho : o.op = .call c) (hf : c.callee = .invoke q nm) (hs : SX g ρ F s a w) (h : absOp tt Γ s o κ = some r) : Goes P g κ r o a w := by
 simp only [absOp, ho, hf] at h
 have hq := hs.ev q
 split at h <;> try cases h
 rename_i T t x e1
 rw [e1] at hq
 split at h <;> try cases h
 rename_i nm' fi t' e2
 cases hnm : decide (nm' = nm) with
 | false => rw [hnm] at h; cases h
 | true =>
 have hnm : nm' = nm := of_decide_eq_true hnm
 subst hnm
 rw [decide_eq_true (rfl : nm' = nm')] at h
 simp only [cond_true] at h
 obtain ⟨hmb, fs, hu⟩ : methB P T nm' fi = true ∧ ∃ fs, P.underlying T = some (.struct fs) := by
  cases hT : tt T with
  | none => rw [hT] at e2; cases e2
  | some i => rw [hT] at e2; exact (hP T i hT).meth nm' fi t' e2
 obtain ⟨vs, hv, hrt⟩ := (show RT w F (.ifc T t) x [a.eval q] from VR.CR hq (by simp))
 have hv : a.eval q = .iface T (.agg vs) := by simpa using hv
 obtain ⟨⟨fn, h2, h3, h4⟩, h5⟩ := hG _ _ _ _ _ _ h
 have hargs : F2 (VR w ρ F s.mem.length) (.agg (flat t x) :: c.args.toList.map s.ev) (#[Value.agg vs] ++ c.args.map a.eval).toList := by
  rw [Array.toList_append, Array.toList_map]
  refine .cons ⟨vs, rfl, RT_flat t hrt⟩ ?_
  generalize c.args.toList = l
  induction l with
  | nil => exact .nil
  | cons x l ih => exact .cons (hs.ev x) ih
 have hc := h5 w ρ F _ hargs hs.mr hs.gb
 intro K Q hK
 unfold Oper.wp
 have hn : fn.name ≠ "runtime.NumGoroutine" := by simpa using h3
 obtain ⟨cd, hcd⟩ := Option.isSome_iff_exists.1 h4
 have hcf : ∀ args : Array Value, (callFunc fi args).run P w = .ok (.enter fi args) w := by
  intro args
  simp [callFunc, h2, hn, hcd]
 have hrun : (execOp a.eval o).run P w = .ok (.enter fi (#[Value.agg vs] ++ c.args.map a.eval)) w := by
  have hm : (method (P.types.size + Made.depth) T (.agg vs) nm').run P w = .ok (fi, .agg vs) w := by
   have hd : 0 < Made.depth := by decide
   obtain ⟨n, hn⟩ : ∃ n, P.types.size + Made.depth = n + 1 := ⟨P.types.size + Made.depth - 1, by omega⟩
   rw [hn]
   exact run_method hmb hu vs n w
  have hget : (#[Value.iface T (.agg vs)] ++ c.args.map a.eval)[0]? = some (.iface T (.agg vs)) := arr_get0 _ _
  have hext : (#[Value.iface T (.agg vs)] ++ c.args.map a.eval).extract 1 (#[Value.iface T (.agg vs)] ++ c.args.map a.eval).size = c.args.map a.eval := arr_ext1 _ _
  have hcm : ∀ args, (callMethod (.iface T (.agg vs)) nm' args).run P w = .ok (.enter fi (#[Value.agg vs] ++ args)) w := by
   intro args
   simp [callMethod, hm, hcf, Result.andThen]
  have hinv : (invoke (.fn (.method nm') #[]) (#[Value.iface T (.agg vs)] ++ c.args.map a.eval)).run P w = .ok (.enter fi (#[Value.agg vs] ++ c.args.map a.eval)) w := by
   unfold invoke
   simp only [hget, hext, hcm]
  unfold execOp
  simp only [ho, resolve, hf, hv]
  simp only [Sem.run_bind, Sem.run_pure, Result.andThen]
  exact hinv
 rw [hrun, Oper.upon_enter]
 refine hc.mono fun e w' he => ?_
 obtain ⟨x, m', ch, h1, u, ρ', F', rfl, k1, k2, k3, k5', k6⟩ := he
 have k5 : ∀ n, n < s.mem.length → ρ' n = ρ n := k3.rho
 have k4 : s.mem.length ≤ m'.length := k3.len
 have hm : Mv w w' F F' := ⟨k3.fro, fun b hb => k3.keep b (hs.mr.lt b hb) (fun ⟨n, hn, e⟩ => hs.mr.sep n b hn e hb)⟩
 refine hK _ _ _ h1 ⟨ρ', F', SX.put ⟨?_, k2, ⟨k3.os.trans hs.gl.os, k3.tape.trans hs.gl.tape, k3.output.trans hs.gl.output, Nat.le_trans hs.gl.size k3.size, ?_, ?_, hs.gl.fro.trans k3.fro, ?_, Nat.le_trans hs.gl.len k4, fun n hn => (k5 n (Nat.lt_of_lt_of_le hn hs.gl.len)).trans (hs.gl.rho n hn)⟩, hs.defers, hs.gb.mono hm⟩ o.dst k1⟩ (fun _ hn => absurd ho (hn _)) (.no (fun T x y e => by rw [ho] at e; cases e) (fun c' e => by rw [ho] at e; cases e; rw [hf]; simp))
 ·exact sbs_TR hm k4 k5 k5' hs.tr
 ·intro b hb hO
  rw [k3.keep b (Nat.lt_of_lt_of_le hb hs.gl.size) ?_]
  ·exact hs.gl.keep b hb hO
  ·intro ho
   rcases hs.gl.own b ho with h | h
   ·exact hO h
   ·omega
 ·intro b hb
  rcases k3.own b hb with h | h
  ·exact hs.gl.own b h
  ·exact .inr (Nat.le_trans hs.gl.size h)
 ·intro b hb
  rcases k3.froB b hb with h | h | h
  ·exact hs.gl.froB b h
  ·rcases hs.gl.own b h with h | h
   ·exact .inr (.inl h)
   ·exact .inr (.inr h)
  ·exact .inr (.inr (Nat.le_trans hs.gl.size h))
omit hP in
theorem RTL_u8 {xs : List (Ty.den (.int .u8))} {vs : List Value} (h : RTL w F (.int .u8) xs vs) : vs = List.map (fun x : Int => Value.int .u8 x) xs := by
 induction h with
 | nil => rfl
 | @cons y ys l r hy _ ih =>
  have hy : l = [Value.int .u8 y] := hy
  rw [hy, ih]
  rfl
omit hP in
theorem bytes_ok {T U e e0 : Nat} {xs : List Int} {v : Value} {vs : List Value} (hrow : w.ownsRow 0 e0 1 v xs.length vs) (hvs : vs = xs.map fun x : Int => Value.int .u8 x)
  (hu : P.underlying T = some (.slice e)) (h3 : P.underlying e = some (.int .u8)) (h2 : P.underlying U = some .string) : (convert T U v).run P w = .ok (.string (strOfNums xs)) w := by
 rcases hrow.2 with ⟨g1, g2⟩ | ⟨g, cap, cur, g1, g2, g3, g4, g5, g6, g7⟩
 ·rw [g1, run_convert_bytes_nil w T e hu h3 0 0 U h2]
  have : xs = [] := List.length_eq_zero_iff.1 g2
  subst this
  rfl
 ·rw [g1]
  rw [Nat.mul_one] at g7
  refine run_convert_bytes_arg w T e hu h3 g 0 xs.length cap xs rfl (fun i hi => ?_) U h2
  have hci : cur.toList[i]? = some (.int .u8 (xs.getD i 0)) := by
   have h4 : (cur.toList.take xs.length)[i]? = (xs.map fun x : Int => Value.int .u8 x)[i]? := by rw [g7, hvs]
   rw [List.getElem?_take, if_pos hi, List.getElem?_map, List.getElem?_eq_getElem hi] at h4
   rw [h4, List.getD_eq_getElem?_getD, List.getElem?_eq_getElem hi]
   rfl
  simp only [World.cell?, g3, Nat.zero_add]
  rw [← Array.getElem?_toList, hci]
  rfl
omit hP in
theorem bytes_part {T U e e0 lo hi l c : Nat} {a : Option Addr} {xs : List Int} {v : Value} {vs : List Value} (hrow : w.ownsRow 0 e0 1 v xs.length vs) (hvs : vs = xs.map fun x : Int => Value.int .u8 x)
  (hv : v = .slice a l c) (h9 : lo ≤ hi) (h8 : hi ≤ l) (h7 : l ≤ c)
  (hu : P.underlying T = some (.slice e)) (h3 : P.underlying e = some (.int .u8)) (h2 : P.underlying U = some .string) : (convert T U (sliced a lo hi c 1)).run P w = .ok (.string (strOfNums ((xs.take hi).drop lo))) w := by
 rcases hrow.2 with ⟨g1, g2⟩ | ⟨g, cap, cur, g1, g2, g3, g4, g5, g6, g7⟩
 ·rw [hv] at g1
  injection g1 with g1 _ _
  subst g1
  have hx : xs = [] := List.length_eq_zero_iff.1 g2
  subst hx
  have : sliced none lo hi c 1 = .slice none (hi - lo) (c - lo) := by unfold sliced; split <;> rfl
  rw [this, run_convert_bytes_nil w T e hu h3 _ _ U h2]
  simp
  rfl
 ·rw [hv] at g1
  injection g1 with g1 g11 g12
  subst g1
  subst g11
  subst g12
  rw [Nat.mul_one] at g7
  have cell : ∀ i, i < xs.length → w.cell? ⟨g, i, none⟩ = some (.int .u8 (xs.getD i 0)) := fun i hi => by
   have hci : cur.toList[i]? = some (.int .u8 (xs.getD i 0)) := by
    have h4 : (cur.toList.take xs.length)[i]? = (xs.map fun x : Int => Value.int .u8 x)[i]? := by rw [g7, hvs]
    rw [List.getElem?_take, if_pos hi, List.getElem?_map, List.getElem?_eq_getElem hi] at h4
    rw [h4, List.getD_eq_getElem?_getD, List.getElem?_eq_getElem hi]
    rfl
   simp only [World.cell?, g3]
   rw [← Array.getElem?_toList, hci]
   rfl
  by_cases hc : c = lo
  ·have hh : hi = lo := by omega
   have e1 : sliced (some ⟨g, 0, none⟩) lo hi c 1 = .slice (some ⟨g, 0, none⟩) 0 (c - lo) := by unfold sliced; rw [if_pos hc, hh, Nat.sub_self]
   have e2 : (xs.take hi).drop lo = [] := List.drop_eq_nil_of_le (by rw [List.length_take]; omega)
   rw [e1, e2]
   exact run_convert_bytes_arg w T e hu h3 g 0 0 _ [] rfl (fun i hi => absurd hi (Nat.not_lt_zero i)) U h2
  ·have e1 : sliced (some ⟨g, 0, none⟩) lo hi c 1 = .slice (some ⟨g, lo, none⟩) (hi - lo) (c - lo) := by
    unfold sliced
    rw [if_neg hc]
    simp only [Option.map_some, Addr.add, Nat.mul_one, Nat.zero_add]
    split
    ·simp_all
    ·simp_all
   rw [e1]
   refine run_convert_bytes_arg w T e hu h3 g lo (hi - lo) _ _ (by rw [List.length_drop, List.length_take]; omega) (fun i hi' => ?_) U h2
   rw [cell (lo + i) (by omega)]
   congr 2
   rw [List.getD_eq_getElem?_getD, List.getD_eq_getElem?_getD, List.getElem?_drop, List.getElem?_take, if_pos (by omega)]
theorem ok_convertG {T U : Nat} {x : Operand} (ho : o.op = .convert T U x) (hs : SX g ρ F s a w) (h : absOp tt Γ s o κ = some r) : Goes P g κ r o a w := by
 cases hb : bySl T with
 | false => exact (ok_convert hP ho hb hs h).goes hs
 | true =>
 have h0 := h
 simp only [absOp, ho] at h
 have hx := hs.ev x
 split at h <;> try cases h
 ·rename_i k1 k k' n e1 e2 e
  rw [e] at hx
  have hcx : a.eval x = .int k' n := VR.CR hx (by simp)
  have h1 := td_int hP e1
  have h2 := td_int hP e2
  refine goes_new (v := _) ?_ hs (VR.of_CR (c := .int k _) rfl) h (fun _ _ => Ext.refl w)
  simp [execOp, ho, hcx, convert, run_underlying h1, run_underlying h2, Conv.intToInt]
 ·rename_i b e1 e2 e
  rw [e] at hx
  have hcx : a.eval x = .string b := VR.CR hx (by simp)
  have h1 := td_str hP e1
  have h2 := td_str hP e2
  refine goes_new (v := _) ?_ hs (VR.of_CR (c := .str _) rfl) h (fun _ _ => Ext.refl w)
  simp [execOp, ho, hcx, convert, run_underlying h1, run_underlying h2]
 ·rename_i e n hT hU e1
  rw [e1] at hx
  split at h <;> try cases h
  rename_i e0 xs hn
  rw [hb] at h
  simp only [cond_true] at h
  split at h <;> try cases h
  rename_i hE
  obtain ⟨hu, _⟩ := td_slice hP hT
  have h2 := td_str hP hU
  have h3 := td_int hP hE
  obtain ⟨m1, m2, m3⟩ := VR.CR hx (by simp)
  obtain ⟨vs, k1, k2⟩ := hs.mr.obj _ _ hn
  have hrun : (convert T U (a.eval x)).run P w = .ok (.string (strOfNums xs)) w := by
   rw [m2]
   exact bytes_ok (xs := xs) k1 (RTL_u8 k2) hu h3 h2
  refine goes_new (v := .string (strOfNums xs)) ?_ hs (VR.of_CR (c := .str _) rfl) h (fun hg _ => by simp [growOp, ho] at hg)
  simp [execOp, ho, hrun]
 ·rename_i e n lo hi sz hT hU e1
  rw [e1] at hx
  split at h <;> try cases h
  rename_i e0 xs hn
  rw [hb] at h
  cases hz : Nat.beq sz 1 with
  | false => rw [hz] at h; simp at h
  | true =>
  rw [hz] at h
  simp only [Bool.and_self, cond_true] at h
  split at h <;> try cases h
  rename_i hE
  obtain ⟨hu, _⟩ := td_slice hP hT
  have h2 := td_str hP hU
  have h3 := td_int hP hE
  have hz1 : sz = 1 := Nat.eq_of_beq_eq_true hz
  subst hz1
  obtain ⟨m1, m2, m3, a1, l1, c1, m4, m5, m6, m7⟩ := VR.CR hx (by simp)
  obtain ⟨vs, k1, k2⟩ := hs.mr.obj _ _ hn
  have hrun : (convert T U (a.eval x)).run P w = .ok (.string (strOfNums ((xs.take hi.toNat).drop lo.toNat))) w := by
   rw [m7]
   exact bytes_part (xs := xs) k1 (RTL_u8 k2) m4 (by omega) m5 m6 hu h3 h2
  refine goes_new (v := .string (strOfNums ((xs.take hi.toNat).drop lo.toNat))) ?_ hs (VR.of_CR (c := .str _) rfl) h (fun hg _ => by simp [growOp, ho] at hg)
  simp [execOp, ho, hrun]
end
end Go.Proofs.YtfihdjjilofklaaGreat.Am
