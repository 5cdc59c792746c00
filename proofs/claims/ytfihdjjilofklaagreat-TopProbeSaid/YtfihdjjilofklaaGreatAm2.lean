/- Each operation of the abstract machine is sound: reading memory, making memory, arithmetic. -/
import Derived.Test.YtfihdjjilofklaaGreatAm1
set_option linter.unusedVariables false
set_option linter.unusedSimpArgs false
namespace Go.Proofs.YtfihdjjilofklaaGreat.Am
open Go
section types
variable {P : Program} {tt : Tab} (hP : TabOk P tt)
include hP
theorem tab_info {T : Nat} {i : TI} (h : tt T = some i) : ∃ inf z, P.info? T = some inf ∧ inf.size = i.size ∧ inf.bytes = i.bytes ∧ inf.zero = some z ∧ z.cells.toList.map AC.ofV = i.zero := by
 have := (hP T i h).of
 unfold TIof at this
 split at this
 ·rename_i inf d h1 h2
  simp only [Option.some.injEq, Prod.mk.injEq] at this
  obtain ⟨_, h3, h4, h5⟩ := this
  cases hz : inf.zero with
  | none => rw [hz] at h5; simp at h5
  | some z => rw [hz] at h5; simp at h5; exact ⟨inf, z, h1, h3, h4, hz, h5⟩
 ·cases this
theorem tab_desc {T : Nat} {i : TI} (h : tt T = some i) : ∃ d, P.underlying T = some d ∧ TD.of d = i.d := by
 have := (hP T i h).of
 unfold TIof at this
 split at this
 ·rename_i inf d h1 h2
  simp only [Option.some.injEq, Prod.mk.injEq] at this
  exact ⟨d, h2, this.1⟩
 ·cases this
theorem run_size {T : Nat} {i : TI} (h : tt T = some i) (w : World) : (sizeOf T).run P w = .ok i.size w := by
 obtain ⟨inf, z, h1, h2, _⟩ := tab_info hP h
 simp [sizeOf, typeInfo, h1, h2]
omit hP in
theorem td_some {T : Nat} (h : tt.td T ≠ .other) : ∃ i, tt T = some i ∧ i.d = tt.td T := by
 unfold Tab.td at h ⊢
 cases hT : tt T with
 | none => rw [hT] at h; exact absurd rfl h
 | some i => exact ⟨i, rfl, rfl⟩
theorem td_slice {T e : Nat} (h : tt.td T = .slice e) : P.underlying T = some (.slice e) ∧ ∃ j, tt e = some j := by
 obtain ⟨i, h1, h2⟩ := td_some (T := T) (by rw [h]; simp)
 obtain ⟨d, h3, h4⟩ := tab_desc hP h1
 rw [h2, h] at h4
 refine ⟨?_, (hP T i h1).refs e (by rw [h2, h]; simp [TD.refs])⟩
 cases d <;> simp [TD.of] at h4
 rw [h3, h4]
theorem td_array {T n e : Nat} (h : tt.td T = .array n e) : P.underlying T = some (.array n e) ∧ ∃ j, tt e = some j := by
 obtain ⟨i, h1, h2⟩ := td_some (T := T) (by rw [h]; simp)
 obtain ⟨d, h3, h4⟩ := tab_desc hP h1
 rw [h2, h] at h4
 refine ⟨?_, (hP T i h1).refs e (by rw [h2, h]; simp [TD.refs])⟩
 cases d <;> simp [TD.of] at h4
 rw [h3, h4.1, h4.2]
theorem td_struct {T : Nat} {fs : List (Nat × Nat)} (h : tt.td T = .struct fs) : ∃ fields, P.underlying T = some (.struct fields) ∧ fs = fields.toList.map (fun f => (f.offset, f.type)) ∧ ∀ p ∈ fs, ∃ j, tt p.2 = some j := by
 obtain ⟨i, h1, h2⟩ := td_some (T := T) (by rw [h]; simp)
 obtain ⟨d, h3, h4⟩ := tab_desc hP h1
 rw [h2, h] at h4
 have hr := (hP T i h1).refs
 rw [h2, h] at hr
 cases d <;> simp [TD.of] at h4
 rename_i fields
 refine ⟨fields, h3, by rw [← h4], fun p hp => hr p.2 ?_⟩
 simp only [TD.refs, List.mem_map]
 exact ⟨p, hp, rfl⟩
theorem td_int {T : Nat} {k : IntKind} (h : tt.td T = .int k) : P.underlying T = some (.int k) := by
 obtain ⟨i, h1, h2⟩ := td_some (T := T) (by rw [h]; simp)
 obtain ⟨d, h3, h4⟩ := tab_desc hP h1
 rw [h2, h] at h4
 cases d <;> simp [TD.of] at h4
 rw [h3, h4]
theorem td_ptr {T e : Nat} (h : tt.td T = .ptr e) : P.underlying T = some (.pointer e) := by
 obtain ⟨i, h1, h2⟩ := td_some (T := T) (by rw [h]; simp)
 obtain ⟨d, h3, h4⟩ := tab_desc hP h1
 rw [h2, h] at h4
 cases d <;> simp [TD.of] at h4
 rw [h3, h4]
theorem td_bool {T : Nat} (h : tt.td T = .bool) : P.underlying T = some .bool := by
 obtain ⟨i, h1, h2⟩ := td_some (T := T) (by rw [h]; simp)
 obtain ⟨d, h3, h4⟩ := tab_desc hP h1
 rw [h2, h] at h4
 cases d <;> simp [TD.of] at h4
 exact h3
theorem td_str {T : Nat} (h : tt.td T = .str) : P.underlying T = some .string := by
 obtain ⟨i, h1, h2⟩ := td_some (T := T) (by rw [h]; simp)
 obtain ⟨d, h3, h4⟩ := tab_desc hP h1
 rw [h2, h] at h4
 cases d <;> simp [TD.of] at h4
 exact h3
theorem run_isAgg' {T : Nat} {ag : Bool} (h : tt.isAgg T = some ag) (w : World) : (isAgg T).run P w = .ok ag w ∧ ∃ i, tt T = some i := by
 unfold Tab.isAgg at h
 cases hT : tt T with
 | none => rw [hT] at h; cases h
 | some i =>
  rw [hT] at h
  obtain ⟨d, h3, h4⟩ := tab_desc hP hT
  refine ⟨?_, i, rfl⟩
  simp only at h
  unfold isAgg
  simp only [Sem.run_bind, run_underlying h3, Result.andThen_ok]
  rw [← h4] at h
  cases d <;> simp [TD.of] at h <;> subst h <;> rfl
omit hP in
theorem tab_size {T : Nat} {i : TI} (h : tt T = some i) : tt.size T = i.size := by unfold Tab.size; rw [h]
theorem run_loadVar' {ρ : Nat → Value} {F : FS} {N T : Nat} {ag : Bool} {w : World} {ad : Addr} {vs : List Value} {l : List AC} {x : AV} (hag : tt.isAgg T = some ag) (hc : cellsAt w ad vs) (hl : vs.length = tt.size T) (hcr : CRs w ρ F N l vs) (hm : mkv ag l = some x) :
  ∃ v, (∀ w' : World, (ad.block < w.heap.size → w'.heap[ad.block]? = w.heap[ad.block]?) → (loadVar T ad).run P w' = .ok v w') ∧ VR w ρ F N x v := by
 obtain ⟨h1, i, h2⟩ := run_isAgg' hP hag w
 rw [tab_size h2] at hl
 have h1 := fun w' => (run_isAgg' hP hag w').1
 have hc' : ∀ w' : World, (ad.block < w.heap.size → w'.heap[ad.block]? = w.heap[ad.block]?) → cellsAt w' ad vs := fun w' hw' => by
  match vs, hc with
  | [], _ => intro j v hj; simp at hj
  | v :: vs, hc =>
   have h0 := hc 0 v (by simp)
   exact hc.mono (hw' (by simpa using World.block_lt_of_cell? w _ h0))
 unfold loadVar
 cases ag with
 | true =>
  simp only [mkv, Option.some.injEq] at hm
  subst hm
  refine ⟨.agg vs.toArray, fun w' hw' => ?_, ⟨_, rfl, hcr⟩⟩
  have hr := run_loadCells_list (P := P) (w := w') ad vs (hc' w' hw')
  simp [h1, run_size hP h2, ← hl, hr]
 | false =>
  match l, hm with
  | [c], hm =>
   simp only [mkv, Option.some.injEq] at hm
   subst hm
   cases hcr with
   | cons h3 h4 =>
    rename_i v r
    cases h4
    refine ⟨v, fun w' hw' => ?_, VR.of_CR h3⟩
    have := hc' w' hw' 0 v (by simp)
    rw [Addr.add_zero'] at this
    simp [h1, this]
end types
theorem RT_flat {w : World} {ρ : Nat → Value} {F : FS} {N : Nat} : ∀ (t : Ty) {x : t.den} {l : List Value}, RT w F t x l → CRs w ρ F N (flat t x) l
 | .int k, x, l, h => by unfold RT at h; subst h; exact .cons rfl .nil
 | .bool, x, l, h => by unfold RT at h; subst h; exact .cons rfl .nil
 | .str, x, l, h => by unfold RT at h; subst h; exact .cons rfl .nil
 | .slice e t, xs, l, h => by
  have h' := h
  unfold RT at h
  obtain ⟨a, c, rfl, _⟩ := h
  exact .cons h' .nil
 | .prod a b, x, l, h => by
  unfold RT at h
  obtain ⟨l1, l2, rfl, h1, h2⟩ := h
  exact F2.append (RT_flat a h1) (RT_flat b h2)
 | .unit, _, l, h => by unfold RT at h; subst h; exact .nil
 | .ifc T t, x, l, h => by
  have h' := h
  unfold RT at h
  obtain ⟨vs, rfl, _⟩ := h
  exact .cons h' .nil
 | .nod, x, l, h => by
  unfold RT at h
  obtain ⟨v, rfl, h⟩ := h
  exact .cons h .nil
theorem F2.split {α β : Type} {R : α → β → Prop} {l l' : List α} : ∀ {r : List β}, F2 R (l ++ l') r → ∃ r1 r2, r = r1 ++ r2 ∧ F2 R l r1 ∧ F2 R l' r2 := by
 induction l with
 | nil => intro r h; exact ⟨[], r, rfl, .nil, h⟩
 | cons a l ih =>
  intro r h
  cases h with
  | cons h hr =>
   obtain ⟨r1, r2, rfl, h1, h2⟩ := ih hr
   exact ⟨_ :: r1, r2, rfl, .cons h h1, h2⟩
theorem RT_nil {w : World} {F : FS} (e : Nat) (t : Ty) : RT w F (.slice e t) ([] : List t.den) [.slice none 0 0] := by
 have h : ∀ xs : (Ty.slice e t).den, len (α := t.den) xs = 0 → RT w F (.slice e t) xs [.slice none 0 0] := by
  intro xs hx
  unfold RT
  exact ⟨none, 0, by rw [hx], ⟨by rw [hx]; exact Nat.le_refl _, fun _ => rfl⟩, .inl hx⟩
 exact h _ rfl
theorem RT_prod {w : World} {F : FS} {a b : Ty} {x : a.den} {y : b.den} {l1 l2 : List Value} (h1 : RT w F a x l1) (h2 : RT w F b y l2) : RT w F (.prod a b) (x, y) (l1 ++ l2) := by
 have h : ∀ z : (Ty.prod a b).den, RT w F a z.1 l1 → RT w F b z.2 l2 → RT w F (.prod a b) z (l1 ++ l2) := by
  intro z h1 h2
  unfold RT
  exact ⟨l1, l2, rfl, h1, h2⟩
 exact h _ h1 h2
theorem unflat_ok {w : World} {ρ : Nat → Value} {F : FS} {N : Nat} : ∀ (t : Ty) {l : List AC} {x : t.den} {r : List AC} {vs : List Value}, unflat t l = some (x, r) → CRs w ρ F N l vs → ∃ v1 v2, vs = v1 ++ v2 ∧ RT w F t x v1 ∧ CRs w ρ F N r v2
 | .int k, l, x, r, vs, h, hc => by
  unfold unflat at h
  split at h <;> try cases h
  rename_i k' y r'
  split at h <;> try cases h
  rename_i hk
  subst hk
  cases hc with
  | cons h1 h2 => exact ⟨[_], _, rfl, by unfold CR at h1; subst h1; exact (rfl : [_] = [_]), h2⟩
 | .bool, l, x, r, vs, h, hc => by
  unfold unflat at h
  split at h <;> try cases h
  cases hc with
  | cons h1 h2 => exact ⟨[_], _, rfl, by unfold CR at h1; subst h1; exact (rfl : [_] = [_]), h2⟩
 | .str, l, x, r, vs, h, hc => by
  unfold unflat at h
  split at h <;> try cases h
  cases hc with
  | cons h1 h2 => exact ⟨[_], _, rfl, by unfold CR at h1; subst h1; exact (rfl : [_] = [_]), h2⟩
 | .slice e t, l, x, r, vs, h, hc => by
  unfold unflat at h
  split at h
  ·rename_i e' t' xs r'
   split at h <;> try cases h
   rename_i hk
   obtain ⟨rfl, rfl⟩ := hk
   cases hc with
   | cons h1 h2 => exact ⟨[_], _, rfl, h1, h2⟩
  ·cases h
   cases hc with
   | cons h1 h2 =>
    unfold CR at h1
    subst h1
    exact ⟨[_], _, rfl, RT_nil e t, h2⟩
  ·cases h
 | .prod a b, l, x, r, vs, h, hc => by
  unfold unflat at h
  split at h <;> try cases h
  rename_i y r1 h1
  split at h <;> try cases h
  rename_i z r2 h2
  obtain ⟨v1, v2, rfl, h3, h4⟩ := unflat_ok a h1 hc
  obtain ⟨v3, v4, rfl, h5, h6⟩ := unflat_ok b h2 h4
  exact ⟨v1 ++ v3, v4, by simp, RT_prod h3 h5, h6⟩
 | .unit, l, x, r, vs, h, hc => by
  unfold unflat at h
  cases h
  exact ⟨[], vs, rfl, (rfl : ([] : List Value) = []), hc⟩
 | .ifc T t, l, x, r, vs, h, hc => by
  unfold unflat at h
  split at h <;> try cases h
  rename_i T' t' y r'
  split at h <;> try cases h
  rename_i hk
  obtain ⟨rfl, rfl⟩ := hk
  cases hc with
  | cons h1 h2 => exact ⟨[_], _, rfl, h1, h2⟩
 | .nod, l, x, r, vs, h, hc => by
  unfold unflat at h
  split at h
  ·cases h
   cases hc with
   | cons h1 h2 => exact ⟨[_], _, rfl, ⟨_, rfl, h1⟩, h2⟩
  ·split at h <;> cases h
   cases hc with
   | cons h1 h2 => obtain ⟨g1, b, g2, g3⟩ := h1; exact ⟨[_], _, rfl, ⟨_, rfl, .inr ⟨g1, b, g2, g3⟩⟩, h2⟩
  ·cases h
   cases hc with
   | cons h1 h2 => exact ⟨[_], _, rfl, ⟨_, rfl, .inl ⟨by decide, h1⟩⟩, h2⟩
  ·cases h
theorem unflatAll_ok {w : World} {ρ : Nat → Value} {F : FS} {N : Nat} (t : Ty) {l : List AC} {x : t.den} {vs : List Value} (h : unflatAll t l = some x) (hc : CRs w ρ F N l vs) : RT w F t x vs := by
 unfold unflatAll at h
 split at h <;> try cases h
 rename_i y h1
 obtain ⟨v1, v2, rfl, h3, h4⟩ := unflat_ok t h1 hc
 cases h4
 simpa using h3
theorem unflatN_ok {w : World} {ρ : Nat → Value} {F : FS} {N : Nat} (t : Ty) : ∀ (n : Nat) {l : List AC} {xs : List t.den} {vs : List Value}, unflatN t n l = some xs → CRs w ρ F N l vs → xs.length = n ∧ RTL w F t xs vs
 | 0, l, xs, vs, h, hc => by
  cases l with
  | nil =>
   simp [unflatN] at h
   subst h
   cases hc
   exact ⟨rfl, .nil⟩
  | cons => simp [unflatN] at h
 | n + 1, l, xs, vs, h, hc => by
  unfold unflatN at h
  split at h <;> try cases h
  rename_i x r h1
  split at h <;> try cases h
  rename_i ys h2
  obtain ⟨v1, v2, rfl, h3, h4⟩ := unflat_ok t h1 hc
  obtain ⟨h5, h6⟩ := unflatN_ok t n h2 h4
  exact ⟨by simp [h5], .cons h3 h6⟩
theorem cut_ok {w : World} {ρ : Nat → Value} {F : FS} {N off n : Nat} {l l' : List AC} {vs : List Value} (h : cut l off n = some l') (hc : CRs w ρ F N l vs) : CRs w ρ F N l' ((vs.drop off).take n) ∧ ((vs.drop off).take n).length = n := by
 unfold cut at h
 split at h <;> cases h
 have hl := F2.length hc
 exact ⟨F2.take (F2.drop hc off) n, by simp; omega⟩
theorem cellsAt.sub {w : World} {ad : Addr} {vs : List Value} (h : cellsAt w ad vs) (off n : Nat) : cellsAt w (ad.add off) ((vs.drop off).take n) := by
 intro j v hj
 rw [Addr.add_add]
 refine h _ _ ?_
 rw [List.getElem?_take] at hj
 split at hj
 ·simpa using hj
 ·cases hj
theorem cellsAt_var {w : World} {b : Nat} {vs : Array Value} {T : Nat} {fr : Nat × Nat} (h : w.heap[b]? = some (.cells vs T fr)) : cellsAt w ⟨b, 0, none⟩ vs.toList := by
 intro j v hj
 rw [Addr.add_plain, Nat.zero_add, cell_of_row w b j vs T fr h]
 simpa using hj
theorem cellsAt_row {w : World} {e sz n len cap g : Nat} {vs : List Value} (h : w.ownsRow 0 e sz (.slice (some ⟨g, 0, none⟩) len cap) n vs) : cellsAt w ⟨g, 0, none⟩ vs := fun j v hj => h.cells (g := g) rfl j v hj
theorem rdd_get {t : Ty} {xs : List t.den} {i : Int} (h : i.toNat < xs.length) : xs[i.toNat]? = some (rdd t xs i) := by
 unfold rdd
 rw [List.getD_eq_getElem?_getD, List.getElem?_eq_getElem h]
 rfl
theorem chkA {R : Type} {b : Bool} {x : Option R} {r : R} (h : chk b x = some r) : b = true ∧ x = some r := by
 unfold chk at h
 cases b
 ·cases h
 ·exact ⟨rfl, h⟩
theorem findA_ok : ∀ {m : List AO} {n : Nat}, findA m = some n → (∃ o, m[n]? = some o ∧ isArena o = true) ∧ ∀ k q, k ≠ n → m[k]? = some q → isArena q = false
 | [], n, h => by cases h
 | o :: m, n, h => by
  unfold findA at h
  cases ho : isArena o with
  | true =>
   rw [ho, cond_true] at h
   cases hm : m.any isArena with
   | true => rw [hm] at h; cases h
   | false =>
    rw [hm] at h
    cases h
    refine ⟨⟨o, rfl, ho⟩, fun k q hk hq => ?_⟩
    cases k with
    | zero => exact absurd rfl hk
    | succ k =>
     have : q ∈ m := List.mem_of_getElem? (i := k) (by simpa using hq)
     have h2 := List.any_eq_false.1 hm q this
     simpa using h2
  | false =>
   rw [ho, cond_false] at h
   split at h <;> cases h
   rename_i n' hn
   obtain ⟨⟨o', h1, h2⟩, h3⟩ := findA_ok hn
   refine ⟨⟨o', by simpa using h1, h2⟩, fun k q hk hq => ?_⟩
   cases k with
   | zero => simp at hq; subst hq; exact ho
   | succ k => exact h3 k q (fun e => hk (by rw [e])) (by simpa using hq)
theorem recD_get {a b : Ty} {recs : List (a.den × List Int × b.den)} {i : Int} (h : i.toNat < recs.length) : recs[i.toNat]? = some (recD a b recs i) := by
 unfold recD
 rw [List.getD_eq_getElem?_getD, List.getElem?_eq_getElem h]
 rfl
theorem AR.at {w : World} {F : FS} {T e : Nat} {a b : Ty} {recs : List (a.den × List Int × b.den)} {pend : Option (Int × List Int)} {ks : List Value} (h : AR w F T e a b recs pend ks) {i : Int} {bk : Nat} (hb : F.nu[i.toNat]? = some bk) :
  i.toNat < recs.length ∧ ∃ kv, ks[i.toNat]? = some kv ∧ Node w F T e a b (recD a b recs i) (more pend i.toNat) i.toNat bk kv := by
 have hl : i.toNat < recs.length := by rw [← h.nl]; exact (List.getElem?_eq_some_iff.1 hb).1
 obtain ⟨bk', kv, h1, h2⟩ := h.node _ _ (recD_get hl)
 have := h2.nu
 rw [hb] at this
 cases this
 exact ⟨hl, kv, h1, h2⟩
theorem node_cells {w : World} {ρ : Nat → Value} {F : FS} {N T e : Nat} {a b : Ty} {r : a.den × List Int × b.den} {ys : List Int} {i : Int} {bk : Nat} {kv : Value} (hi : 0 ≤ i) (h : Node w F T e a b r ys i.toNat bk kv) :
  ∃ cs, w.heap[bk]? = some (.cells cs T (0, 0)) ∧ CRs w ρ F N (nodeCells a b r i) cs.toList := by
 obtain ⟨cs, k0, h1, ⟨l1, l2, h2, h3, h4⟩, h5, h6⟩ := h.cells
 refine ⟨cs, h1, ?_⟩
 rw [h2]
 unfold nodeCells
 refine F2.append (RT_flat a h3) (.cons ?_ (RT_flat b h4))
 refine ⟨hi, Int.natCast_nonneg _, by simpa using h5, ?_⟩
 rcases h6 with ⟨h7, h8⟩ | ⟨h7, b', c, h8⟩
 ·exact .inl ⟨by omega, h8⟩
 ·exact .inr ⟨by omega, b', c, by simpa using h8⟩
section ops
variable {R : Type} {P : Program} {tt : Tab} (hP : TabOk P tt) {g : Beg} {ρ : Nat → Value} {F : FS} {s : St} {a : Act} {w : World} {κ : St → Option R} {r : R} {o : Oper}
include hP
theorem absLoad_ok {T : Nat} {p : AC} {v : Value} {κ' : AV → Option R} (hs : SX g ρ F s a w) (hp : VR w ρ F s.mem.length (.one p) v) (h : absLoad tt s T p κ' = some r) :
  ∃ x u ad, κ' x = some r ∧ v = .pointer (some ad) ∧ (∀ w' : World, (ad.block < w.heap.size → w'.heap[ad.block]? = w.heap[ad.block]?) → (Instr.loadAt T v).run P w' = .ok u w') ∧ VR w ρ F s.mem.length x u := by
 unfold absLoad at h
 split at h
 ·cases h
 rename_i ag hag
 split at h
 ·split at h
  ·
   rename_i i n j hnone
   have hp := VR.CR hp (by simp)
   obtain ⟨⟨q1, q2, q3⟩, bk, l, c, q4, rfl⟩ := hp
   unfold absKid at h
   split at h <;> try cases h
   rename_i k hag' hk
   split at h <;> try cases h
   rename_i T' e a' b' recs hm
   split at h <;> try cases h
   rename_i hsz
   obtain ⟨hn, h⟩ := chkA h
   have hn : n = ((recD a' b' recs i).2.1.length : Int) := by simpa [eqI] using hn
   obtain ⟨ks, _, har⟩ := hs.mr.obj _ _ hm
   have hlt : i.toNat < recs.length := by
    by_cases hlt : i.toNat < recs.length
    ·exact hlt
    ·rw [har.out _ _ (by omega)] at q4; cases q4
   obtain ⟨bk', kv, g1, g2⟩ := har.node _ _ (recD_get hlt)
   have hnow := g2.now
   have hrow := g2.row
   simp only [more, List.append_nil] at hnow hrow
   rw [hn, Int.toNat_natCast, hnow] at q4
   cases q4
   rcases hrow with ⟨_, g3⟩ | ⟨_, vs, g3, g4⟩
   ·cases g3
   have hjl : j.toNat < (recD a' b' recs i).2.1.length := by omega
   have hrt := g4.at j.toNat _ (rdd_get (t := .nod) hjl)
   have hca := (cellsAt_row g3).sub (j.toNat * 1) 1
   simp only [Ty.size] at hrt
   rw [Addr.add_plain, Nat.zero_add, Nat.mul_one] at hca
   rw [Nat.mul_one] at hrt
   obtain ⟨u, h4, h5⟩ := run_loadVar' hP hag' hca (by rw [RT.len _ hrt, hsz]; rfl) (RT_flat (ρ := ρ) (N := s.mem.length) .nod hrt) (x := .one (.nr (rdd .nod (recD a' b' recs i).2.1 j))) rfl
   refine ⟨_, u, _, h, rfl, fun w' hw' => ?_, h5⟩
   simp [Instr.loadAt, Instr.sureAddr, h4 w' hw']
  ·cases h
 rename_i l hl
 split at h
 ·rename_i x hx
  have key : ∃ ad vs, v = .pointer (some ad) ∧ cellsAt w ad vs ∧ vs.length = tt.size T ∧ CRs w ρ F s.mem.length l vs := by
   split at hl
   ·
    rename_i n off
    have hp := VR.CR hp (by simp)
    obtain ⟨hn, b, h1, rfl⟩ := hp
    split at hl <;> try cases hl
    rename_i U cs hm
    obtain ⟨b', vs, h2, h3, h4⟩ := hs.mr.obj _ _ hm
    rw [h1] at h2
    cases h2
    obtain ⟨h5, h6⟩ := cut_ok hl h4
    refine ⟨_, _, rfl, ?_, h6, h5⟩
    have := (cellsAt_var h3).sub off (tt.size T)
    rwa [Addr.add_plain, Nat.zero_add] at this
   ·rename_i t y off
    have hp := VR.CR hp (by simp)
    obtain ⟨ad, vs, rfl, hf, hrt, hca⟩ := hp
    obtain ⟨h5, h6⟩ := cut_ok hl (RT_flat t hrt)
    exact ⟨_, _, rfl, hca.sub off _, h6, h5⟩
   ·rename_i n i sz off
    have hp := VR.CR hp (by simp)
    obtain ⟨hn, g, len, cap, h1, hi, rfl⟩ := hp
    split at hl <;> try cases hl
    rename_i e t xs hm
    split at hl <;> try cases hl
    rename_i hsz
    subst hsz
    obtain ⟨vs, h2, h3⟩ := hs.mr.obj _ _ hm
    rw [h1] at h2
    have hi' : i.toNat < xs.length := by
     rcases h2.2 with ⟨h6, _⟩ | ⟨g', cap', cur, h6, _⟩
     ·cases h6
     ·cases h6; exact hi
    have hrt := h3.at i.toNat _ (rdd_get hi')
    obtain ⟨h5, h6⟩ := cut_ok hl (RT_flat (N := s.mem.length) (ρ := ρ) t hrt)
    refine ⟨_, _, rfl, ?_, h6, h5⟩
    have hca := ((cellsAt_row h2).sub (i.toNat * t.size) t.size).sub off (tt.size T)
    rwa [Addr.add_plain, Addr.add_plain, Nat.zero_add] at hca
   ·rename_i i off
    have hp := VR.CR hp (by simp)
    obtain ⟨q1, bk, q2, rfl⟩ := hp
    split at hl <;> try cases hl
    rename_i k hk
    split at hl <;> try cases hl
    rename_i T' e a' b' recs pend hm
    obtain ⟨ks, _, har⟩ := hs.mr.obj _ _ hm
    obtain ⟨_, kv, _, g2⟩ := har.at q2
    obtain ⟨cs, g3, g4⟩ := node_cells (ρ := ρ) (N := s.mem.length) q1 g2
    obtain ⟨h5, h6⟩ := cut_ok hl g4
    refine ⟨_, _, rfl, ?_, h6, h5⟩
    have := (cellsAt_var g3).sub off (tt.size T)
    rwa [Addr.add_plain, Nat.zero_add] at this
   ·cases hl
  obtain ⟨ad, vs, rfl, h1, h2, h3⟩ := key
  obtain ⟨u, h4, h5⟩ := run_loadVar' hP hag h1 h2 h3 hx
  refine ⟨x, u, ad, h, rfl, fun w' hw' => ?_, h5⟩
  simp [Instr.loadAt, Instr.sureAddr, h4 w' hw']
 ·cases h
end ops
end Go.Proofs.YtfihdjjilofklaaGreat.Am
