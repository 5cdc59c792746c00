/- Specified functions of plain data: a call does what the specification says. -/
import Derived.Test.YtaaljooihacpgaaAm11
set_option linter.unusedVariables false
set_option linter.unusedSimpArgs false
namespace Go.Proofs.Ytaaljooihacpgaa.Am
open Go

section
variable {P : Program} {tt : Tab} (hP : TabOk P tt) (hmix : P.follows .mixedOrders = true)

/-- what is to be shown of a specified function: the abstract machine evaluates its body to what its Lean function says -/
def DOk (P : Program) (tt : Tab) (f : Nat) (D : DFn) : Prop :=
  ∃ fn, P.funcs[f]? = some fn ∧ (fn.name == "runtime.NumGoroutine") = false ∧ fn.body.isSome = true ∧
    ∀ x y, D.f x = some y → ∃ (Γ : Gam) (A : Nat → Option LoopAnn) (n : Nat), GamOk P Γ ∧ absFn tt Γ A n fn (encArgs D.args x) [] (decRes D.res) = some y

include hP hmix
theorem dspec0_ok {pu : Prop} {f : Nat} {D : DFn} (hD : DOk P tt f D) {R : Type} {args : List AV} {m : List AO} {κ : AV → List AO → List (Nat × AC) → Option R} {r : R} (h : dspec0 D R args m κ = some r) :
    ∃ x m' ch, κ x m' ch = some r ∧ ch = [] ∧ CallOk P pu f args m x m' ch := by
  unfold dspec0 at h
  split at h
  · cases h
  rename_i x hx
  split at h <;> try cases h
  rename_i hfl
  obtain ⟨y, hy, hk⟩ := Option.bind_eq_some_iff.1 h
  obtain ⟨fn, hf, hname, hbody, hD⟩ := hD
  obtain ⟨Γ, A, n, hG, hab⟩ := hD x y hy
  refine ⟨_, _, _, hk, rfl, ⟨fn, hf, hname, hbody⟩, fun w ρ F vals hvals hm => ?_⟩
  unfold decArgs at hx
  split at hx <;> try cases hx
  rename_i l hl
  have hfb : ∀ b, Fb ρ m F b → b < w.heap.size := by
    rintro b (hb | ⟨n, hn, hb⟩)
    · exact hm.lt b hb
    · obtain ⟨o, h1, h2⟩ := hn
      exact obj_blk_lt (hm.obj n o h1) h2 hb
  -- the blocks that the callee may read
  obtain ⟨G, hGF, hGlt, hGb, vs, hV, hC⟩ : ∃ G : Nat → Prop, (∀ b, F b → G b) ∧ (∀ b, G b → b < w.heap.size) ∧ (noOwn args = true → ∀ b, G b → F b) ∧ ∃ vs, Vals D.args vals.toList vs ∧ CRs w ρ G m.length l vs := by
    cases hno : noOwn args with
    | true =>
      refine ⟨F, fun _ h => h, hm.lt, fun _ _ h => h, ?_⟩
      have key : ∀ {ks : List AK} {args : List AV} {l : List AC} {us : List Value}, noOwn args = true → decCells m ks args = some l → F2 (VR w ρ F m.length) args us → ∃ vs, Vals ks us vs ∧ CRs w ρ F m.length l vs := by
        intro ks args
        induction args generalizing ks with
        | nil =>
          intro l us _ h hv
          cases ks with
          | nil => simp [decCells] at h; subst h; cases hv; exact ⟨[], .nil, .nil⟩
          | cons => simp [decCells] at h
        | cons x args ih =>
          intro l us hno h hv
          cases ks with
          | nil => simp [decCells] at h
          | cons k ks =>
            unfold decCells at h
            split at h <;> try cases h
            rename_i l1 l2 h1 h2
            simp only [noOwn, List.all_cons, Bool.and_eq_true] at hno
            have hn1 : ∀ c ∈ x.acs, c.nm = none := by
              intro c hc
              have := List.all_eq_true.1 hno.1 c hc
              cases hn : c.nm with
              | none => rfl
              | some n => rw [hn] at this; simp at this
            cases hv with
            | @cons _ v _ us h3 h4 =>
              obtain ⟨vs, h5, h6⟩ := ih hno.2 h2 h4
              unfold decArg at h1
              split at h1
              · rename_i t l'
                split at h1 <;> cases h1
                rename_i hlen
                obtain ⟨us', rfl, h7⟩ := h3
                refine ⟨us'.toList ++ vs, .agg (by have := F2.length h7; simp at this; omega) h5, F2.append ?_ h6⟩
                have : l'.map (brw m) = l' := by
                  have h8 : ∀ c ∈ l', brw m c = id c := fun c hc => brw_noOwn (hn1 c hc)
                  rw [List.map_congr_left h8]
                  simp
                rw [this]
                exact h7
              · rename_i t c
                split at h1 <;> cases h1
                rename_i hlen
                obtain ⟨hlen, hany⟩ := hlen
                rw [brw_noOwn (hn1 c (by simp [AV.acs]))] at hany ⊢
                have hc : c ≠ .any := by
                  intro e
                  subst e
                  simp [isAny] at hany
                exact ⟨v :: vs, .one hlen h5, .cons (VR.CR h3 hc) h6⟩
              · rename_i n k'
                split at h1 <;> cases h1
                rename_i hk
                subst hk
                have hv : v = .func (.func k') #[] #[] := VR.CR h3 (by simp)
                subst hv
                exact ⟨vs, .fn h5, by simpa using h6⟩
              · cases h1
      exact key hno hl hvals
    | false =>
      refine ⟨Fb ρ m F, fun _ h => .inl h, hfb, fun h => by simp at h, ?_⟩
      exact decCells_ok hm (Fb ρ m F) (fun c v hc _ => brw_CR hm hc) (.inr rfl) hl hvals
  have hrt : RT w G (argTy D.args) x vs := unflatAll_ok _ hx hC
  have hargs : F2 (VR w ρ G ([] : List AO).length) (encArgs D.args x) vals.toList := encCells_ok hV (RT_flat _ hrt)
  have hm0 : MR w ρ G [] := ⟨fun n o h => by simp at h, fun n k b hn => by obtain ⟨o, h, _⟩ := hn; simp at h, fun n b hn => by obtain ⟨o, h, _⟩ := hn; simp at h, hGlt⟩
  have hnoOwn : ∀ b, ¬ Own ρ [] b := by rintro b ⟨n, ⟨o, h, _⟩, _⟩; simp at h
  refine (absFn_ok hP hG hmix hf hab w ρ G vals hargs hm0).mono fun e w' he => ?_
  obtain ⟨u, ρ', F', x', m', rfl, h1, h2, h3, h4⟩ := he
  -- the result
  unfold decRes at h1
  split at h1 <;> try cases h1
  rename_i hsh
  simp only [Bool.and_eq_true] at hsh
  obtain ⟨⟨hns, hsh⟩, hna⟩ := hsh
  obtain ⟨us, hVS, hCR⟩ := shape_vals h2 hns hsh hna
  split at h1 <;> cases h1
  rename_i _ m1 hod
  obtain ⟨v1, v2, ows, rfl, g1, g2, _⟩ := oDec_ok (m0 := m') h3.inj _ hod hCR (fun _ h => h) (fun n o ho => ⟨_, h3.obj n o ho⟩)
  cases g1
  rw [List.append_nil] at hVS
  -- the new names
  let ρ2 : Nat → Value := fun k => if k < m.length then ρ k else ows.getD (k - m.length) (.slice none 0 0)
  have hρ : ∀ k, k < m.length → ρ2 k = ρ k := fun k hk => by show (if k < m.length then ρ k else _) = _; rw [if_pos hk]
  have hρ2 : ∀ (i : Nat) (u : Value), ows[i]? = some u → ρ2 (m.length + i) = u := fun i u hi => by
    show (if m.length + i < m.length then _ else ows.getD (m.length + i - m.length) _) = u
    rw [if_neg (by omega), Nat.add_sub_cancel_left, List.getD_eq_getElem?_getD, hi]
    rfl
  let F2' : Nat → Prop := fun b => F b ∨ (F' b ∧ w.heap.size ≤ b)
  have hold : ∀ b, b < w.heap.size → w'.heap[b]? = w.heap[b]? := fun b hb => h4.keep b hb (hnoOwn b)
  have hmv : Mv w w' F F2' := ⟨fun b hb => .inl hb, fun b hb => hold b (hm.lt b hb)⟩
  have hlen : (m ++ (encO (prodTy D.res) y m.length).2).length = m.length + ows.length := by rw [List.length_append, g2.len]
  have hnew : ∀ b, Own ρ' m' b → w.heap.size ≤ b := fun b hb => (h4.own b hb).resolve_left (hnoOwn b)
  have hob : ∀ (i : Nat) (u : Value) (b : Nat), ows[i]? = some u → blk u = some b → Own ρ' m' b ∧ w.heap.size ≤ b := by
    intro i u b hi hb
    obtain ⟨k, k1, _, k2⟩ := g2.blks i u b hi hb
    exact ⟨⟨k, k1, k2⟩, hnew b ⟨k, k1, k2⟩⟩
  have hlive : ∀ n, live (m ++ (encO (prodTy D.res) y m.length).2) n → (n < m.length ∧ live m n) ∨ ∃ i u, n = m.length + i ∧ ows[i]? = some u := by
    intro n ⟨o, h5, h6⟩
    by_cases hn : n < m.length
    · rw [List.getElem?_append_left hn] at h5
      exact .inl ⟨hn, o, h5, h6⟩
    · have : n < m.length + ows.length := by rw [← hlen]; exact (List.getElem?_eq_some_iff.1 h5).1
      exact .inr ⟨n - m.length, ows[n - m.length], by omega, List.getElem?_eq_getElem (by omega)⟩
  have hblk : ∀ n b, live (m ++ (encO (prodTy D.res) y m.length).2) n → blk (ρ2 n) = some b → (n < m.length ∧ live m n ∧ blk (ρ n) = some b ∧ b < w.heap.size) ∨ ∃ i u, n = m.length + i ∧ ows[i]? = some u ∧ blk u = some b ∧ w.heap.size ≤ b := by
    intro n b hn hb
    rcases hlive n hn with ⟨k1, k2⟩ | ⟨i, v, rfl, k1⟩
    · rw [hρ n k1] at hb
      obtain ⟨o, o1, o2⟩ := k2
      exact .inl ⟨k1, ⟨o, o1, o2⟩, hb, obj_blk_lt (hm.obj n o o1) o2 hb⟩
    · rw [hρ2 i v k1] at hb
      exact .inr ⟨i, v, rfl, k1, hb, (hob i v b k1 hb).2⟩
  refine ⟨u, ρ2, F2', rfl, ?_, ⟨?_, ?_, ?_, ?_⟩, ⟨h4.os, h4.tape, h4.output, h4.size, fun b hb _ => hold b hb, ?_, fun b hb => .inl hb, ?_, ?_, ?_⟩, fun n hn _ => hρ n hn, fun p hp => (by cases hp), fun _ => ⟨h4.size, hold⟩⟩
  · exact vals_res hVS (g2.cells m.length _ ρ2 F2' hρ2 (by rw [hlen]; exact Nat.le_refl _))
  · intro n o ho
    by_cases hn : n < m.length
    · rw [List.getElem?_append_left hn] at ho
      rw [hρ n hn]
      cases hg : o with
      | gone => trivial
      | _ =>
        rw [← hg]
        exact (hm.obj n o ho).mono hmv (fun _ _ _ _ _ k hk _ => hρ k hk) (by rw [hlen]; omega) (fun b hb => hold b (obj_blk_lt (hm.obj n o ho) (by rw [hg]; simp) hb))
    · rw [List.getElem?_append_right (by omega)] at ho
      have hi : n - m.length < ows.length := by rw [← g2.len m.length]; exact (List.getElem?_eq_some_iff.1 ho).1
      have hu : ows[n - m.length]? = some ows[n - m.length] := List.getElem?_eq_getElem hi
      have hn2 := hρ2 _ _ hu
      rw [show m.length + (n - m.length) = n by omega] at hn2
      rw [hn2]
      have fin : RowR w' F2' o ows[n - m.length] := by
        cases hno : noOwn args with
        | true =>
          obtain ⟨e, t, xs, rfl, vs', k1, k2⟩ := g2.rows _ _ _ _ ho hu
          refine ⟨e, t, xs, rfl, vs', k1, k2.mono (fun b hb => ?_) (fun _ _ => rfl)⟩
          rcases h4.froB b hb with h | h | h
          · exact .inl (hGb hno b h)
          · exact absurd h (hnoOwn b)
          · exact .inr ⟨hb, h⟩
        | false =>
          rw [hno] at hfl
          exact g2.flat (by simpa using hfl) _ _ _ _ ho hu _
      obtain ⟨e, t, xs, rfl, vs', k1, k2⟩ := fin
      exact ⟨vs', k1, k2⟩
  · intro n k b hn hk h5 h6
    rcases hblk n b hn h5 with ⟨q1, q2, q3, q4⟩ | ⟨i, v, rfl, q1, q2, q3⟩ <;> rcases hblk k b hk h6 with ⟨p1, p2, p3, p4⟩ | ⟨j, v', rfl, p1, p2, p3⟩
    · exact hm.inj n k b q2 p2 q3 p3
    · omega
    · omega
    · rw [g2.inj i j v v' b q1 p1 q2 p2]
  · intro n b hn h5 hf
    rcases hblk n b hn h5 with ⟨q1, q2, q3, q4⟩ | ⟨i, v, rfl, q1, q2, q3⟩
    · rcases hf with hf | ⟨_, hf⟩
      · exact hm.sep n b q2 q3 hf
      · omega
    · rcases hf with hf | ⟨hf, _⟩
      · have := hm.lt b hf; omega
      · obtain ⟨⟨k, k1, k2⟩, _⟩ := hob i v b q1 q2
        exact h3.sep k b k1 k2 hf
  · rintro b (hf | ⟨hf, _⟩)
    · exact Nat.lt_of_lt_of_le (hm.lt b hf) h4.size
    · exact h3.lt b hf
  · rintro b ⟨n, hn, h5⟩
    rcases hblk n b hn h5 with ⟨q1, q2, q3, q4⟩ | ⟨i, v, rfl, q1, q2, q3⟩
    · exact .inl ⟨n, q2, q3⟩
    · exact .inr q3
  · rintro b (hf | ⟨_, hf⟩)
    · exact .inl hf
    · exact .inr (.inr hf)
  · rw [hlen]; exact Nat.le_add_right _ _
  · intro n T l' hn
    have hlt : n < m.length := (List.getElem?_eq_some_iff.1 hn).1
    refine ⟨hρ n hlt, fun o ho => ?_⟩
    rw [List.getElem?_append_left hlt] at ho
    have : some (AO.var T l') = some o := hn.symm.trans ho
    cases this
    rfl

/-- the blocks of named rows -/
def Fz (ρ : Nat → Value) (ns : List Nat) (F : Nat → Prop) : Nat → Prop := fun b => F b ∨ ∃ n ∈ ns, blk (ρ n) = some b
omit hP hmix in
theorem kills_get : ∀ (ns : List Nat) (m : List AO) (k : Nat), (kills ns m).length = m.length ∧ ∀ o, (kills ns m)[k]? = some o → o = AO.gone ∨ (k ∉ ns ∧ m[k]? = some o)
  | [], m, k => ⟨rfl, fun o h => .inr ⟨by simp, h⟩⟩
  | n :: ns, m, k => by
    obtain ⟨h1, h2⟩ := kills_get ns (m.set n .gone) k
    refine ⟨by unfold kills; rw [h1]; simp, fun o ho => ?_⟩
    unfold kills at ho
    rcases h2 o ho with h | ⟨h3, h4⟩
    · exact .inl h
    · rw [List.getElem?_set] at h4
      split at h4
      · split at h4
        · cases h4; exact .inl rfl
        · cases h4
      · rename_i hne
        exact .inr ⟨by simp only [List.mem_cons, not_or]; exact ⟨fun e => hne e.symm, h3⟩, h4⟩
omit hP hmix in
theorem mem_ownsC {n : Nat} : ∀ {l : List AC}, AC.own n ∈ l → n ∈ ownsC l
  | [], h => by cases h
  | d :: l, h => by
    rcases List.mem_cons.1 h with rfl | h
    · simp [ownsC]
    · have := mem_ownsC h
      cases d <;> simp [ownsC, this]
omit hP hmix in
theorem mem_owns {n : Nat} : ∀ {l : List AV}, AC.own n ∈ (l.map AV.acs).flatten → n ∈ ownsOf l
  | [], h => by simp at h
  | v :: l, h => by
    simp only [List.map_cons, List.flatten_cons, List.mem_append] at h
    simp only [ownsOf, List.mem_append]
    exact h.imp mem_ownsC mem_owns
omit hP hmix in
theorem frzM_at {ns : List Nat} {m : List AO} {n T : Nat} {l : List AC} (h : n ∉ ns) (hn : m[n]? = some (.var T l)) : ∃ l', (frzM ns m)[n]? = some (.var T l') := by
  have key : ∀ (ns : List Nat) (m : List AO), n ∉ ns → (kills ns m)[n]? = m[n]? := by
    intro ns
    induction ns with
    | nil => intro m _; rfl
    | cons k ns ih =>
      intro m h
      simp only [List.mem_cons, not_or] at h
      unfold kills
      rw [ih _ h.2, List.getElem?_set_ne (fun e => h.1 e.symm)]
  unfold frzM
  rw [key ns _ h, List.getElem?_map, hn]
  exact ⟨_, rfl⟩
omit hP hmix in
theorem brw_VR {w : World} {ρ : Nat → Value} {F G : Nat → Prop} {N : Nat} {m : List AO} {x : AV} {v : Value} (hc : ∀ c ∈ x.acs, ∀ u, CR w ρ F N c u → CR w ρ G N (brw m c) u) (h : VR w ρ F N x v) : VR w ρ G N (x.brw m) v := by
  have hCs : ∀ {l : List AC} {vs : List Value}, (∀ c ∈ l, ∀ u, CR w ρ F N c u → CR w ρ G N (brw m c) u) → CRs w ρ F N l vs → CRs w ρ G N (l.map (brw m)) vs := by
    intro l vs hc h
    induction h with
    | nil => exact .nil
    | cons h _ ih => exact .cons (hc _ (by simp) _ h) (ih fun c h => hc c (by simp [h]))
  have hb : ∀ {b : Bool} {l : List AC} {v : Value}, (∀ c ∈ l, ∀ u, CR w ρ F N c u → CR w ρ G N (brw m c) u) → VRb w ρ F N b l v → VRb w ρ G N b (l.map (brw m)) v := by
    intro b l v hc h
    cases b with
    | true => obtain ⟨vs, rfl, h⟩ := h; exact ⟨vs, rfl, hCs hc h⟩
    | false =>
      match l, h with
      | [], _ => trivial
      | [c], h =>
        by_cases hc' : c = .any
        · subst hc'; trivial
        · have h' : CR w ρ F N c v := by cases c <;> first | exact absurd rfl hc' | exact h
          exact VR.of_CR (hc c (by simp) v h')
      | c :: d :: r, _ => cases hc : brw m c <;> simp only [List.map_cons, hc] <;> trivial
  cases x with
  | one c => exact hb (b := false) (l := [c]) hc h
  | agg l => exact hb (b := true) (l := l) hc h
  | tup l =>
    obtain ⟨vs, rfl, h⟩ := h
    refine ⟨vs, rfl, ?_⟩
    have hc2 : ∀ p ∈ l, ∀ c ∈ p.2, ∀ u, CR w ρ F N c u → CR w ρ G N (brw m c) u := fun p hp c hcc => hc c (by simp only [AV.acs]; exact List.mem_flatten.2 ⟨p.2, List.mem_map.2 ⟨p, hp, rfl⟩, hcc⟩)
    clear hc
    generalize vs.toList = us at h
    induction h with
    | nil => exact .nil
    | cons h _ ih => exact .cons (hb (hc2 _ (by simp)) h) (ih fun p hp => hc2 p (by simp [hp]))
omit hP hmix in
theorem dspec_ok (hP : TabOk P tt) (hmix : P.follows .mixedOrders = true) {pu : Prop} {f : Nat} {D : DFn} (hD : DOk P tt f D) {R : Type} {args : List AV} {m : List AO} {κ : AV → List AO → List (Nat × AC) → Option R} {r : R} (h : dspec D R args m κ = some r) :
    ∃ x m' ch, κ x m' ch = some r ∧ CallOk P pu f args m x m' ch := by
  unfold dspec at h
  split at h
  · obtain ⟨x, m', ch, h1, _, h2⟩ := dspec0_ok hP hmix hD h
    exact ⟨x, m', ch, h1, h2⟩
  split at h <;> try cases h
  rename_i hb
  simp only [Bool.and_eq_true] at hb
  obtain ⟨hno, hrows⟩ := hb
  obtain ⟨x, m', ch, h1, rfl, hfn, h2⟩ := dspec0_ok (pu := pu) hP hmix hD h
  refine ⟨x, m', _, h1, hfn, fun w ρ F vals hv hm => ?_⟩
  have hrow : ∀ n ∈ ownsOf args, ∃ e t xs, m[n]? = some (.row e t xs) := by
    intro n hn
    have := List.all_eq_true.1 hrows n hn
    split at this
    · rename_i e t xs hx; exact ⟨e, t, xs, hx⟩
    · cases this
  have hmv : Mv w w F (Fz ρ (ownsOf args) F) := ⟨fun _ h => .inl h, fun _ _ => rfl⟩
  have hblk : ∀ n ∈ ownsOf args, live m n := fun n hn => by obtain ⟨e, t, xs, hx⟩ := hrow n hn; exact ⟨_, hx, by simp⟩
  have hlt : ∀ b, Fz ρ (ownsOf args) F b → b < w.heap.size := by
    rintro b (hb | ⟨n, hn, hb⟩)
    · exact hm.lt b hb
    · obtain ⟨o, k1, k2⟩ := hblk n hn
      exact obj_blk_lt (hm.obj n o k1) k2 hb
  -- an own row that is named reads as immutable data
  have hbrw : ∀ n ∈ ownsOf args, CR w ρ (Fz ρ (ownsOf args) F) m.length (brw m (.own n)) (ρ n) := by
    intro n hn
    obtain ⟨e, t, xs, hx⟩ := hrow n hn
    simp only [brw, hx]
    exact RT.mono (fun b hb => by
      rcases hb with hb | hb
      · exact .inl hb
      · exact .inr ⟨n, hn, hb⟩) (fun _ _ => rfl) _ (row_RT (s := ⟨[], m⟩) (hm.obj n _ hx))
  have hlen : (frzM (ownsOf args) m).length = m.length := by unfold frzM; rw [(kills_get _ _ 0).1]; simp
  have hget : ∀ k o, (frzM (ownsOf args) m)[k]? = some o → o = AO.gone ∨ (k ∉ ownsOf args ∧ ∃ o0, m[k]? = some o0 ∧ o0 ≠ .gone ∧ ((∃ T l, o0 = .var T l ∧ o = .var T (l.map fun c => match c with
      | .own n => if (ownsOf args).contains n then brw m c else c
      | .ep n _ _ _ => if (ownsOf args).contains n then .any else c
      | c => c)) ∨ (∃ e t xs, o0 = .row e t xs ∧ o = .row e t xs))) := by
    intro k o ho
    unfold frzM at ho
    rcases (kills_get _ _ k).2 o ho with h | ⟨h3, h4⟩
    · exact .inl h
    · rw [List.getElem?_map] at h4
      obtain ⟨o0, h5, rfl⟩ := Option.map_eq_some_iff.1 h4
      cases o0 with
      | var T l => exact .inr ⟨h3, _, h5, by simp, .inl ⟨T, l, rfl, rfl⟩⟩
      | row e t xs => exact .inr ⟨h3, _, h5, by simp, .inr ⟨e, t, xs, rfl, rfl⟩⟩
      | gone => exact .inl rfl
  have hlive : ∀ k, live (frzM (ownsOf args) m) k → live m k ∧ k ∉ ownsOf args := by
    intro k ⟨o, ho, hg⟩
    rcases hget k o ho with h | ⟨h3, o0, h4, h5, _⟩
    · exact absurd h hg
    · exact ⟨⟨o0, h4, h5⟩, h3⟩
  have hOwn : ∀ b, Own ρ (frzM (ownsOf args) m) b → Own ρ m b := by
    rintro b ⟨k, hk, hb⟩
    exact ⟨k, (hlive k hk).1, hb⟩
  have hm1 : MR w ρ (Fz ρ (ownsOf args) F) (frzM (ownsOf args) m) := by
    refine ⟨?_, ?_, ?_, hlt⟩
    · intro k o ho
      rw [hlen]
      rcases hget k o ho with rfl | ⟨h3, o0, h4, h5, h6⟩
      · trivial
      · have hob := hm.obj k o0 h4
        rcases h6 with ⟨T, l, rfl, rfl⟩ | ⟨e, t, xs, rfl, rfl⟩
        · obtain ⟨b, vs, g1, g2, g3⟩ := hob
          refine ⟨b, vs, g1, g2, F2.map _ g3 fun c v hc => ?_⟩
          have hmono := hc.mono hmv (fun _ _ _ => rfl) (Nat.le_refl _)
          cases c with
          | own n =>
            simp only
            split
            · rename_i hn
              rw [hc.2.1]
              exact hbrw n (by simpa using hn)
            · exact hmono
          | ep n i z off =>
            simp only
            split
            · exact hc.one
            · exact hmono
          | _ => exact hmono
        · obtain ⟨vs, g1, g2⟩ := hob
          exact ⟨vs, g1, g2.mono hmv.sub hmv.same⟩
    · intro j k b hj hk
      exact hm.inj j k b (hlive j hj).1 (hlive k hk).1
    · intro j b hj hb hf
      obtain ⟨h3, h4⟩ := hlive j hj
      rcases hf with hf | ⟨n, hn, hf⟩
      · exact hm.sep j b h3 hb hf
      · have := hm.inj j n b h3 (hblk n hn) hb hf
        subst this
        exact h4 hn
  have hcell : ∀ c ∈ (args.map AV.acs).flatten, ∀ v, CR w ρ F m.length c v → CR w ρ (Fz ρ (ownsOf args) F) m.length (brw m c) v := by
    intro c hc v hcr
    cases c with
    | own n =>
      have hn : n ∈ ownsOf args := mem_owns hc
      rw [hcr.2.1]
      exact hbrw n hn
    | _ => exact hcr.mono hmv (fun _ _ _ => rfl) (Nat.le_refl _)
  have hv1 : F2 (VR w ρ (Fz ρ (ownsOf args) F) (frzM (ownsOf args) m).length) (args.map (AV.brw m)) vals.toList := by
    rw [hlen]
    generalize vals.toList = us at hv
    have key : ∀ {l : List AV} {us : List Value}, (∀ v ∈ l, ∀ c ∈ v.acs, ∀ u, CR w ρ F m.length c u → CR w ρ (Fz ρ (ownsOf args) F) m.length (brw m c) u) → F2 (VR w ρ F m.length) l us → F2 (VR w ρ (Fz ρ (ownsOf args) F) m.length) (l.map (AV.brw m)) us := by
      intro l us hc hf
      induction hf with
      | nil => exact .nil
      | cons h _ ih => exact .cons (brw_VR (hc _ (by simp)) h) (ih fun v hv => hc v (by simp [hv]))
    refine key (fun v hv c hc u hu => hcell c ?_ u hu) hv
    exact List.mem_flatten.2 ⟨v.acs, List.mem_map.2 ⟨v, hv, rfl⟩, hc⟩
  refine (h2 w ρ _ vals hv1 hm1).mono fun e w' he => ?_
  obtain ⟨u, ρ', F', rfl, g1, g2, g3, g4, _, g6⟩ := he
  have hmv2 : Mv w w' (Fz ρ (ownsOf args) F) F' := ⟨g3.fro, fun b hb => g3.keep b (hlt b hb) (fun ⟨k, hk, e⟩ => hm1.sep k b hk e hb)⟩
  refine ⟨u, ρ', F', rfl, g1, g2, ⟨g3.os, g3.tape, g3.output, g3.size, fun b hb hO => g3.keep b hb (fun h => hO (hOwn b h)), fun b hb => (g3.own b hb).imp (hOwn b) id, fun b hb => g3.fro b (.inl hb), fun b hb => ?_, by have := g3.len; simp only [hlen] at this; exact this, fun n T l hn => ?_⟩, fun n hn hf => g4 n (by rw [hlen]; exact hn) rfl, fun p hp => ?_, g6⟩
  · rcases g3.froB b hb with (h | ⟨n, hn, h⟩) | h | h
    · exact .inl h
    · exact .inr (.inl ⟨n, hblk n hn, h⟩)
    · exact .inr (.inl (hOwn b h))
    · exact .inr (.inr h)
  · have hn1 : ∃ l', (frzM (ownsOf args) m)[n]? = some (.var T l') := by
      have hlt' : n < (frzM (ownsOf args) m).length := by rw [hlen]; exact (List.getElem?_eq_some_iff.1 hn).1
      have hnn : n ∉ ownsOf args := fun h => by obtain ⟨e, t, xs, hx⟩ := hrow n h; rw [hn] at hx; cases hx
      rcases hget n _ (List.getElem?_eq_getElem hlt') with h | ⟨_, o0, h4, _, h6⟩
      · exfalso
        have := frzM_at (ns := ownsOf args) (m := m) hnn hn
        rw [List.getElem?_eq_getElem hlt', h] at this
        obtain ⟨_, this⟩ := this
        cases this
      · rw [hn] at h4
        cases h4
        rcases h6 with ⟨T', l', k1, k2⟩ | ⟨e, t, xs, k1, _⟩
        · cases k1
          exact ⟨_, by rw [List.getElem?_eq_getElem hlt', k2]⟩
        · cases k1
    obtain ⟨l', hl'⟩ := hn1
    exact g3.rho n T l' hl'
  · obtain ⟨n, hn, rfl⟩ := List.mem_map.1 hp
    have hq := hbrw n hn
    have hnm : (brw m (.own n)).nm = none := by
      obtain ⟨e, t, xs, hx⟩ := hrow n hn
      simp only [brw, hx]
      rfl
    exact hq.mono hmv2 (fun k _ e => by rw [hnm] at e; cases e) (by have := g3.len; simp only [hlen] at this; exact this)

/-- a table of specified functions -/
def gamF (l : List (Nat × DFn)) : GamF := fun R f args m κ => match l.find? (fun p => Nat.beq p.1 f) with
  | some p => dspec p.2 R args m κ
  | none => none
def gamOf (l : List (Nat × DFn)) : Gam := ⟨gamF l, gamF l⟩
theorem gamF_ok {pu : Prop} {l : List (Nat × DFn)} (h : ∀ p ∈ l, DOk P tt p.1 p.2) : GamFOk P pu (gamF l) := by
  intro R f args m κ r hr
  unfold gamF at hr
  split at hr
  · rename_i p hp
    have h1 := List.find?_some hp
    have h2 : p.1 = f := Nat.eq_of_beq_eq_true h1
    subst h2
    exact dspec_ok hP hmix (h p (List.mem_of_find?_eq_some hp)) hr
  · cases hr
theorem gamOf_ok {l : List (Nat × DFn)} (h : ∀ p ∈ l, DOk P tt p.1 p.2) : GamOk P (gamOf l) := ⟨gamF_ok hP hmix h, gamF_ok hP hmix h⟩
end
end Go.Proofs.Ytaaljooihacpgaa.Am
