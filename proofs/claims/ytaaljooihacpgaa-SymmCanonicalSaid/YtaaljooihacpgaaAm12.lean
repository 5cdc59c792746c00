/- Specified functions of plain data: a call does what the specification says. -/
import Derived.Test.YtaaljooihacpgaaAm11
set_option linter.unusedVariables false
set_option linter.unusedSimpArgs false
namespace Go.Proofs.Ytaaljooihacpgaa.Am
open Go

section
variable {P : Program} {tt : Tab} (hP : TabOk P tt) (hmix : P.follows .mixedOrders = true)

/-- what is to be shown of a specified function: the abstract machine evaluates its body to what its Lean function says -/
def DOk (P : Program) (tt : Tab) (f : Nat) (D : DFn) : Prop :=
  ∃ fn, P.funcs[f]? = some fn ∧ (fn.name == "runtime.NumGoroutine") = false ∧ fn.body.isSome = true ∧
    ∀ x y, D.f x = some y → ∃ (Γ : Gam) (A : Nat → Option LoopAnn) (n : Nat), GamOk P Γ ∧ absFn tt Γ A n fn (encArgs D.args x) [] (decRes D.res) = some y

include hP hmix
theorem dspec_ok {f : Nat} {D : DFn} (hD : DOk P tt f D) {R : Type} {args : List AV} {m : List AO} {κ : AV → List AO → List Nat → Option R} {r : R} (h : dspec D R args m κ = some r) :
    ∃ x m' ch, κ x m' ch = some r ∧ CallOk P f args m x m' ch := by
  unfold dspec at h
  split at h
  · cases h
  rename_i x hx
  split at h <;> try cases h
  rename_i hfl
  obtain ⟨y, hy, hk⟩ := Option.bind_eq_some_iff.1 h
  obtain ⟨fn, hf, hname, hbody, hD⟩ := hD
  obtain ⟨Γ, A, n, hG, hab⟩ := hD x y hy
  refine ⟨_, _, _, hk, ⟨fn, hf, hname, hbody⟩, fun w ρ F vals hvals hm => ?_⟩
  unfold decArgs at hx
  split at hx <;> try cases hx
  rename_i l hl
  have hfb : ∀ b, Fb ρ m F b → b < w.heap.size := by
    rintro b (hb | ⟨n, hn, hb⟩)
    · exact hm.lt b hb
    · obtain ⟨o, h1, h2⟩ := hn
      exact obj_blk_lt (hm.obj n o h1) h2 hb
  -- the blocks that the callee may read
  obtain ⟨G, hGF, hGlt, hGb, vs, hV, hC⟩ : ∃ G : Nat → Prop, (∀ b, F b → G b) ∧ (∀ b, G b → b < w.heap.size) ∧ (noOwn args = true → ∀ b, G b → F b) ∧ ∃ vs, Vals D.args vals.toList vs ∧ CRs w ρ G m.length l vs := by
    cases hno : noOwn args with
    | true =>
      refine ⟨F, fun _ h => h, hm.lt, fun _ _ h => h, ?_⟩
      have key : ∀ {ks : List AK} {args : List AV} {l : List AC} {us : List Value}, noOwn args = true → decCells m ks args = some l → F2 (VR w ρ F m.length) args us → ∃ vs, Vals ks us vs ∧ CRs w ρ F m.length l vs := by
        intro ks args
        induction args generalizing ks with
        | nil =>
          intro l us _ h hv
          cases ks with
          | nil => simp [decCells] at h; subst h; cases hv; exact ⟨[], .nil, .nil⟩
          | cons => simp [decCells] at h
        | cons x args ih =>
          intro l us hno h hv
          cases ks with
          | nil => simp [decCells] at h
          | cons k ks =>
            unfold decCells at h
            split at h <;> try cases h
            rename_i l1 l2 h1 h2
            simp only [noOwn, List.all_cons, Bool.and_eq_true] at hno
            have hn1 : ∀ c ∈ x.acs, c.nm = none := by
              intro c hc
              have := List.all_eq_true.1 hno.1 c hc
              cases hn : c.nm with
              | none => rfl
              | some n => rw [hn] at this; simp at this
            cases hv with
            | @cons _ v _ us h3 h4 =>
              obtain ⟨vs, h5, h6⟩ := ih hno.2 h2 h4
              unfold decArg at h1
              split at h1
              · rename_i t l'
                split at h1 <;> cases h1
                rename_i hlen
                obtain ⟨us', rfl, h7⟩ := h3
                refine ⟨us'.toList ++ vs, .agg (by have := F2.length h7; simp at this; omega) h5, F2.append ?_ h6⟩
                have : l'.map (brw m) = l' := by
                  have h8 : ∀ c ∈ l', brw m c = id c := fun c hc => brw_noOwn (hn1 c hc)
                  rw [List.map_congr_left h8]
                  simp
                rw [this]
                exact h7
              · rename_i t c
                split at h1 <;> cases h1
                rename_i hlen
                obtain ⟨hlen, hany⟩ := hlen
                rw [brw_noOwn (hn1 c (by simp [AV.acs]))] at hany ⊢
                have hc : c ≠ .any := by
                  intro e
                  subst e
                  simp [isAny] at hany
                exact ⟨v :: vs, .one hlen h5, .cons (VR.CR h3 hc) h6⟩
              · rename_i n k'
                split at h1 <;> cases h1
                rename_i hk
                subst hk
                have hv : v = .func (.func k') #[] #[] := VR.CR h3 (by simp)
                subst hv
                exact ⟨vs, .fn h5, by simpa using h6⟩
              · cases h1
      exact key hno hl hvals
    | false =>
      refine ⟨Fb ρ m F, fun _ h => .inl h, hfb, fun h => by simp at h, ?_⟩
      exact decCells_ok hm (Fb ρ m F) (fun c v hc _ => brw_CR hm hc) (.inr rfl) hl hvals
  have hrt : RT w G (argTy D.args) x vs := unflatAll_ok _ hx hC
  have hargs : F2 (VR w ρ G ([] : List AO).length) (encArgs D.args x) vals.toList := encCells_ok hV (RT_flat _ hrt)
  have hm0 : MR w ρ G [] := ⟨fun n o h => by simp at h, fun n k b hn => by obtain ⟨o, h, _⟩ := hn; simp at h, fun n b hn => by obtain ⟨o, h, _⟩ := hn; simp at h, hGlt⟩
  have hnoOwn : ∀ b, ¬ Own ρ [] b := by rintro b ⟨n, ⟨o, h, _⟩, _⟩; simp at h
  refine (absFn_ok hP hG hmix hf hab w ρ G vals hargs hm0).mono fun e w' he => ?_
  obtain ⟨u, ρ', F', x', m', rfl, h1, h2, h3, h4⟩ := he
  -- the result
  unfold decRes at h1
  split at h1 <;> try cases h1
  rename_i hsh
  simp only [Bool.and_eq_true] at hsh
  obtain ⟨⟨hns, hsh⟩, hna⟩ := hsh
  obtain ⟨us, hVS, hCR⟩ := shape_vals h2 hns hsh hna
  split at h1 <;> cases h1
  rename_i _ m1 hod
  obtain ⟨v1, v2, ows, rfl, g1, g2, _⟩ := oDec_ok (m0 := m') h3.inj _ hod hCR (fun _ h => h) (fun n o ho => ⟨_, h3.obj n o ho⟩)
  cases g1
  rw [List.append_nil] at hVS
  -- the new names
  let ρ2 : Nat → Value := fun k => if k < m.length then ρ k else ows.getD (k - m.length) (.slice none 0 0)
  have hρ : ∀ k, k < m.length → ρ2 k = ρ k := fun k hk => by show (if k < m.length then ρ k else _) = _; rw [if_pos hk]
  have hρ2 : ∀ (i : Nat) (u : Value), ows[i]? = some u → ρ2 (m.length + i) = u := fun i u hi => by
    show (if m.length + i < m.length then _ else ows.getD (m.length + i - m.length) _) = u
    rw [if_neg (by omega), Nat.add_sub_cancel_left, List.getD_eq_getElem?_getD, hi]
    rfl
  let F2' : Nat → Prop := fun b => F b ∨ (F' b ∧ w.heap.size ≤ b)
  have hold : ∀ b, b < w.heap.size → w'.heap[b]? = w.heap[b]? := fun b hb => h4.keep b hb (hnoOwn b)
  have hmv : Mv w w' F F2' := ⟨fun b hb => .inl hb, fun b hb => hold b (hm.lt b hb)⟩
  have hlen : (m ++ (encO (prodTy D.res) y m.length).2).length = m.length + ows.length := by rw [List.length_append, g2.len]
  have hnew : ∀ b, Own ρ' m' b → w.heap.size ≤ b := fun b hb => (h4.own b hb).resolve_left (hnoOwn b)
  have hob : ∀ (i : Nat) (u : Value) (b : Nat), ows[i]? = some u → blk u = some b → Own ρ' m' b ∧ w.heap.size ≤ b := by
    intro i u b hi hb
    obtain ⟨k, k1, _, k2⟩ := g2.blks i u b hi hb
    exact ⟨⟨k, k1, k2⟩, hnew b ⟨k, k1, k2⟩⟩
  have hlive : ∀ n, live (m ++ (encO (prodTy D.res) y m.length).2) n → (n < m.length ∧ live m n) ∨ ∃ i u, n = m.length + i ∧ ows[i]? = some u := by
    intro n ⟨o, h5, h6⟩
    by_cases hn : n < m.length
    · rw [List.getElem?_append_left hn] at h5
      exact .inl ⟨hn, o, h5, h6⟩
    · have : n < m.length + ows.length := by rw [← hlen]; exact (List.getElem?_eq_some_iff.1 h5).1
      exact .inr ⟨n - m.length, ows[n - m.length], by omega, List.getElem?_eq_getElem (by omega)⟩
  have hblk : ∀ n b, live (m ++ (encO (prodTy D.res) y m.length).2) n → blk (ρ2 n) = some b → (n < m.length ∧ live m n ∧ blk (ρ n) = some b ∧ b < w.heap.size) ∨ ∃ i u, n = m.length + i ∧ ows[i]? = some u ∧ blk u = some b ∧ w.heap.size ≤ b := by
    intro n b hn hb
    rcases hlive n hn with ⟨k1, k2⟩ | ⟨i, v, rfl, k1⟩
    · rw [hρ n k1] at hb
      obtain ⟨o, o1, o2⟩ := k2
      exact .inl ⟨k1, ⟨o, o1, o2⟩, hb, obj_blk_lt (hm.obj n o o1) o2 hb⟩
    · rw [hρ2 i v k1] at hb
      exact .inr ⟨i, v, rfl, k1, hb, (hob i v b k1 hb).2⟩
  refine ⟨u, ρ2, F2', rfl, ?_, ⟨?_, ?_, ?_, ?_⟩, ⟨h4.os, h4.tape, h4.output, h4.size, fun b hb _ => hold b hb, ?_, fun b hb => .inl hb, ?_, ?_, ?_⟩, fun n hn _ => hρ n hn⟩
  · exact vals_res hVS (g2.cells m.length _ ρ2 F2' hρ2 (by rw [hlen]; exact Nat.le_refl _))
  · intro n o ho
    by_cases hn : n < m.length
    · rw [List.getElem?_append_left hn] at ho
      rw [hρ n hn]
      cases hg : o with
      | gone => trivial
      | _ =>
        rw [← hg]
        exact (hm.obj n o ho).mono hmv (fun _ _ _ _ _ k hk _ => hρ k hk) (by rw [hlen]; omega) (fun b hb => hold b (obj_blk_lt (hm.obj n o ho) (by rw [hg]; simp) hb))
    · rw [List.getElem?_append_right (by omega)] at ho
      have hi : n - m.length < ows.length := by rw [← g2.len m.length]; exact (List.getElem?_eq_some_iff.1 ho).1
      have hu : ows[n - m.length]? = some ows[n - m.length] := List.getElem?_eq_getElem hi
      have hn2 := hρ2 _ _ hu
      rw [show m.length + (n - m.length) = n by omega] at hn2
      rw [hn2]
      have fin : RowR w' F2' o ows[n - m.length] := by
        cases hno : noOwn args with
        | true =>
          obtain ⟨e, t, xs, rfl, vs', k1, k2⟩ := g2.rows _ _ _ _ ho hu
          refine ⟨e, t, xs, rfl, vs', k1, k2.mono (fun b hb => ?_) (fun _ _ => rfl)⟩
          rcases h4.froB b hb with h | h | h
          · exact .inl (hGb hno b h)
          · exact absurd h (hnoOwn b)
          · exact .inr ⟨hb, h⟩
        | false =>
          rw [hno] at hfl
          exact g2.flat (by simpa using hfl) _ _ _ _ ho hu _
      obtain ⟨e, t, xs, rfl, vs', k1, k2⟩ := fin
      exact ⟨vs', k1, k2⟩
  · intro n k b hn hk h5 h6
    rcases hblk n b hn h5 with ⟨q1, q2, q3, q4⟩ | ⟨i, v, rfl, q1, q2, q3⟩ <;> rcases hblk k b hk h6 with ⟨p1, p2, p3, p4⟩ | ⟨j, v', rfl, p1, p2, p3⟩
    · exact hm.inj n k b q2 p2 q3 p3
    · omega
    · omega
    · rw [g2.inj i j v v' b q1 p1 q2 p2]
  · intro n b hn h5 hf
    rcases hblk n b hn h5 with ⟨q1, q2, q3, q4⟩ | ⟨i, v, rfl, q1, q2, q3⟩
    · rcases hf with hf | ⟨_, hf⟩
      · exact hm.sep n b q2 q3 hf
      · omega
    · rcases hf with hf | ⟨hf, _⟩
      · have := hm.lt b hf; omega
      · obtain ⟨⟨k, k1, k2⟩, _⟩ := hob i v b q1 q2
        exact h3.sep k b k1 k2 hf
  · rintro b (hf | ⟨hf, _⟩)
    · exact Nat.lt_of_lt_of_le (hm.lt b hf) h4.size
    · exact h3.lt b hf
  · rintro b ⟨n, hn, h5⟩
    rcases hblk n b hn h5 with ⟨q1, q2, q3, q4⟩ | ⟨i, v, rfl, q1, q2, q3⟩
    · exact .inl ⟨n, q2, q3⟩
    · exact .inr q3
  · rintro b (hf | ⟨_, hf⟩)
    · exact .inl hf
    · exact .inr (.inr hf)
  · rw [hlen]; exact Nat.le_add_right _ _
  · intro n T l' hn
    have hlt : n < m.length := (List.getElem?_eq_some_iff.1 hn).1
    refine ⟨hρ n hlt, fun o ho => ?_⟩
    rw [List.getElem?_append_left hlt] at ho
    have : some (AO.var T l') = some o := hn.symm.trans ho
    cases this
    rfl

/-- a table of specified functions -/
def gamOf (l : List (Nat × DFn)) : Gam := fun R f args m κ => match l.find? (fun p => Nat.beq p.1 f) with
  | some p => dspec p.2 R args m κ
  | none => none
theorem gamOf_ok {l : List (Nat × DFn)} (h : ∀ p ∈ l, DOk P tt p.1 p.2) : GamOk P (gamOf l) := by
  intro R f args m κ r hr
  unfold gamOf at hr
  split at hr
  · rename_i p hp
    have h1 := List.find?_some hp
    have h2 : p.1 = f := Nat.eq_of_beq_eq_true h1
    subst h2
    exact dspec_ok hP hmix (h p (List.mem_of_find?_eq_some hp)) hr
  · cases hr
omit hP hmix in
theorem gamNil_ok : GamOk P (fun _ _ _ _ _ => none) := by
  intro R f args m κ r hr
  cases hr
end
end Go.Proofs.Ytaaljooihacpgaa.Am
