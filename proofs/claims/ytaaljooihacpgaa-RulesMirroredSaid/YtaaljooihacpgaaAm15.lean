/- A law over data alone: from the plain law to the call. -/
import Derived.Test.YtaaljooihacpgaaAm14
import Derived.WideShapes
set_option linter.unusedVariables false
set_option linter.unusedSimpArgs false
namespace Go.Proofs.Ytaaljooihacpgaa.Am
open Go

/-- arguments that read as typed data -/
def ArgsR (W : World) (aks : List AK) (vals : List Value) : Prop :=
  ∃ (x : (argTy aks).den) (vs : List Value), Vals aks vals vs ∧ RT W (fun b => b < W.heap.size) (argTy aks) x vs ∧ Wf (argTy aks) x

theorem ArgsR.nil {W : World} : ArgsR W [] [] := ⟨(() : Unit), [], .nil, (rfl : ([] : List Value) = []), trivial⟩
theorem prod_more {W : World} {F : Nat → Prop} {a : AK} {aks : List AK} {y : a.pair.2.den} {cs : List Value} {x : (argTy aks).den} {vs : List Value} (h1 : RT W F a.pair.2 y cs) (h2 : Wf a.pair.2 y) (h3 : RT W F (argTy aks) x vs) (h4 : Wf (argTy aks) x) :
    ∃ z : (argTy (a :: aks)).den, RT W F (argTy (a :: aks)) z (cs ++ vs) ∧ Wf (argTy (a :: aks)) z := by
  cases aks with
  | nil =>
    have : vs = [] := h3
    subst this
    exact ⟨y, by rw [List.append_nil]; exact h1, h2⟩
  | cons b l => exact ⟨(y, x), RT_prod h1 h3, ⟨h2, h4⟩⟩
theorem ArgsR.cons {W : World} {t : Ty} {ag : Bool} {v : Value} {y : t.den} {aks : List AK} {vals : List Value} (h1 : RT W (fun b => b < W.heap.size) t y v.cells.toList) (h2 : Wf t y)
    (h3 : if ag then ∃ cs : Array Value, v = .agg cs ∧ cs.size = t.size else v.cells = #[v] ∧ 1 = t.size) (h : ArgsR W aks vals) : ArgsR W (.d ag t :: aks) (v :: vals) := by
  obtain ⟨x, vs, k1, k2, k3⟩ := h
  obtain ⟨z, k4, k5⟩ := prod_more (a := .d ag t) h1 h2 k2 k3
  refine ⟨z, _, ?_, k4, k5⟩
  cases ag with
  | true =>
    obtain ⟨cs, rfl, hc⟩ := h3
    exact .agg hc k1
  | false =>
    obtain ⟨hc, h0⟩ := h3
    rw [hc]
    exact .one h0 k1

section
variable {H : Type} {enc : TypeId × Value → H} {P : Program} {tt : Tab} (hP : TabOk P tt) (hmix : P.follows .mixedOrders = true) {W : World} {spare : Nat → Bool} {held : Bool}
include hP
theorem ArgsR.of {n T base : Nat} {t : Ty} {ag : Bool} {v : Value} {d : DataW H} {ps : List MemPlace} {aks : List AK} {vals : List Value} (ht : tyOf tt n T = some t) (hag : tt.isAgg T = some ag)
    (hval : Value.okWide P W .any base T v) (h : DataW.Trod enc P W 0 spare held T v d ps) (hs : tt.size T = t.size) (hr : ArgsR W aks vals) : ArgsR W (.d ag t :: aks) (v :: vals) := by
  obtain ⟨fuel, h⟩ := h
  obtain ⟨y, h1, h2⟩ := trod_RT hP n fuel T ht h
  refine ArgsR.cons h1 h2 ?_ hr
  obtain ⟨_, i, hi⟩ := run_isAgg' hP hag W
  rw [tab_size hi] at hs
  cases n with
  | zero => simp [tyOf] at ht
  | succ n =>
  unfold tyOf at ht
  unfold Tab.isAgg at hag
  rw [hi] at hag
  simp only at hag
  have htd : tt.td T = i.d := by unfold Tab.td; rw [hi]
  split at ht <;> rename_i hd
  · cases ht
    rw [htd] at hd
    rw [hd] at hag
    cases hag
    obtain ⟨n, rfl⟩ := WideShapes.okWide_int (td_int hP (htd.trans hd)) hval
    exact ⟨rfl, rfl⟩
  · cases ht
    rw [htd] at hd
    rw [hd] at hag
    cases hag
    obtain ⟨n, rfl⟩ := WideShapes.okWide_bool (td_bool hP (htd.trans hd)) hval
    exact ⟨rfl, rfl⟩
  · cases ht
    rw [htd] at hd
    rw [hd] at hag
    cases hag
    obtain ⟨n, rfl⟩ := WideShapes.okWide_string (td_str hP (htd.trans hd)) hval
    exact ⟨rfl, rfl⟩
  · split at ht <;> try cases ht
    split at ht <;> cases ht
    rw [htd] at hd
    rw [hd] at hag
    cases hag
    obtain ⟨a, l, c, rfl⟩ := WideShapes.okWide_slice (td_slice hP (htd.trans hd)).1 hval
    exact ⟨rfl, rfl⟩
  · rw [htd] at hd
    rw [hd] at hag
    cases hag
    obtain ⟨hu, _⟩ := td_array hP (htd.trans hd)
    simp only [Value.okWide, hu] at hval
    obtain ⟨cs, rfl, h3, _⟩ := hval
    exact ⟨cs, rfl, by rw [h3, cellsOf_tab hP hi]; exact hs⟩
  · rw [htd] at hd
    rw [hd] at hag
    cases hag
    obtain ⟨fields, hu, _, _⟩ := td_struct hP (htd.trans hd)
    obtain ⟨cs, rfl, h3⟩ := WideShapes.okWide_struct hu hval
    exact ⟨cs, rfl, by rw [h3, cellsOf_tab hP hi]; exact hs⟩
  · cases ht

include hmix
theorem law_calls {f : Nat} {aks : List AK} {F : Nat → (argTy aks).den → Option Bool} (hok : ∀ N, DOk P tt f ⟨aks, [(false, .bool)], F N⟩) (law : ∀ x, Wf (argTy aks) x → ∃ N, F N x = some true)
    {vals : Array Value} (ha : ArgsR W aks vals.toList) : Calls P f vals W fun e W' => e = .returned (.bool true) ∧ RowKit.Below W.heap.size W W' := by
  obtain ⟨x, vs, h1, h2, h3⟩ := ha
  obtain ⟨N, hN⟩ := law x h3
  obtain ⟨fn, hf, _, _, hD⟩ := hok N
  obtain ⟨Γ, A, n, hG, hab⟩ := hD x true hN
  have hargs : F2 (VR W (fun _ => .nilFunc) (fun b => b < W.heap.size) ([] : List AO).length) (encArgs aks x) vals.toList := encCells_ok h1 (RT_flat _ h2)
  have hm0 : MR W (fun _ => .nilFunc) (fun b => b < W.heap.size) [] := ⟨fun n o h => by simp at h, fun n k b hn => by obtain ⟨o, h, _⟩ := hn; simp at h, fun n b hn => by obtain ⟨o, h, _⟩ := hn; simp at h, fun _ h => h⟩
  refine (absFn_ok hP hG hmix hf hab W _ _ vals hargs hm0).mono fun e w' he => ?_
  obtain ⟨u, ρ', F', x', m', rfl, h4, h5, h6, h7⟩ := he
  unfold decRes at h4
  split at h4 <;> try cases h4
  rename_i hsh
  simp only [Bool.and_eq_true] at hsh
  obtain ⟨⟨hns, hsh⟩, hna⟩ := hsh
  split at h4 <;> try cases h4
  rename_i y m1 hod
  have hu : u = .bool true := by
    cases x' with
    | one c =>
      have hod' : oDec .bool [c] m' = some (true, [], m1) := hod
      have : c = .bool true := by
        cases c <;> simp only [oDec] at hod' <;> cases hod'
        rfl
      subst this
      exact VR.CR h5 (by simp)
    | agg l =>
      exfalso
      simp [AV.shape, shapeOf, sameShape] at hsh
    | tup l =>
      exfalso
      match l with
      | [] => simp [AV.shape, shapeOf, sameShape] at hsh
      | [_] => simp [notSingle] at hns
      | _ :: _ :: _ => simp [AV.shape, shapeOf, sameShape] at hsh
  refine ⟨by rw [hu], ⟨h7.os, h7.tape, h7.output, h7.size, fun k hk => h7.keep k hk ?_⟩⟩
  rintro ⟨n, ⟨o, h, _⟩, _⟩
  simp at h
end

theorem trodAll_below {H : Type} {enc : TypeId × Value → H} {P : Program} (hl : laidOutB P = true) {W W' : World} (hb : RowKit.Below W.heap.size W W') : ∀ {Ts : List Nat} {vs : List Value} {ds : List (DataW H)} {ps : List MemPlace},
    Ts.all (fun T => P.readableRec T && decide (T < P.types.size)) = true → DataW.TrodAll enc P W 0 (fun _ => true) true Ts vs ds ps → (∀ x ∈ ps, x.block < W.heap.size) → DataW.TrodAll enc P W' 0 (fun b => decide (b < W.heap.size)) true Ts vs ds ps
  | [], [], [], _, _, h, _ => h
  | T :: Ts, v :: vs, d :: ds, ps, ht, h, hlt => by
    obtain ⟨p, q, h1, h2, rfl⟩ := h
    simp only [List.all_cons, Bool.and_eq_true, decide_eq_true_eq] at ht
    exact ⟨p, q, RowKit.Below.trod hl ht.1.1 ht.1.2 h1 hb (fun x hx => hlt x (by simp [hx])), trodAll_below hl hb ht.2 h2 (fun x hx => hlt x (by simp [hx])), rfl⟩
  | [], _ :: _, _, _, _, h, _ => by cases h
  | [], [], _ :: _, _, _, h, _ => by cases h
  | _ :: _, [], _, _, _, h, _ => by cases h
  | _ :: _, _ :: _, [], _, _, h, _ => by cases h
end Go.Proofs.Ytaaljooihacpgaa.Am
