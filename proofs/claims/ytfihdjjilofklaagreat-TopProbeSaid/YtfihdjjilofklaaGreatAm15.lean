/- A law over data alone: from the plain law to the call. -/
import Derived.Test.YtfihdjjilofklaaGreatAm14
import Derived.WideShapes
set_option linter.unusedVariables false
set_option linter.unusedSimpArgs false
namespace Go.Proofs.YtfihdjjilofklaaGreat.Am
open Go
def WfA : (ks : List MK) → (argH ks).den → Prop
 | [], _ => True
 | .d _ t :: ks, x => Wf t x.1 ∧ WfA ks x.2
 | .r t _ :: ks, x => Wf t x.1 ∧ WfA ks x.2
 | .o _ _ :: ks, x => WfA ks x.2
 | .f _ :: ks, x => WfA ks x
def ArgsR (W : World) (ks : List MK) (vals : List Value) : Prop :=
 ∃ (x : (argH ks).den) (vs : List Value), Vals W (FW W) ks vals vs ∧ HR W (FW W) (argH ks) x vs [] ∧ WfA ks x
theorem ArgsR.nil {W : World} : ArgsR W [] [] := ⟨(() : Unit), [], .nil, ⟨rfl, rfl⟩, trivial⟩
theorem ArgsR.cons {W : World} {t : Ty} {ag : Bool} {v : Value} {y : t.den} {ks : List MK} {vals : List Value} (h1 : RT W (FW W) t y v.cells.toList) (h2 : Wf t y)
  (h3 : if ag then ∃ cs : Array Value, v = .agg cs ∧ cs.size = t.size else v.cells = #[v] ∧ 1 = t.size) (h : ArgsR W ks vals) : ArgsR W (.d ag t :: ks) (v :: vals) := by
 obtain ⟨x, vs, k1, k2, k3⟩ := h
 refine ⟨(y, x), v.cells.toList ++ vs, ?_, ⟨_, _, [], [], rfl, rfl, ⟨h1, rfl⟩, k2⟩, h2, k3⟩
 cases ag with
 | true =>
  obtain ⟨cs, rfl, hc⟩ := h3
  exact .agg hc k1
 | false =>
  obtain ⟨hc, h0⟩ := h3
  rw [hc]
  exact .one h0 k1
section
variable {H : Type} {enc : TypeId × Value → H} {P : Program} {tt : Tab} (hP : TabOk P tt) (hmix : P.follows .mixedOrders = true) {W : World} {spare : Nat → Bool} {held : Bool}
include hP
theorem ArgsR.of {n T base : Nat} {t : Ty} {ag : Bool} {v : Value} {d : DataW H} {ps : List MemPlace} {aks : List MK} {vals : List Value} (ht : tyOf tt n T = some t) (hag : tt.isAgg T = some ag)
  (hval : Value.okWide P W .any base T v) (h : DataW.Trod enc P W 0 spare held T v d ps) (hs : tt.size T = t.size) (hr : ArgsR W aks vals) : ArgsR W (.d ag t :: aks) (v :: vals) := by
 obtain ⟨fuel, h⟩ := h
 obtain ⟨y, h1, h2⟩ := trod_RT hP n fuel T ht h
 refine ArgsR.cons h1 h2 ?_ hr
 obtain ⟨_, i, hi⟩ := run_isAgg' hP hag W
 rw [tab_size hi] at hs
 cases n with
 | zero => simp [tyOf] at ht
 | succ n =>
 unfold tyOf at ht
 unfold Tab.isAgg at hag
 rw [hi] at hag
 simp only at hag
 have htd : tt.td T = i.d := by unfold Tab.td; rw [hi]
 split at ht <;> rename_i hd
 ·cases ht
  rw [htd] at hd
  rw [hd] at hag
  cases hag
  obtain ⟨n, rfl⟩ := WideShapes.okWide_int (td_int hP (htd.trans hd)) hval
  exact ⟨rfl, rfl⟩
 ·cases ht
  rw [htd] at hd
  rw [hd] at hag
  cases hag
  obtain ⟨n, rfl⟩ := WideShapes.okWide_bool (td_bool hP (htd.trans hd)) hval
  exact ⟨rfl, rfl⟩
 ·cases ht
  rw [htd] at hd
  rw [hd] at hag
  cases hag
  obtain ⟨n, rfl⟩ := WideShapes.okWide_string (td_str hP (htd.trans hd)) hval
  exact ⟨rfl, rfl⟩
 ·split at ht <;> try cases ht
  split at ht <;> cases ht
  rw [htd] at hd
  rw [hd] at hag
  cases hag
  obtain ⟨a, l, c, rfl⟩ := WideShapes.okWide_slice (td_slice hP (htd.trans hd)).1 hval
  exact ⟨rfl, rfl⟩
 ·rw [htd] at hd
  rw [hd] at hag
  cases hag
  obtain ⟨hu, _⟩ := td_array hP (htd.trans hd)
  simp only [Value.okWide, hu] at hval
  obtain ⟨cs, rfl, h3, _⟩ := hval
  exact ⟨cs, rfl, by rw [h3, cellsOf_tab hP hi]; exact hs⟩
 ·rw [htd] at hd
  rw [hd] at hag
  cases hag
  obtain ⟨fields, hu, _, _⟩ := td_struct hP (htd.trans hd)
  obtain ⟨cs, rfl, h3⟩ := WideShapes.okWide_struct hu hval
  exact ⟨cs, rfl, by rw [h3, cellsOf_tab hP hi]; exact hs⟩
 ·cases ht
omit hP in
theorem law_calls {f : Nat} {ks : List MK} {F : Nat → (argH ks).den → Option Bool} {os : Bool → (outH ks).den} (hok : ∀ N, FnOk P f ⟨ks, [(false, .d .bool)], Bool, F N, fun r _ => r.1, fun b => (b, ()), os, none⟩) (law : ∀ x, WfA ks x → ∃ N, F N x = some true)
  {vals : Array Value} (hgb : Glob W (FW W)) (ha : ArgsR W ks vals.toList) : Calls P f vals W fun e W' => e = .returned (.bool true) ∧ RowKit.Below W.heap.size W W' := by
 obtain ⟨x, vs, h1, h2, h3⟩ := ha
 obtain ⟨N, hN⟩ := law x h3
 have hb : Bag W (fun _ => .nilFunc) (FW W) [] [] := ⟨⟨fun n o h => by simp at h, fun n k b hn => by obtain ⟨o, h, _⟩ := hn; simp at h, fun n b hn => by obtain ⟨o, h, _⟩ := hn; simp at h, fun _ h => h⟩, .nil, fun u hu => (by cases hu), fun n u b _ hu => (by cases hu), fun u hu => (by cases hu)⟩
 refine ((hok N).2 W _ vals vs [] x true hb h1 h2 hN hgb).mono fun e w' he => ?_
 obtain ⟨u, F', rvs, u1, u2, rfl, g1, g2, g3, g4, g5, _, _⟩ := he
 obtain ⟨v1, v2, _, _, rfl, _, ⟨k1, _⟩, k2, _⟩ := g2
 have k1 : v1 = [.bool true] := k1
 subst k1
 subst k2
 have hu : u = .bool true := by
  rcases g1 with ⟨b, n, e, h⟩ | ⟨h, _⟩
  ·simp only [shapeH, List.map_cons, List.map_nil, List.cons.injEq, Prod.mk.injEq, and_true] at e
   obtain ⟨rfl, rfl⟩ := e
   have := h.2.1 rfl
   simp only [List.append_nil, List.cons.injEq, and_true] at this
   exact this.symm
  ·exact absurd rfl (h (false, _))
 exact ⟨by rw [hu], ⟨g5.os, g5.tape, g5.output, g5.size, fun k hk => g5.keep k hk (fun u hu => by cases hu)⟩⟩
end
theorem trodAll_below {H : Type} {enc : TypeId × Value → H} {P : Program} (hl : laidOutB P = true) {W W' : World} (hb : RowKit.Below W.heap.size W W') : ∀ {Ts : List Nat} {vs : List Value} {ds : List (DataW H)} {ps : List MemPlace},
  Ts.all (fun T => P.readableRec T && decide (T < P.types.size)) = true → DataW.TrodAll enc P W 0 (fun _ => true) true Ts vs ds ps → (∀ x ∈ ps, x.block < W.heap.size) → DataW.TrodAll enc P W' 0 (fun b => decide (b < W.heap.size)) true Ts vs ds ps
 | [], [], [], _, _, h, _ => h
 | T :: Ts, v :: vs, d :: ds, ps, ht, h, hlt => by
  obtain ⟨p, q, h1, h2, rfl⟩ := h
  simp only [List.all_cons, Bool.and_eq_true, decide_eq_true_eq] at ht
  exact ⟨p, q, RowKit.Below.trod hl ht.1.1 ht.1.2 h1 hb (fun x hx => hlt x (by simp [hx])), trodAll_below hl hb ht.2 h2 (fun x hx => hlt x (by simp [hx])), rfl⟩
 | [], _ :: _, _, _, _, h, _ => by cases h
 | [], [], _ :: _, _, _, h, _ => by cases h
 | _ :: _, [], _, _, _, h, _ => by cases h
 | _ :: _, _ :: _, [], _, _, h, _ => by cases h
end Go.Proofs.YtfihdjjilofklaaGreat.Am
