/- The iterators of package bits: what their functions do. -/
import Derived.Test.YtbnpbnghpbgjiaaDoorAm17
import Derived.RangeFuncLeaves
import Derived.Shelf.Abstract
import Derived.WalkKit
import Derived.OwnWalkIn
import Derived.TacticsInMore
import Derived.LoopNIn
import Derived.LoopIn
import Derived.RangeFuncBox
import Derived.Test.YtbnpbnghpbgjiaaDoorChecked
set_option linter.unusedVariables false
set_option linter.unusedSimpArgs false
namespace Go.Proofs.YtbnpbnghpbgjiaaDoor.Am
open Go Go.RowKit Go.Shelf

attribute [local go_sem] Oper.semAt_some

/-- the subsets of b -/
def itSub : Iter := ⟨.u64, .u64, 0, fun _ _ => false, fun _ l => some l, fun b l => eqI l b, fun b _ => b, fun b l => Go.bits .and .u64 (IntKind.wrap .u64 (l - b)) b⟩
/-- the squares of b -/
def itAll (tz : Int → Option Int) : Iter := ⟨.u64, .i64, 0, fun b _ => eqI b 0, fun b _ => tz b, fun _ _ => false, fun b _ => Go.bits .and .u64 b (IntKind.wrap .u64 (b - 1)), fun _ l => l⟩

theorem least_ex {p : Nat → Prop} (h : ∃ m, p m) : ∃ m, p m ∧ ∀ k, p k → m ≤ k := by
  obtain ⟨m, hm⟩ := h
  induction m using Nat.strongRecOn with
  | _ m ih =>
    by_cases hk : ∃ k, k < m ∧ p k
    · obtain ⟨k, h1, h2⟩ := hk
      exact ih k h1 h2
    · exact ⟨m, hm, fun k h2 => Nat.le_of_not_lt fun h1 => hk ⟨k, h1, h2⟩⟩
open Classical in
noncomputable def least (p : Nat → Prop) : Nat := if h : ∃ m, p m then Classical.choose (least_ex h) else 0
theorem least_spec {p : Nat → Prop} {m : Nat} (h : p m) : p (least p) ∧ least p ≤ m := by
  have hex : ∃ m, p m := ⟨m, h⟩
  unfold least
  rw [dif_pos hex]
  have := Classical.choose_spec (least_ex hex)
  exact ⟨this.1, this.2 m h⟩

theorem cell_of_boxed {W : World} {B T : Nat} {k : IntKind} {b : Int} (h : boxed W B T k b) : W.cell? ⟨B, 0, none⟩ = some (.int k b) ∧ W.frozen? ⟨B, 0, none⟩ = false := by
  unfold boxed at h
  constructor <;> simp [World.cell?, World.frozen?, h]

set_option maxRecDepth 100000 in
set_option maxHeartbeats 2000000 in
theorem itSub_ok : ItOk Tryd.prog 20 itSub := by
  refine ⟨⟨Tryd.f20, Tryd.func20, by kernel_rfl, by kernel_rfl⟩, fun l B T m b W J Jd Jx hst hstd hgl hpre hround hJ hbx => ?_⟩
  simp only [itSub] at hbx hpre hround hJ
  refine (callsIn_wide (n := 5)).1 (callsIn_of_wp Tryd.func20 rfl trivial ?_ rfl)
  simp only [Tryd.ntmps20, List.size_toArray, List.length_cons, List.length_nil, Nat.reduceAdd, Nat.reduceSub, Array.replicate_succ, Array.replicate_zero, List.push_toArray, List.append_toArray, List.nil_append, List.cons_append]
  gi_wp2
  gi_loopw [3] (fun p wr => ∃ x : Int, p = .int .u64 x ∧ boxed wr B T .u64 b ∧ ∃ m, J m b x wr) (fun p wr => least fun m => ∃ x, p = .int .u64 x ∧ J m b x wr)
  case atStart => exact ⟨0, rfl, hbx, m, hJ⟩
  case round =>
    obtain ⟨x, rfl, hb, m1, hJ1⟩ := hrel
    obtain ⟨⟨x', hx', hJ0⟩, hle⟩ := least_spec (p := fun m => ∃ y, Value.int .u64 x = .int .u64 y ∧ J m b y wr) ⟨x, rfl, hJ1⟩
    cases hx'
    obtain ⟨y, hy, fn, tmps, assign, body, hyr, hR⟩ := hround _ _ _ _ hJ0 hb trivial
    cases hy
    have hc := cell_of_boxed hb
    gi_wp2
    refine (hR _).mono ?_
    rintro e W3 (⟨rfl, hb3, hJ3⟩ | ⟨rfl, hJx⟩)
    · have hc3 := cell_of_boxed hb3
      by_cases hxb : x = b
      · subst hxb
        rcases hJ3 with ⟨_, hJd⟩ | ⟨hp, _⟩
        · gi_wp2
          refine bodyPost_ret (results_none rfl _ _ _) rfl ?_
          exact ⟨⟨_, rfl⟩, .inl hJd⟩
        · simp [eqI] at hp
      · rcases hJ3 with ⟨hp, _⟩ | ⟨_, m2, hm2, hJ3⟩
        · exact absurd (by simpa [eqI] using hp) hxb
        · gi_wp2
          exact ⟨⟨_, rfl, hb3, m2, hJ3⟩, Nat.lt_of_le_of_lt (least_spec (p := fun m => ∃ y, Value.int .u64 (Go.bits .and .u64 (IntKind.wrap .u64 (x - b)) b) = .int .u64 y ∧ J m b y W3) ⟨_, rfl, hJ3⟩).2 hm2⟩
    · gi_wp2
      refine bodyPost_ret (results_none rfl _ _ _) rfl ?_
      exact ⟨⟨_, rfl⟩, .inr hJx⟩

/-- what is asked of the function that tells the last bit -/
abbrev tzD (tz : Int → Option Int) : DFn := ⟨[.d false (.int .u64)], [(false, .d (.int .i64))], Int, fun x => tz x.1, fun r o => r.1, fun b => (b, ()), fun b => ()⟩
theorem tz_calls {tz : Int → Option Int} (h : FnOk Tryd.prog 22 (tzD tz)) {W : World} {b x : Int} (hx : tz b = some x) (hg : ∃ F, Glob W F ∧ ∀ x, F x → x < W.heap.size) :
    Calls Tryd.prog 22 #[.int .u64 b] W fun e W' => e = .returned (.int .i64 x) ∧ W.grownBy W' none := by
  obtain ⟨F, h1, h2⟩ := hg
  have hb : Bag W (fun _ => .nilFunc) F [] [] := ⟨⟨fun n o h => by simp at h, fun n k b hn => by obtain ⟨o, h, _⟩ := hn; simp at h, fun n b hn => by obtain ⟨o, h, _⟩ := hn; simp at h, h2⟩, .nil, fun u hu => (by cases hu), fun n u b _ hu => (by cases hu), fun u hu => (by cases hu)⟩
  refine (h.2 W F #[.int .u64 b] [.int .u64 b] [] (b, ()) x hb (.one rfl .nil) ⟨[.int .u64 b], [], [], [], rfl, rfl, ⟨rfl, rfl⟩, rfl, rfl⟩ hx h1).mono fun e w' he => ?_
  obtain ⟨u, F', rvs, u1, u2, rfl, g1, g2, g3, g4, g5⟩ := he
  obtain ⟨v1, v2, _, _, rfl, _, ⟨k1, _⟩, k2, _⟩ := g2
  have k1 : v1 = [.int .i64 x] := k1
  subst k1
  subst k2
  have hu : u = .int .i64 x := by
    rcases g1 with ⟨b, n, e, h⟩ | ⟨h, _⟩
    · simp only [shapeH, List.map_cons, List.map_nil, List.cons.injEq, Prod.mk.injEq, and_true] at e
      obtain ⟨rfl, rfl⟩ := e
      have := h.2.1 rfl
      simp only [List.append_nil, List.cons.injEq, and_true] at this
      exact this.symm
    · exact absurd rfl (h (false, _))
  exact ⟨by rw [hu], ⟨g5.os, g5.tape, g5.output, g5.size, fun k hk _ => g5.keep k hk (fun u hu => by cases hu)⟩⟩

set_option maxRecDepth 100000 in
set_option maxHeartbeats 2000000 in
theorem itAll_ok {tz : Int → Option Int} (htz : FnOk Tryd.prog 22 (tzD tz)) : ItOk Tryd.prog 21 (itAll tz) := by
  refine ⟨⟨Tryd.f21, Tryd.func21, by kernel_rfl, by kernel_rfl⟩, fun l B T m b W J Jd Jx hst hstd hgl hpre hround hJ hbx => ?_⟩
  simp only [itAll] at hbx hpre hround hJ
  refine (callsIn_wide (n := 5)).1 (callsIn_of_wp Tryd.func21 rfl trivial ?_ rfl)
  simp only [Tryd.ntmps21, List.size_toArray, List.length_cons, List.length_nil, Nat.reduceAdd, Nat.reduceSub, Array.replicate_succ, Array.replicate_zero, List.push_toArray, List.append_toArray, List.nil_append, List.cons_append]
  gi_wp2
  gi_loopw [] (fun wr => ∃ b : Int, boxed wr B T .u64 b ∧ ∃ m, J m b 0 wr) (fun wr => least fun m => ∃ b, boxed wr B T .u64 b ∧ J m b 0 wr)
  case atStart => exact ⟨b, hbx, m, hJ⟩
  case round =>
    obtain ⟨b1, hb, m1, hJ1⟩ := hrel
    obtain ⟨⟨b2, hb2, hJ0⟩, hle⟩ := least_spec (p := fun m => ∃ b, boxed wr B T .u64 b ∧ J m b 0 wr) ⟨b1, hb, hJ1⟩
    have hb12 : b2 = b1 := by
      have h := hb2.symm.trans hb
      simpa using h
    subst hb12
    have hc := cell_of_boxed hb
    by_cases h0 : b2 = 0
    · subst h0
      have hd := hpre _ _ _ _ hJ0 hb (by simp [eqI])
      gi_wp2
      exact ⟨rfl, .tuple #[], results_none rfl _ _ _, ⟨_, rfl⟩, .inl hd⟩
    · have hp : eqI b2 0 = false := by simp [eqI, h0]
      obtain ⟨x, hx, _⟩ := hround _ _ _ _ hJ0 hb hp
      have hgw := hgl _ _ _ _ hJ0
      obtain ⟨F, hg1, hg2, hg3⟩ := hgw
      gi_wp2
      refine ⟨trivial, (callsIn_wide.2 (tz_calls htz hx ⟨F, hg1, hg2⟩)).mono ?_⟩
      rintro e w2 ⟨rfl, hgr⟩
      have hJ2 := hst _ _ _ _ _ hJ0 (grown_some B hgr)
      have hb2' : boxed w2 B T .u64 b2 := (hgr.block B (Array.getElem?_eq_some_iff.1 hb).1 (by simp)).trans hb
      obtain ⟨x2, hx2, fn, tmps, assign, body, hyr, hR⟩ := hround _ _ _ _ hJ2 hb2' hp
      rw [hx] at hx2
      cases hx2
      have hc2 := cell_of_boxed hb2'
      gi_wp2
      refine (hR _).mono ?_
      rintro e W3 (⟨rfl, hb3, hJ3⟩ | ⟨rfl, hJx⟩)
      · have hc3 := cell_of_boxed hb3
        rcases hJ3 with ⟨hp, _⟩ | ⟨_, m2, hm2, hJ3⟩
        · cases hp
        · gi_wp2
          have hgs := grownBy_setCell' W3 B (.int .u64 (Go.bits .and .u64 b2 (IntKind.wrap .u64 (b2 - 1))))
          have hbs : boxed (W3.setCell ⟨B, 0, none⟩ (.int .u64 (Go.bits .and .u64 b2 (IntKind.wrap .u64 (b2 - 1))))) B T .u64 (Go.bits .and .u64 b2 (IntKind.wrap .u64 (b2 - 1))) := Boxed.set (W := W3) (B := B) (t := T) (v := .int .u64 b2) _ hb3
          have hJs := hst _ _ _ _ _ hJ3 hgs
          exact ⟨⟨_, hbs, m2, hJs⟩, Nat.lt_of_le_of_lt (least_spec (p := fun m => ∃ b, boxed (W3.setCell ⟨B, 0, none⟩ (.int .u64 (Go.bits .and .u64 b2 (IntKind.wrap .u64 (b2 - 1))))) B T .u64 b ∧ J m b 0 _) ⟨_, hbs, hJs⟩).2 hm2⟩
      · gi_wp2
        refine bodyPost_ret (results_none rfl _ _ _) rfl ?_
        exact ⟨⟨_, rfl⟩, .inr hJx⟩

/-! ### the last bit, by the table -/
def tzI (x : Int) : Int := IntKind.u64.wrap (Go.bits .and .u64 x (IntKind.u64.wrap (-x)) * 285870213051353865) / 288230376151711744
def tzF (x : Int) : Option Int := bif eqI x 0 then some 64 else some (deB.getD (tzI x).toNat 0)
theorem tzI_lt (x : Int) : 0 ≤ tzI x ∧ tzI x < 64 := by
  unfold tzI
  generalize Go.bits .and .u64 x (IntKind.u64.wrap (-x)) * 285870213051353865 = y
  have h1 : 0 ≤ IntKind.wrap .u64 y ∧ IntKind.wrap .u64 y < 18446744073709551616 := by
    constructor
    · exact Int.emod_nonneg _ (by decide)
    · exact Int.emod_lt_of_pos _ (by decide)
  generalize IntKind.wrap .u64 y = z at h1
  omega
theorem deB_id : ∀ i : Nat, i < 64 → wrap64 (deB.getD i 0) = deB.getD i 0 := by decide +kernel
theorem repV_cells {w : World} {F : Nat → Prop} : ∀ (l : List Int) {vs : List Value}, RT w F (repT l) (repV l) vs → vs = l.map (Value.int .u8)
  | [], vs, h => h
  | a :: l, vs, h => by
    obtain ⟨v1, v2, rfl, h1, h2⟩ := h
    have h1 : v1 = [Value.int .u8 a] := h1
    rw [h1, repV_cells l h2]
    rfl
set_option maxRecDepth 100000 in
set_option maxHeartbeats 2000000 in
theorem tz_walk {x y : Int} (hy : tzF x = some y) {w : World} (hcell : ∀ i : Nat, i < 64 → w.cell? ⟨0, i, none⟩ = some (.int .u8 (deB.getD i 0))) :
    Calls Tryd.prog 22 #[.int .u64 x] w fun e w' => e = .returned (.int .i64 y) ∧ w' = w := by
  refine (callsIn_wide (n := 5)).1 (callsIn_of_wp Tryd.func22 rfl trivial ?_ rfl)
  simp only [Tryd.ntmps22, List.size_toArray, List.length_cons, List.length_nil, Nat.reduceAdd, Nat.reduceSub, Array.replicate_succ, Array.replicate_zero, List.push_toArray, List.append_toArray, List.nil_append, List.cons_append]
  by_cases h0 : x = 0
  · subst h0
    cases hy
    gi_wp2
    exact bodyPost_ret (v := .int .i64 64) (by simp [results, Tryd.f22]) rfl ⟨rfl, rfl⟩
  · have hI := tzI_lt x
    have hc := hcell (tzI x).toNat (by omega)
    have hy2 : y = deB.getD (tzI x).toNat 0 := by
      unfold tzF at hy
      rw [show eqI x 0 = false from by simp [eqI, h0]] at hy
      exact (Option.some.inj hy).symm
    have hid := deB_id (tzI x).toNat (by omega)
    rw [← hy2] at hc hid
    unfold tzI at hI hc
    gi_wp2
    unfold tzI at hy2
    rw [List.getD_eq_getElem?_getD] at hy2
    rw [← hy2, hid]
    exact bodyPost_ret (v := .int .i64 y) (by simp [results, Tryd.f22]) rfl ⟨rfl, rfl⟩
set_option maxRecDepth 100000 in
set_option maxHeartbeats 2000000 in
theorem tzF_ok : FnOk Tryd.prog 22 (tzD tzF) := by
  refine ⟨⟨Tryd.f22, Tryd.func22, by kernel_rfl, by kernel_rfl⟩, fun w F vals vs us x y hb hv hx hy hg => ?_⟩
  obtain ⟨x, xu⟩ := x
  obtain ⟨v1, v2, us1, us2, rfl, rfl, ⟨g1, rfl⟩, rfl, rfl⟩ := hx
  have g1 : v1 = [.int .u64 x] := g1
  subst g1
  obtain ⟨vals⟩ := vals
  have hvals : vals = [.int .u64 x] := by
    cases hv with
    | one h1 hr => cases hr; rfl
  subst hvals
  have hg0 := hg 0 ⟨repT deB, repV deB⟩ rfl
  obtain ⟨hF0, cs, hrt, hcs⟩ := hg0
  have hcs' := repV_cells deB hrt
  subst hcs'
  have hcell : ∀ i : Nat, i < 64 → w.cell? ⟨0, i, none⟩ = some (.int .u8 (deB.getD i 0)) := by
    intro i hi
    have := hcs i (.int .u8 (deB.getD i 0)) (by rw [List.getElem?_map, List.getD_eq_getElem?_getD, List.getElem?_eq_getElem (by simpa [deB] using hi)]; rfl)
    rw [show (⟨0, 0, none⟩ : Addr).add i = ⟨0, i, none⟩ from by unfold Addr.add; split <;> simp_all] at this
    exact this
  have hfin : ∀ e w', e = Ending.returned (.int .i64 y) ∧ w' = w → ∃ u F' rvs u1 u2, e = .returned u ∧ ValS (shapeH (tzD tzF).res) u rvs ∧ HR w' F' (prodU ((tzD tzF).res.map (·.2))) ((tzD tzF).rs y) rvs u1 ∧ HR w' F' (outH (tzD tzF).args) ((tzD tzF).os y) (lentOf (tzD tzF).args ([.int .u64 x] ++ [])) u2 ∧ Bag w' (fun _ => .nilFunc) F' [] (u1 ++ u2) ∧ Turn w F ([] ++ []) w' F' (u1 ++ u2) := by
    rintro e w' ⟨rfl, rfl⟩
    exact ⟨.int .i64 y, F, [.int .i64 y], [], [], rfl, .inl ⟨false, 1, rfl, ⟨(fun h => by cases h), (fun _ => rfl), rfl⟩⟩, ⟨[.int .i64 y], [], [], [], rfl, rfl, ⟨rfl, rfl⟩, rfl, rfl⟩, ⟨rfl, rfl⟩, hb, rfl, rfl, rfl, Nat.le_refl _, fun _ _ _ => rfl, fun _ h => h, fun _ h => .inl h, fun u hu => by cases hu⟩
  exact Calls.mono (tz_walk hy hcell) hfin
end Go.Proofs.YtbnpbnghpbgjiaaDoor.Am
