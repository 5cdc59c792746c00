/- The plain law PlaceOther: the plain function says true at every input. -/
import Derived.Test.YtjmcjiklfhmdlaaLawPlace
set_option linter.unusedVariables false
set_option linter.unusedSimpArgs false
namespace Go.Proofs.Ytjmcjiklfhmdlaa.Am
open Go

def placeConsts : Bool := match gamehallkeep1_three 1000, gamehallkeep1_near 1000 with
  | some y1, some y2 => (match place_Other 1000 y1 y2, rules_Mirror 1000 y1 with
    | some y3, some y8 => decide (y3.2 = 0) && (slices_Equal_int_int 1000 y3.1.1 [0, 0, 0, 1, 1, 0, 2, 2, 0] == some true) && decide (y3.1.2.2.1 = 1) && (place_Same 1000 y3.1 y3.1 == some true) && decide (y8.2 = 0) && decide (y8.1.2.2.2.2.1.length = 9)
    | _, _ => false)
  | _, _ => false
theorem placeConsts_true : placeConsts = true := by decide +kernel
theorem placeConsts_all : ∃ y1 y2 y3 y8, gamehallkeep1_three 1000 = some y1 ∧ gamehallkeep1_near 1000 = some y2 ∧ place_Other 1000 y1 y2 = some y3 ∧ rules_Mirror 1000 y1 = some y8 ∧
    y3.2 = 0 ∧ slices_Equal_int_int 1000 y3.1.1 [0, 0, 0, 1, 1, 0, 2, 2, 0] = some true ∧ y3.1.2.2.1 = 1 ∧ place_Same 1000 y3.1 y3.1 = some true ∧ y8.2 = 0 ∧ y8.1.2.2.2.2.1.length = 9 := by
  have h := placeConsts_true
  unfold placeConsts at h
  split at h
  · rename_i y1 y2 h1 h2
    split at h
    · rename_i y3 y8 h3 h8
      simp only [Bool.and_eq_true, decide_eq_true_eq, beq_iff_eq] at h
      obtain ⟨⟨⟨⟨⟨a, b⟩, c⟩, d⟩, e⟩, f⟩ := h
      exact ⟨y1, y2, y3, y8, h1, h2, h3, h8, a, b, c, d, e, f⟩
    · cases h
  · cases h
theorem same_eq (p : PosT) (h1 : p.1.length ≤ 64) (h2 : p.2.1.1.length ≤ 6) (h3 : p.2.1.2.length ≤ 6) : gamehallkeep1_same 1000 p p = some true ∧ place_Same 1000 p p = some true := by
  constructor
  · unfold gamehallkeep1_same gamehallkeep1_same.e
    rw [eqI_self, eqI_self, cond_true, cond_true, equal_eq (by omega) (by omega) (by omega), equal_eq (by omega) (by omega) (by omega), equal_eq (by omega) (by omega) (by omega)]
    simp
  · unfold place_Same place_Same.e
    rw [eqI_self, cond_true, equal_eq (by omega) (by omega) (by omega), equal_eq (by omega) (by omega) (by omega), equal_eq (by omega) (by omega) (by omega)]
    simp
theorem placeOther_at (r : RulesT) (p : PosT) : gamehallkeep1_PlaceOther 1000 r p = some true := by
  obtain ⟨y1, y2, y3, y8, c1, c2, c3, c4, c5, c6, c7, c8, c9, c10⟩ := placeConsts_all
  obtain ⟨nm, w, h, ps, st, fa, ke, en, bl, qu, re⟩ := r
  obtain ⟨v, hck, hv0⟩ := check_cases nm w h ps st fa ke en bl qu re
  unfold gamehallkeep1_PlaceOther gamehallkeep1_PlaceOther.e
  rw [c1, Option.bind_some, c2, Option.bind_some, c3, Option.bind_some, bif_f (by rw [c5]; rfl), c6, Option.bind_some, bif_f (by rfl), bif_f (by rw [c7]; rfl), c8, Option.bind_some, bif_f (by rfl), Option.bind_some, c4, Option.bind_some, bif_f (by rw [c9]; rfl), bif_f (by rw [c10]; rfl)]
  by_cases h0 : v = 0
  · subst h0
    obtain ⟨w, h, rfl, rfl, ho, hst'⟩ := hv0 rfl
    obtain ⟨m1, m2⟩ := mirL_mir ho.b ho.np ho.ns ho.cells
    have ho' : Okay w h ps (mirL w h st) en := ⟨ho.b, ho.np, ho.ways, ho.ne, mirL_len, m2⟩
    have hck' := hst' _ mirL_len m2
    have hm := mirror_good hck ho.b ho.np ho.ways ho.ne ho.ns
    obtain ⟨u, hu, hu0⟩ := place_check hck ho p
    by_cases hp : PosOk (w * h) ps.length p
    · obtain ⟨q1, q2⟩ := oth_oth ho p hp
      rw [other_good hck ho p hp, Option.bind_some, hm, Option.bind_some, bif_f (by rfl)]
      dsimp only
      rw [other_good hck' ho' _ q1, Option.bind_some, fine_eq (by simp) (by simp), Option.bind_some, bif_t (by simp)]
      obtain ⟨u', hu', hu0'⟩ := place_check hck' ho' (othP w h p)
      have := hu0'.2 q1
      subst this
      have ha := area_le ho.b
      have e1 := hp.len
      have e2 := hp.h0
      have e3 := hp.h1
      have hps := ho.np
      obtain ⟨s1, s2⟩ := same_eq p (by omega) (by omega) (by omega)
      rw [hu', Option.bind_some, bif_t (by rfl), q2, s1, Option.bind_some, bif_t (by rfl), s2]
      rfl
    · have hne : u ≠ 0 := fun e => hp (hu0.1 e)
      rw [other_bad hu hne, Option.bind_some, hm, Option.bind_some, bif_t (by simp [eqI, hne])]
      rfl
  · obtain ⟨z, hz, _⟩ := mirror_bad hck h0
    rw [other_bad (pcheck_bad hck h0) h0, Option.bind_some, hz, Option.bind_some, bif_t (by simp [eqI, h0])]
    rfl
end Go.Proofs.Ytjmcjiklfhmdlaa.Am
