/- Plain: a position that is mirrored, on a board whose game has the same ways to the left and to the right. -/
import Derived.Test.YtnckilklmkpooaaLawEndsy
import Derived.Test.YtnckilklmkpooaaLawGamey
set_option linter.unusedVariables false
set_option linter.unusedSimpArgs false
set_option linter.unusedSectionVars false
namespace Go.Proofs.Ytnckilklmkpooaa.Am
open Go

/-- the square on the other side -/
def mirS (r : RulesT) (s : Int) : Int := (s / r.2.1) * r.2.1 + (r.2.1 - 1 - s % r.2.1)
theorem mir_ok {r : RulesT} (hb : 1 ≤ r.2.1 ∧ r.2.1 ≤ 8 ∧ 1 ≤ r.2.2.1 ∧ r.2.2.1 ≤ 8) {s : Int} (hs : 0 ≤ s ∧ s < r.2.1 * r.2.2.1) :
    (0 ≤ mirS r s ∧ mirS r s < r.2.1 * r.2.2.1) ∧ mirS r s / r.2.1 = s / r.2.1 ∧ mirS r s % r.2.1 = r.2.1 - 1 - s % r.2.1 ∧ mirS r (mirS r s) = s := by
  have hq := sq_parts hb hs
  have h1 := sq_bound (x := r.2.1 - 1 - s % r.2.1) (y := s / r.2.1) hb (by omega) (by omega)
  have h2 := sq_div (w := r.2.1) (x := r.2.1 - 1 - s % r.2.1) (y := s / r.2.1) (by omega)
  refine ⟨by unfold mirS; omega, h2.1, h2.2, ?_⟩
  have e1 : mirS r s / r.2.1 = s / r.2.1 := h2.1
  have e2 : mirS r s % r.2.1 = r.2.1 - 1 - s % r.2.1 := h2.2
  show mirS r s / r.2.1 * r.2.1 + (r.2.1 - 1 - mirS r s % r.2.1) = s
  rw [e1, e2, show r.2.1 - 1 - (r.2.1 - 1 - s % r.2.1) = s % r.2.1 by omega]
  exact hq.2.2.2.2
/-- left and right are exchanged -/
structure Mir (r : RulesT) (p o : PosT) : Prop where
  cell : ∀ s : Int, 0 ≤ s → s < r.2.1 * r.2.2.1 → gD 0 o.1 s = gD 0 p.1 (mirS r s)
  rest : o.2 = p.2
/-- as many ways to the left as to the right -/
def SymR (r : RulesT) : Prop := ∀ k : Int, 0 ≤ k → k < ((r.2.2.2.1).length : Int) → ∀ w ∈ (gD zP (r.2.2.2.1) k).2.2.2, ((-w.1, w.2) : WayT) ∈ (gD zP (r.2.2.2.1) k).2.2.2
def mirM (r : RulesT) (m : MvT) : MvT := (if m.1 < 0 then m.1 else mirS r m.1, (mirS r m.2.1, m.2.2))
theorem Mir.symm {r : RulesT} (hr : ROk r) {p o : PosT} (h : Mir r p o) : Mir r o p where
  cell := fun s h0 h1 => by
    have ht := mir_ok hr.b ⟨h0, h1⟩
    rw [h.cell _ ht.1.1 ht.1.2, ht.2.2.2]
  rest := h.rest.symm
theorem mirM_mirM {r : RulesT} (hr : ROk r) {p : PosT} {m : MvT} (hm : MoveOk r p m) : mirM r (mirM r m) = m := by
  obtain ⟨a, b, c⟩ := m
  have t2 := mir_ok hr.b hm.to
  unfold mirM
  dsimp only at *
  rw [t2.2.2.2]
  by_cases h : a < 0
  · rw [if_pos h, if_pos h]
  · rw [if_neg h]
    have hs : 0 ≤ a ∧ a < r.2.1 * r.2.2.1 := by
      rcases hm.src with ⟨h1, _⟩ | ⟨h1, h2, _⟩
      · dsimp only at h1; omega
      · exact ⟨h1, h2⟩
    have t1 := mir_ok hr.b hs
    rw [if_neg (by omega), t1.2.2.2]
theorem gD_setI {d : List Int} {i k : Int} {v : Int} (hi : 0 ≤ i) (hk : 0 ≤ k) (hk' : k < d.length) : gD 0 (d.set i.toNat v) k = if k = i then v else gD 0 d k := by
  obtain ⟨i, rfl⟩ : ∃ q : Nat, i = q := ⟨i.toNat, by omega⟩
  obtain ⟨k, rfl⟩ : ∃ q : Nat, k = q := ⟨k.toNat, by omega⟩
  rw [Int.toNat_natCast, gD_nat (by rw [List.length_set]; omega), gD_nat (by omega), List.getElem_set]
  by_cases h : i = k
  · rw [if_pos h, if_pos (by omega)]
  · rw [if_neg h, if_neg (by omega)]
theorem line_iffM (r : RulesT) (p : PosT) (player dx dy : Int) : ∀ (k : Nat) (x y : Int), lineB r p player dx dy k x y = true ↔ ∀ i : Nat, i < k → hasB r p player (x + i * dx) (y + i * dy) = true
  | 0, x, y => ⟨fun _ i h => by omega, fun _ => rfl⟩
  | k + 1, x, y => by
    unfold lineB
    rw [Bool.and_eq_true, line_iffM r p player dx dy k (x + dx) (y + dy)]
    constructor
    · rintro ⟨h1, h2⟩ i hi
      cases i with
      | zero => simpa using h1
      | succ i =>
        have := h2 i (by omega)
        rw [show x + ((i + 1 : Nat) : Int) * dx = x + dx + (i : Int) * dx by rw [Int.natCast_add, Int.add_mul]; simp; omega, show y + ((i + 1 : Nat) : Int) * dy = y + dy + (i : Int) * dy by rw [Int.natCast_add, Int.add_mul]; simp; omega]
        exact this
    · intro h
      refine ⟨by simpa using h 0 (by omega), fun i hi => ?_⟩
      have := h (i + 1) (by omega)
      rw [show x + ((i + 1 : Nat) : Int) * dx = x + dx + (i : Int) * dx by rw [Int.natCast_add, Int.add_mul]; simp; omega, show y + ((i + 1 : Nat) : Int) * dy = y + dy + (i : Int) * dy by rw [Int.natCast_add, Int.add_mul]; simp; omega] at this
      exact this
section
variable {r : RulesT} (hr : ROk r)
include hr
theorem row_iffM {p : PosT} (hp : POk r p) (player : Int) (k : Nat) (hk : 1 ≤ k) : anyS (rowS r p player k) p.1.length 0 = true ↔
    ∃ x y dx dy : Int, ((dx = 1 ∧ dy = 0) ∨ (dx = 0 ∧ dy = 1) ∨ (dx = 1 ∧ dy = 1) ∨ (dx = 1 ∧ dy = -1)) ∧ ∀ i : Nat, i < k → hasB r p player (x + i * dx) (y + i * dy) = true := by
  have hl := hp.len
  rw [anyS_iff]
  constructor
  · rintro ⟨s, _, h2, h3⟩
    unfold rowS at h3
    simp only [Bool.or_eq_true] at h3
    rcases h3 with h | h | h | h
    · exact ⟨_, _, 1, 0, by simp, (line_iffM r p player 1 0 k _ _).1 h⟩
    · exact ⟨_, _, 0, 1, by simp, (line_iffM r p player 0 1 k _ _).1 h⟩
    · exact ⟨_, _, 1, 1, by simp, (line_iffM r p player 1 1 k _ _).1 h⟩
    · exact ⟨_, _, 1, -1, by simp, (line_iffM r p player 1 (-1) k _ _).1 h⟩
  · rintro ⟨x, y, dx, dy, hd, h⟩
    have h0 := h 0 (by omega)
    simp only [Int.natCast_zero, Int.zero_mul, Int.add_zero] at h0
    unfold hasB at h0
    simp only [Bool.and_eq_true, leI_iff, ltI_iff, eqI_iff] at h0
    have hq := sq_bound (x := x) (y := y) hr.b (by omega) (by omega)
    have hdv := sq_div (w := r.2.1) (x := x) (y := y) (by omega)
    refine ⟨(y * r.2.1 + x).toNat, by omega, by omega, ?_⟩
    rw [Int.toNat_of_nonneg (by omega)]
    unfold rowS
    rw [hdv.1, hdv.2]
    simp only [Bool.or_eq_true]
    rcases hd with ⟨rfl, rfl⟩ | ⟨rfl, rfl⟩ | ⟨rfl, rfl⟩ | ⟨rfl, rfl⟩
    · exact Or.inl ((line_iffM r p player 1 0 k x y).2 h)
    · exact Or.inr (Or.inl ((line_iffM r p player 0 1 k x y).2 h))
    · exact Or.inr (Or.inr (Or.inl ((line_iffM r p player 1 1 k x y).2 h)))
    · exact Or.inr (Or.inr (Or.inr ((line_iffM r p player 1 (-1) k x y).2 h)))
theorem far_mir {player s : Int} (hs : 0 ≤ s ∧ s < r.2.1 * r.2.2.1) : farI r player (mirS r s) = farI r player s := by
  unfold farI
  rw [(mir_ok hr.b hs).2.1]
end
def mirN (w s : Nat) : Nat := s / w * w + (w - 1 - s % w)
theorem perm_allM : boards (fun w h => ((List.range (w * h)).map (mirN w)).isPerm (List.range (w * h))) = true := by decide +kernel
theorem cntI_permM (v : Int) {l l' : List Int} (h : l.Perm l') : cntI v l = cntI v l' := by
  induction h with
  | nil => rfl
  | cons x _ ih => simp only [cntI, ih]
  | swap x y l => simp only [cntI]; omega
  | trans _ _ ih1 ih2 => rw [ih1, ih2]
section
variable {r : RulesT} (hr : ROk r) {p : PosT} (hp : POk r p) {o : PosT} (ho : POk r o) (he : Mir r p o)
include hr hp ho he
theorem Mir.at_ {s : Int} (hs : 0 ≤ s ∧ s < r.2.1 * r.2.2.1) : gD 0 o.1 (mirS r s) = gD 0 p.1 s := by
  have ht := mir_ok hr.b hs
  rw [he.cell _ ht.1.1 ht.1.2, ht.2.2.2]
theorem has_mir {player x y : Int} (h : hasB r p player x y = true) : hasB r o player (r.2.1 - 1 - x) y = true := by
  unfold hasB at h ⊢
  simp only [Bool.and_eq_true, leI_iff, ltI_iff, eqI_iff] at h ⊢
  obtain ⟨h1, h2, h3, h4, h5⟩ := h
  have hq := sq_bound (x := r.2.1 - 1 - x) (y := y) hr.b (by omega) (by omega)
  have hd := sq_div (w := r.2.1) (x := r.2.1 - 1 - x) (y := y) (by omega)
  refine ⟨by omega, by omega, h3, h4, ?_⟩
  rw [he.cell _ (by omega) (by omega)]
  have e : mirS r (y * r.2.1 + (r.2.1 - 1 - x)) = y * r.2.1 + x := by
    unfold mirS
    rw [hd.1, hd.2, show r.2.1 - 1 - (r.2.1 - 1 - x) = x by omega]
  rw [e]
  exact h5
theorem row_mir {player : Int} {k : Nat} (hk : 1 ≤ k) (h : anyS (rowS r p player k) p.1.length 0 = true) : anyS (rowS r o player k) o.1.length 0 = true := by
  rw [row_iffM hr ho _ _ hk]
  obtain ⟨x, y, dx, dy, hd, h⟩ := (row_iffM hr hp _ _ hk).1 h
  have g := fun i hi => has_mir hr hp ho he (h i hi)
  rcases hd with ⟨rfl, rfl⟩ | ⟨rfl, rfl⟩ | ⟨rfl, rfl⟩ | ⟨rfl, rfl⟩
  · refine ⟨r.2.1 - 1 - x - (k - 1 : Nat), y, 1, 0, by simp, fun i hi => ?_⟩
    have := g (k - 1 - i) (by omega)
    rw [show r.2.1 - 1 - (x + ((k - 1 - i : Nat) : Int) * 1) = r.2.1 - 1 - x - ((k - 1 : Nat) : Int) + (i : Int) * 1 by omega, show y + ((k - 1 - i : Nat) : Int) * 0 = y + (i : Int) * 0 by omega] at this
    exact this
  · refine ⟨r.2.1 - 1 - x, y, 0, 1, by simp, fun i hi => ?_⟩
    have := g i hi
    rw [show r.2.1 - 1 - (x + (i : Int) * 0) = r.2.1 - 1 - x + (i : Int) * 0 by omega] at this
    exact this
  · refine ⟨r.2.1 - 1 - x - (k - 1 : Nat), y + (k - 1 : Nat), 1, -1, by simp, fun i hi => ?_⟩
    have := g (k - 1 - i) (by omega)
    rw [show r.2.1 - 1 - (x + ((k - 1 - i : Nat) : Int) * 1) = r.2.1 - 1 - x - ((k - 1 : Nat) : Int) + (i : Int) * 1 by omega, show y + ((k - 1 - i : Nat) : Int) * 1 = y + ((k - 1 : Nat) : Int) + (i : Int) * -1 by omega] at this
    exact this
  · refine ⟨r.2.1 - 1 - x - (k - 1 : Nat), y - (k - 1 : Nat), 1, 1, by simp, fun i hi => ?_⟩
    have := g (k - 1 - i) (by omega)
    rw [show r.2.1 - 1 - (x + ((k - 1 - i : Nat) : Int) * 1) = r.2.1 - 1 - x - ((k - 1 : Nat) : Int) + (i : Int) * 1 by omega, show y + ((k - 1 - i : Nat) : Int) * -1 = y - ((k - 1 : Nat) : Int) + (i : Int) * 1 by omega] at this
    exact this
theorem reach_mir {a : Int} (h : anyS (reachB r p a) p.1.length 0 = true) : anyS (reachB r o a) o.1.length 0 = true := by
  have hl := hp.len
  have hlo := ho.len
  rw [anyS_iff] at h ⊢
  obtain ⟨i, _, h2, h3⟩ := h
  have hs : 0 ≤ (i : Int) ∧ (i : Int) < r.2.1 * r.2.2.1 := by omega
  have hto := mir_ok hr.b hs
  refine ⟨(mirS r i).toNat, by omega, by omega, ?_⟩
  rw [Int.toNat_of_nonneg hto.1.1]
  unfold reachB at h3 ⊢
  rw [he.at_ hr hp ho hs, far_mir hr hs, he.rest]
  exact h3
theorem cells_permM : o.1.Perm p.1 := by
  have hl := hp.len
  have hlo := ho.len
  have hb := hr.b
  obtain ⟨w, hw⟩ : ∃ a : Nat, r.2.1 = a := ⟨(r.2.1).toNat, by omega⟩
  obtain ⟨h, hh⟩ : ∃ a : Nat, r.2.2.1 = a := ⟨(r.2.2.1).toNat, by omega⟩
  have hwh : (w : Int) * (h : Int) = ((w * h : Nat) : Int) := by simp
  have e1 : o.1.length = w * h := by rw [hw, hh, hwh] at hlo; omega
  have e2 : p.1.length = w * h := by rw [hw, hh, hwh] at hl; omega
  have ht : ∀ i : Nat, i < w * h → mirS r (i : Int) = ((mirN w i : Nat) : Int) := by
    intro i hi
    have hm : i % w < w := Nat.mod_lt _ (by omega)
    unfold mirS mirN
    rw [hw]
    rw [Int.natCast_add, Int.natCast_mul, Int.natCast_sub (by omega), Int.natCast_sub (by omega), Int.natCast_ediv, Int.natCast_emod]
    rfl
  have e3 : o.1 = (List.range (w * h)).map fun i => gD 0 p.1 ((mirN w i : Nat) : Int) := by
    apply List.ext_getElem
    · simp [e1]
    · intro i h1 h2
      rw [List.getElem_map, List.getElem_range]
      have := he.cell i (by omega) (by omega)
      rw [gD_nat h1] at this
      rw [this, ht i (by omega)]
  have e4 : p.1 = (List.range (w * h)).map fun i => gD 0 p.1 ((i : Nat) : Int) := by
    apply List.ext_getElem
    · simp [e2]
    · intro i h1 h2
      rw [List.getElem_map, List.getElem_range, gD_nat h1]
  have hp1 := List.isPerm_iff.1 (boards_at perm_allM (w := w) (h := h) (by omega))
  have := hp1.map (fun i : Nat => gD 0 p.1 (i : Int))
  rw [List.map_map] at this
  rw [e3]
  refine List.Perm.trans this ?_
  rw [← e4]
theorem hand_mir : handT o = handT p := by unfold handT; rw [he.rest]
/-! ### moves -/
theorem low_mir : ∀ (k : Nat) {s : Int}, (0 ≤ s ∧ s < r.2.1 * r.2.2.1) → lowB r o k (mirS r s - r.2.1) = lowB r p k (s - r.2.1)
  | 0, s, _ => rfl
  | k + 1, s, hs => by
    have hb := hr.b
    have hto := mir_ok hb hs
    have hq := sq_parts hb hs
    have hq2 := sq_parts hb hto.1
    have ih := low_mir k (s := s - r.2.1)
    unfold lowB
    by_cases c : 0 ≤ s - r.2.1
    · have hs' : 0 ≤ s - r.2.1 ∧ s - r.2.1 < r.2.1 * r.2.2.1 := by omega
      have e : mirS r s - r.2.1 = mirS r (s - r.2.1) := by
        have e1 : s - r.2.1 = (s / r.2.1 - 1) * r.2.1 + s % r.2.1 := by
          have := hq.2.2.2.2
          rw [Int.sub_mul, Int.one_mul]
          omega
        have hd := sq_div (w := r.2.1) (x := s % r.2.1) (y := s / r.2.1 - 1) ⟨hq.1, hq.2.1⟩
        unfold mirS
        rw [e1, hd.1, hd.2, Int.sub_mul, Int.one_mul]
        omega
      have ht' := mir_ok hb hs'
      rw [e, bif_t (leI_t c), bif_t (leI_t ht'.1.1), he.at_ hr hp ho hs', ih hs']
    · have c2 : mirS r s - r.2.1 < 0 := by
        have h0 : s / r.2.1 = 0 := by
          have : s < r.2.1 := by omega
          exact Int.ediv_eq_zero_of_lt hs.1 this
        have h1 := hto.2.1
        unfold mirS
        rw [h0]
        omega
      rw [bif_f (leI_f (by omega)), bif_f (leI_f (by omega))]
theorem open_mir {s : Int} (hs : 0 ≤ s ∧ s < r.2.1 * r.2.2.1) : openB r o (mirS r s) = openB r p s := by
  unfold openB
  rw [he.at_ hr hp ho hs, low_mir hr hp ho he 65 hs]
theorem along_mir {f kind dx dy take : Int} (hf : 0 ≤ f) : ∀ (k : Nat) (x y : Int),
    alongL r o (mirS r f) kind (-dx) dy take k (r.2.1 - 1 - x) y = (alongL r p f kind dx dy take k x y).map (mirM r)
  | 0, x, y => rfl
  | k + 1, x, y => by
    have hpt := hp.last.1
    have het : o.2.2.1 = p.2.2.1 := by rw [he.rest]
    have ih := along_mir (dx := dx) (dy := dy) (take := take) (kind := kind) hf k (x + dx) (y + dy)
    unfold alongL
    rw [show r.2.1 - 1 - x + -dx = r.2.1 - 1 - (x + dx) by omega]
    by_cases c : x + dx < 0 ∨ r.2.1 ≤ x + dx ∨ y + dy < 0 ∨ r.2.2.1 ≤ y + dy
    · rw [if_pos c, if_pos (by omega)]; rfl
    rw [if_neg c, if_neg (by omega)]
    have hq := sq_bound (x := r.2.1 - 1 - (x + dx)) (y := y + dy) hr.b (by omega) (by omega)
    have hd := sq_div (w := r.2.1) (x := r.2.1 - 1 - (x + dx)) (y := y + dy) (by omega)
    have hq' := sq_bound (x := x + dx) (y := y + dy) hr.b (by omega) (by omega)
    have hd' := sq_div (w := r.2.1) (x := x + dx) (y := y + dy) (by omega)
    have e : (y + dy) * r.2.1 + (r.2.1 - 1 - (x + dx)) = mirS r ((y + dy) * r.2.1 + (x + dx)) := by
      unfold mirS
      rw [hd'.1, hd'.2]
    have hs : 0 ≤ (y + dy) * r.2.1 + (x + dx) ∧ (y + dy) * r.2.1 + (x + dx) < r.2.1 * r.2.2.1 := by omega
    have hcell : gD 0 o.1 ((y + dy) * r.2.1 + (r.2.1 - 1 - (x + dx))) = gD 0 p.1 ((y + dy) * r.2.1 + (x + dx)) := by
      rw [e, he.at_ hr hp ho hs]
    have harr : arrI r (o.2.2.1) kind ((y + dy) * r.2.1 + (r.2.1 - 1 - (x + dx))) = arrI r (p.2.2.1) kind ((y + dy) * r.2.1 + (x + dx)) := by
      unfold arrI
      rw [e, het, far_mir hr hs]
    rw [hcell, harr, ih, het]
    have hmv : mirM r (f, ((y + dy) * r.2.1 + (x + dx), arrI r (p.2.2.1) kind ((y + dy) * r.2.1 + (x + dx)))) = (mirS r f, ((y + dy) * r.2.1 + (r.2.1 - 1 - (x + dx)), arrI r (p.2.2.1) kind ((y + dy) * r.2.1 + (x + dx)))) := by
      unfold mirM
      dsimp only
      rw [if_neg (by omega), e]
    rw [List.map_append]
    congr 1
    · by_cases h2 : (ownI (gD 0 p.1 ((y + dy) * r.2.1 + (x + dx))) < 0 ∧ take ≠ 2) ∨ (ownI (gD 0 p.1 ((y + dy) * r.2.1 + (x + dx))) = 1 - p.2.2.1 ∧ take ≠ 0)
      · rw [if_pos h2, if_pos h2, List.map_cons, hmv]; rfl
      · rw [if_neg h2, if_neg h2]; rfl
    · by_cases h2 : 0 ≤ ownI (gD 0 p.1 ((y + dy) * r.2.1 + (x + dx)))
      · rw [if_pos h2, if_pos h2]; rfl
      · rw [if_neg h2, if_neg h2]
theorem way_mir {s : Int} (hs : 0 ≤ s ∧ s < r.2.1 * r.2.2.1) (w : WayT) : wayL r o (mirS r s) (-w.1, w.2) = (wayL r p s w).map (mirM r) := by
  have hto := mir_ok hr.b hs
  unfold wayL
  dsimp only
  rw [he.at_ hr hp ho hs, hto.2.1, hto.2.2.1, he.rest, ← along_mir hr hp ho he hs.1]
theorem cand_mir (hS : SymR r) {m : MvT} (hm : m ∈ cand r p) : mirM r m ∈ cand r o := by
  have hl := hp.len
  have hlo := ho.len
  have hll := len_le hr hp
  have hlo' := len_le hr ho
  have hhand := hand_mir hr hp ho he
  have het : o.2.2.1 = p.2.2.1 := by rw [he.rest]
  unfold cand at hm ⊢
  rw [List.mem_append, mem_putsH, mem_walks] at hm ⊢
  rcases hm with ⟨t, _, h2, h3, h4⟩ | ⟨i, _, h2, h3, w, h4, h5⟩
  · rw [mem_putsS] at h4
    obtain ⟨i, _, h5, h6, rfl⟩ := h4
    have hs : 0 ≤ (i : Int) ∧ (i : Int) < r.2.1 * r.2.2.1 := by omega
    have hto := mir_ok hr.b hs
    refine Or.inl ⟨t, by omega, by omega, by rw [hhand]; exact h3, ?_⟩
    rw [mem_putsS]
    refine ⟨(mirS r i).toNat, by omega, by omega, ?_, ?_⟩
    · rw [Int.toNat_of_nonneg hto.1.1, open_mir hr hp ho he hs]
      exact h6
    · rw [Int.toNat_of_nonneg hto.1.1]; rfl
  · have hs : 0 ≤ (i : Int) ∧ (i : Int) < r.2.1 * r.2.2.1 := by omega
    have hto := mir_ok hr.b hs
    have hc := own_pos hr hp hs h3
    have hkk := kind_lt hc (cell_ok hp hs).2
    refine Or.inr ⟨(mirS r i).toNat, by omega, by omega, ?_, (-w.1, w.2), ?_, ?_⟩
    · rw [Int.toNat_of_nonneg hto.1.1, he.at_ hr hp ho hs, het]
      exact h3
    · rw [Int.toNat_of_nonneg hto.1.1, he.at_ hr hp ho hs]
      exact hS _ hkk.1 hkk.2 w h4
    · rw [Int.toNat_of_nonneg hto.1.1, way_mir hr hp ho he hs]
      exact List.mem_map.2 ⟨m, h5, rfl⟩
theorem do_mir {m : MvT} (hm : MoveOk r p m) : Mir r (doI r p m) (doI r o (mirM r m)) := by
  have hl := hp.len
  have hlo := ho.len
  have hto := mir_ok hr.b hm.to
  have hcell := he.at_ hr hp ho hm.to
  have hhand := hand_mir hr hp ho he
  have hneg : (mirM r m).1 < 0 ↔ m.1 < 0 := by
    unfold mirM
    dsimp only
    by_cases h : m.1 < 0
    · rw [if_pos h]
    · rw [if_neg h]
      rcases hm.src with h1 | h1
      · omega
      · have := mir_ok hr.b (s := m.1) ⟨h1.1, h1.2.1⟩
        omega
  have e21 : (mirM r m).2.1 = mirS r m.2.1 := rfl
  have e22 : (mirM r m).2.2 = m.2.2 := rfl
  refine ⟨fun s g1 g2 => ?_, ?_⟩
  · have hs := mir_ok hr.b ⟨g1, g2⟩
    show gD 0 (cells2 o (mirM r m)) s = gD 0 (cells2 p m) (mirS r s)
    unfold cells2
    rw [e21, e22, he.rest]
    have key : ∀ (A B : List Int), A.length = o.1.length → B.length = p.1.length → gD 0 A s = gD 0 B (mirS r s) → gD 0 (A.set (mirS r m.2.1).toNat (2 * m.2.2 + p.2.2.1 + 1)) s = gD 0 (B.set m.2.1.toNat (2 * m.2.2 + p.2.2.1 + 1)) (mirS r s) := by
      intro A B hA hB hAB
      rw [gD_setI hto.1.1 g1 (by omega), gD_setI hm.to.1 hs.1.1 (by omega)]
      by_cases h : s = mirS r m.2.1
      · rw [if_pos h, if_pos (by rw [h, hto.2.2.2])]
      · rw [if_neg h, if_neg (fun e => h (by rw [← e, hs.2.2.2]))]
        exact hAB
    by_cases h : m.1 < 0
    · rw [if_pos h, if_pos (hneg.2 h)]
      exact key o.1 p.1 rfl rfl (he.cell s g1 g2)
    · have hsrc : 0 ≤ m.1 ∧ m.1 < r.2.1 * r.2.2.1 := by
        rcases hm.src with h1 | h1
        · omega
        · exact ⟨h1.1, h1.2.1⟩
      have hf := mir_ok hr.b hsrc
      have e1 : (mirM r m).1 = mirS r m.1 := by unfold mirM; dsimp only; rw [if_neg h]
      rw [if_neg h, if_neg (fun e => h (hneg.1 e)), e1]
      refine key _ _ (by rw [List.length_set]) (by rw [List.length_set]) ?_
      rw [gD_setI hf.1.1 g1 (by omega), gD_setI hsrc.1 hs.1.1 (by omega)]
      by_cases h2 : s = mirS r m.1
      · rw [if_pos h2, if_pos (by rw [h2, hf.2.2.2])]
      · rw [if_neg h2, if_neg (fun e => h2 (by rw [← e, hs.2.2.2]))]
        exact he.cell s g1 g2
  · have h1 : hand1 o (mirM r m) = hand1 p m := by
      unfold hand1
      rw [hhand, e22]
      by_cases h : m.1 < 0
      · rw [if_pos h, if_pos (hneg.2 h)]
      · rw [if_neg h, if_neg (fun e => h (hneg.1 e))]
    have h2 : hand2 r o (mirM r m) = hand2 r p m := by
      unfold hand2
      rw [h1, e21, hcell]
    have h3 : ((mirM r m).1 < 0 ∨ gD 0 o.1 (mirM r m).2.1 ≠ 0) ↔ (m.1 < 0 ∨ gD 0 p.1 m.2.1 ≠ 0) := by
      rw [e21, hcell, hneg]
    show (setH o (hand2 r o (mirM r m)), (1 - o.2.2.1, if (mirM r m).1 < 0 ∨ gD 0 o.1 (mirM r m).2.1 ≠ 0 then 0 else if 200 < o.2.2.2 + 1 then 200 else o.2.2.2 + 1)) = (setH p (hand2 r p m), (1 - p.2.2.1, if m.1 < 0 ∨ gD 0 p.1 m.2.1 ≠ 0 then 0 else if 200 < p.2.2.2 + 1 then 200 else p.2.2.2 + 1))
    rw [h2]
    unfold setH
    rw [he.rest]
    by_cases h : m.1 < 0 ∨ gD 0 p.1 m.2.1 ≠ 0
    · rw [if_pos h, if_pos (h3.2 h)]
    · rw [if_neg h, if_neg (fun e => h (h3.1 e))]
end
theorem holds_mir {r : RulesT} (hr : ROk r) {p : PosT} (hp : POk r p) {o : PosT} (ho : POk r o) (he : Mir r p o) {x : EndT} (hx : endOk (r.2.2.2.1).length x) : holdsB r o x = holdsB r p x := by
  have he' := he.symm hr
  have bool : ∀ {a b : Bool}, (a = true → b = true) → (b = true → a = true) → a = b := by
    intro a b h1 h2
    cases a <;> cases b <;> simp_all
  have het : o.2.2.1 = p.2.2.1 := by rw [he.rest]
  unfold holdsB
  rw [het]
  by_cases c0 : x.1 = 0
  · rw [bif_t (eqI_t c0), bif_t (eqI_t c0)]
    exact bool (fun h => row_mir hr ho hp he' (by omega) h) (fun h => row_mir hr hp ho he (by omega) h)
  · rw [bif_f (eqI_f c0), bif_f (eqI_f c0)]
    by_cases c1 : x.1 = 1
    · rw [bif_t (eqI_t c1), bif_t (eqI_t c1)]
      exact bool (fun h => reach_mir hr ho hp he' h) (fun h => reach_mir hr hp ho he h)
    · rw [bif_f (eqI_f c1), bif_f (eqI_f c1), cntI_permM _ (cells_permM hr hp ho he)]
theorem resI_mir {r : RulesT} (hr : ROk r) {p : PosT} (hp : POk r p) {o : PosT} (ho : POk r o) (he : Mir r p o) (any : Bool) : ∀ l : List EndT, (∀ x ∈ l, endOk (r.2.2.2.1).length x) → resI r o any l = resI r p any l
  | [], _ => by unfold resI overI; rw [he.rest]
  | x :: l, h => by
    have hx := holds_mir hr hp ho he (h x (List.mem_cons_self ..))
    have ih := resI_mir hr hp ho he any l (fun y hy => h y (List.mem_cons_of_mem _ hy))
    unfold resI
    rw [hx, ih, he.rest]
section
variable {r : RulesT} (hr : ROk r) (hS : SymR r)
include hr hS
theorem any_mir {p o : PosT} (hp : POk r p) (ho : POk r o) (he : Mir r p o) : (cand r o).isEmpty = (cand r p).isEmpty := by
  cases h1 : cand r p with
  | nil =>
    cases h2 : cand r o with
    | nil => rfl
    | cons a l =>
      have := cand_mir hr ho hp (he.symm hr) hS (m := a) (by rw [h2]; exact List.mem_cons_self ..)
      rw [h1] at this
      cases this
  | cons b l =>
    have := cand_mir hr hp ho he hS (m := b) (by rw [h1]; exact List.mem_cons_self ..)
    cases h2 : cand r o with
    | nil => rw [h2] at this; cases this
    | cons a l => rfl
theorem resV_mir {p o : PosT} (hp : POk r p) (ho : POk r o) (he : Mir r p o) : resV r o = resV r p := by
  unfold resV
  rw [any_mir hr hS hp ho he, resI_mir hr hp ho he _ _ hr.ends]
theorem val_mir : ∀ (d : Nat) {p o : PosT}, POk r p → POk r o → Mir r p o → val r d o = val r d p
  | 0, p, o, hp, ho, he => by
    unfold val
    rw [resV_mir hr hS hp ho he, he.rest]
  | d + 1, p, o, hp, ho, he => by
    have hres := resV_mir hr hS hp ho he
    by_cases h : resV r p = 0
    · rw [val_open hr h, val_open hr (hres.trans h)]
      apply foldMax_ext
      intro x
      simp only [List.mem_map]
      have step : ∀ {p o : PosT}, POk r p → POk r o → Mir r p o → ∀ m ∈ cand r p, near (-(val r d (doI r o (mirM r m)))) = near (-(val r d (doI r p m))) := fun hp ho he m hm => by
        have hmo := cand_ok hr hp hm
        have hmo2 := cand_ok hr ho (cand_mir hr hp ho he hS hm)
        rw [val_mir d (do_ok hr hp hmo) (do_ok hr ho hmo2) (do_mir hr hp ho he hmo)]
      constructor
      · rintro ⟨m, hm, rfl⟩
        exact ⟨mirM r m, cand_mir hr ho hp (he.symm hr) hS hm, step ho hp (he.symm hr) m hm⟩
      · rintro ⟨m, hm, rfl⟩
        exact ⟨mirM r m, cand_mir hr hp ho he hS hm, step hp ho he m hm⟩
    · rw [val_over hr h, val_over hr (by rw [hres]; exact h), hres, he.rest]
end
end Go.Proofs.Ytnckilklmkpooaa.Am
