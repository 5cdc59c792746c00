/- Plain: the moves of a piece by a way. -/
import Derived.Test.YtpielijehhhobaaLawPlacef
set_option linter.unusedVariables false
set_option linter.unusedSimpArgs false
namespace Go.Proofs.Ytpielijehhhobaa.Am
open Go
def ownI (c : Int) : Int := if c = 0 then -1 else (c - 1) % 2
def kindI (c : Int) : Int := (c - 1) / 2
theorem owner_eq {N : Nat} {c : Int} (h0 : 0 ≤ c) (h1 : c ≤ 1000) : Q62 N c = some (ownI c) := by
 unfold Q62 Q62.e ownI
 by_cases h : c = 0
 ·rw [bif_t (eqI_t h), if_pos h]
 ·rw [bif_f (eqI_f h), if_neg h, w64_id (by omega) (by omega), Int.tmod_eq_emod_of_nonneg (by omega)]
theorem kind_eq {N : Nat} {c : Int} (h0 : 1 ≤ c) (h1 : c ≤ 1000) : Q63 N c = some (kindI c) := by
 unfold Q63 Q63.e kindI
 rw [w64_id (x := c - 1) (by omega) (by omega), Int.tdiv_eq_ediv_of_nonneg (by omega), w64_id (by omega) (by omega)]
theorem own_cases {c : Int} (h0 : 0 ≤ c) : (c = 0 ∧ ownI c = -1) ∨ (1 ≤ c ∧ (ownI c = 0 ∨ ownI c = 1)) := by
 unfold ownI
 by_cases h : c = 0
 ·rw [if_pos h]; exact Or.inl ⟨h, rfl⟩
 ·rw [if_neg h]; omega
theorem kind_lt {c : Int} {k : Nat} (h0 : 1 ≤ c) (h1 : c ≤ 2 * (k : Int)) : 0 ≤ kindI c ∧ kindI c < k := by
 unfold kindI; omega
theorem sq_bound {w h x y : Int} (hb : 1 ≤ w ∧ w ≤ 8 ∧ 1 ≤ h ∧ h ≤ 8) (hx : 0 ≤ x ∧ x < w) (hy : 0 ≤ y ∧ y < h) : 0 ≤ y * w ∧ y * w ≤ 56 ∧ y * w + x < w * h := by
 obtain ⟨w, rfl⟩ : ∃ a : Nat, w = a := ⟨w.toNat, by omega⟩
 obtain ⟨h, rfl⟩ : ∃ a : Nat, h = a := ⟨h.toNat, by omega⟩
 obtain ⟨y, rfl⟩ : ∃ a : Nat, y = a := ⟨y.toNat, by omega⟩
 have e1 : y * w ≤ 7 * 8 := Nat.mul_le_mul (by omega) (by omega)
 have e2 : (y + 1) * w ≤ h * w := Nat.mul_le_mul (by omega) (Nat.le_refl _)
 have e3 : (y : Int) * (w : Int) = ((y * w : Nat) : Int) := by simp
 have e4 : (w : Int) * (h : Int) = ((h * w : Nat) : Int) := by simp [Int.mul_comm]
 rw [Nat.add_mul, Nat.one_mul] at e2
 omega
theorem sq_div {w x y : Int} (hx : 0 ≤ x ∧ x < w) : (y * w + x) / w = y ∧ (y * w + x) % w = x := by
 rw [Int.mul_comm, Int.add_comm]
 constructor
 ·rw [Int.add_mul_ediv_left _ _ (by omega), Int.ediv_eq_zero_of_lt hx.1 hx.2]; omega
 ·rw [Int.add_mul_emod_self_left, Int.emod_eq_of_lt hx.1 hx.2]
theorem sq_parts {w h s : Int} (hb : 1 ≤ w ∧ w ≤ 8 ∧ 1 ≤ h ∧ h ≤ 8) (hs : 0 ≤ s ∧ s < w * h) : 0 ≤ s % w ∧ s % w < w ∧ 0 ≤ s / w ∧ s / w < h ∧ (s / w) * w + s % w = s := by
 refine ⟨Int.emod_nonneg _ (by omega), Int.emod_lt_of_pos _ (by omega), Int.ediv_nonneg hs.1 (by omega), ?_, ?_⟩
 ·exact Int.ediv_lt_of_lt_mul (by omega) (by rw [Int.mul_comm]; exact hs.2)
 ·rw [Int.mul_comm]; exact Int.mul_ediv_add_emod s w
def farI (r : RulesT) (player to : Int) : Bool := bif eqI player 0 then eqI (to / r.2.1) (r.2.2.1 - 1) else eqI (to / r.2.1) 0
theorem far_eq {N : Nat} {r : RulesT} (hb : 1 ≤ r.2.1 ∧ r.2.1 ≤ 8 ∧ 1 ≤ r.2.2.1 ∧ r.2.2.1 ≤ 8) {player to : Int} (ht : 0 ≤ to ∧ to < r.2.1 * r.2.2.1) : Q93 N r player to = some (farI r player to) := by
 unfold Q93 Q93.e farI
 have h1 := sq_parts hb ht
 rw [Int.tdiv_eq_ediv_of_nonneg ht.1, w64_id (x := to / r.2.1) (by omega) (by omega), w64_id (x := r.2.2.1 - 1) (by omega) (by omega), bif_f (c := eqI r.2.1 0) (eqI_f (by omega)), bif_f (c := eqI r.2.1 0) (eqI_f (by omega))]
 cases eqI player 0 <;> rfl
def arrI (r : RulesT) (player kind to : Int) : Int := bif ltI 0 (gD zP (r.2.2.2.1) kind).2.2.1 && farI r player to then (gD zP (r.2.2.2.1) kind).2.2.1 - 1 else kind
theorem piece_ok {r : RulesT} (hr : ROk r) {kind : Int} (hk : 0 ≤ kind ∧ kind < (r.2.2.2.1).length) : pieceOk (r.2.2.2.1).length (gD zP (r.2.2.2.1) kind) := by
 obtain ⟨k, rfl⟩ : ∃ a : Nat, kind = a := ⟨kind.toNat, by omega⟩
 exact (hr.ps.each k (by omega)).1
theorem arrives_eq {N : Nat} {r : RulesT} (hr : ROk r) {player kind to : Int} (hk : 0 ≤ kind ∧ kind < (r.2.2.2.1).length) (ht : 0 ≤ to ∧ to < r.2.1 * r.2.2.1) : Q87 N r player kind to = some (arrI r player kind to) := by
 unfold Q87 Q87.e arrI
 have hp := piece_ok hr hk
 have h6 := hr.ps.le
 rw [chk_idx hk.1 hk.2, far_eq hr.b ht, Option.bind_some]
 have e : w64 ((gD zP (r.2.2.2.1) kind).2.2.1 - 1) = (gD zP (r.2.2.2.1) kind).2.2.1 - 1 := w64_id (by omega) (by omega)
 rw [e]
 cases ltI 0 (gD zP (r.2.2.2.1) kind).2.2.1 <;> cases farI r player to <;> rfl
theorem arr_lt {r : RulesT} (hr : ROk r) {player kind to : Int} (hk : 0 ≤ kind ∧ kind < (r.2.2.2.1).length) : 0 ≤ arrI r player kind to ∧ arrI r player kind to < (r.2.2.2.1).length := by
 have hp := (piece_ok hr hk).2.1
 unfold arrI
 cases hc : ltI 0 (gD zP (r.2.2.2.1) kind).2.2.1 && farI r player to
 ·exact hk
 ·simp only [Bool.and_eq_true, ltI_iff] at hc
  rw [cond_true]
  omega
def alongL (r : RulesT) (p : PosT) (from_ kind dx dy take : Int) : Nat → Int → Int → List MvT
 | 0, _, _ => []
 | k + 1, x, y =>
  if x + dx < 0 ∨ r.2.1 ≤ x + dx ∨ y + dy < 0 ∨ r.2.2.1 ≤ y + dy then [] else
  (if (ownI (gD 0 p.1 ((y + dy) * r.2.1 + (x + dx))) < 0 ∧ take ≠ 2) ∨ (ownI (gD 0 p.1 ((y + dy) * r.2.1 + (x + dx))) = 1 - p.2.2.1 ∧ take ≠ 0) then
   [(from_, ((y + dy) * r.2.1 + (x + dx), arrI r (p.2.2.1) kind ((y + dy) * r.2.1 + (x + dx))))] else []) ++
  (if 0 ≤ ownI (gD 0 p.1 ((y + dy) * r.2.1 + (x + dx))) then [] else alongL r p from_ kind dx dy take k (x + dx) (y + dy))
theorem cell_ok {r : RulesT} {p : PosT} (hp : POk r p) {s : Int} (hs : 0 ≤ s ∧ s < r.2.1 * r.2.2.1) : 0 ≤ gD 0 p.1 s ∧ gD 0 p.1 s ≤ 2 * ((r.2.2.2.1).length : Int) := by
 have hl := hp.len
 obtain ⟨s, rfl⟩ : ∃ a : Nat, s = a := ⟨s.toNat, by omega⟩
 rw [gD_nat (by omega)]
 exact hp.cells _ (List.getElem_mem _)
section
variable {r : RulesT} (hr : ROk r) {p : PosT} (hp : POk r p)
include hr hp
theorem along_l0 (N : Nat) (out0 : List MvT) (from_ : Int) (w : WayT) (hw : wayOk w) {kind dy : Int} (hk : 0 ≤ kind ∧ kind < (r.2.2.2.1).length) (hdy : -7 ≤ dy ∧ dy ≤ 7) :
  ∀ (k n : Nat) (x y t : Int) (out : List MvT), t + k = w.2.2.1 → 0 ≤ t → k < n → (0 ≤ x ∧ x < r.2.1) → (0 ≤ y ∧ y < r.2.2.1) → out.length + k ≤ 100000 →
  Q64.l0 N out0 r p from_ w n kind dy x y t out = some (out ++ alongL r p from_ kind w.1 dy w.2.2.2 k x y)
 | 0, n, x, y, t, out, ht, ht0, hn, hx, hy, ho => by
  obtain ⟨n, rfl⟩ := nxt (n := n) (by omega)
  rw [Q64.l0_s, Q64.s0, bif_f (ltI_f (by omega))]
  simp [alongL]
 | k + 1, n, x, y, t, out, ht, ht0, hn, hx, hy, ho => by
  obtain ⟨n, rfl⟩ := nxt (n := n) (by omega)
  have hb := hr.b
  have h6 := hr.ps.le
  rw [Q64.l0_s, Q64.s0, bif_t (ltI_t (by omega))]
  simp (disch := omega) only [w64_id (x := x + w.1), w64_id (x := y + dy), w64_id (x := t + 1)]
  unfold alongL
  by_cases c1 : x + w.1 < 0
  ·rw [bif_t (ltI_t c1), if_pos (Or.inl c1), List.append_nil]
  by_cases c2 : r.2.1 ≤ x + w.1
  ·rw [bif_f (ltI_f (by omega)), bif_t (leI_t c2), if_pos (Or.inr (Or.inl c2)), List.append_nil]
  by_cases c3 : y + dy < 0
  ·rw [bif_f (ltI_f (by omega)), bif_f (leI_f (by omega)), bif_t (ltI_t c3), if_pos (by omega), List.append_nil]
  by_cases c4 : r.2.2.1 ≤ y + dy
  ·rw [bif_f (ltI_f (by omega)), bif_f (leI_f (by omega)), bif_f (ltI_f (by omega)), bif_t (leI_t c4), if_pos (by omega), List.append_nil]
  rw [bif_f (ltI_f (by omega)), bif_f (leI_f (by omega)), bif_f (ltI_f (by omega)), bif_f (leI_f (by omega)), if_neg (by omega)]
  have hq := sq_bound (x := x + w.1) (y := y + dy) hb (by omega) (by omega)
  rw [w64_id (x := (y + dy) * r.2.1) (by omega) (by omega), w64_id (x := (y + dy) * r.2.1 + (x + w.1)) (by omega) (by omega)]
  have hto : 0 ≤ (y + dy) * r.2.1 + (x + w.1) ∧ (y + dy) * r.2.1 + (x + w.1) < r.2.1 * r.2.2.1 := by omega
  have hc := cell_ok hp hto
  have hl := hp.len
  have ho1 := own_cases hc.1
  have har : Q87 N r p.2.2.1 kind ((y + dy) * r.2.1 + (x + w.1)) = _ := arrives_eq hr hk hto
  have how := owner_eq (N := N) hc.1 (by omega)
  have ih := fun out' (h : out'.length + k ≤ 100000) => along_l0 N out0 from_ w hw hk hdy k n (x + w.1) (y + dy) (t + 1) out' (by omega) (by omega) (by omega) (by omega) (by omega) h
  rw [chk_idx (by omega) (by omega), how, Option.bind_some, har]
  generalize ownI (gD 0 p.1 ((y + dy) * r.2.1 + (x + w.1))) = o at *
  generalize arrI r p.2.2.1 kind ((y + dy) * r.2.1 + (x + w.1)) = a at *
  generalize (y + dy) * r.2.1 + (x + w.1) = to at *
  have htt := hp.last.1
  rw [w64_id (x := 1 - p.2.2.1) (by omega) (by omega)]
  simp only [Option.bind_some]
  rw [chk_cap (by simp; omega), ih out (by omega), ih (out ++ [(from_, (to, a))]) (by simp; omega)]
  simp only [ltI, leI, eqI, Bool.cond_eq_ite, decide_eq_true_eq, Bool.not_eq_true', decide_eq_false_iff_not]
  repeat' split
  all_goals first | omega | simp
theorem along_eq {N : Nat} (hN : 1000 ≤ N) (out : List MvT) {from_ : Int} (hf : 0 ≤ from_ ∧ from_ < r.2.1 * r.2.2.1) (w : WayT) (hw : wayOk w) (hc : 1 ≤ gD 0 p.1 from_) (ho : out.length + 7 ≤ 100000) :
  Q64 N out r p from_ w = some (out ++ alongL r p from_ (kindI (gD 0 p.1 from_)) w.1 (if p.2.2.1 = 1 then - w.2.1 else w.2.1) w.2.2.2 w.2.2.1.toNat (from_ % r.2.1) (from_ / r.2.1)) := by
 have hb := hr.b
 have h6 := hr.ps.le
 have hl := hp.len
 have hq := sq_parts hb hf
 have hcc := cell_ok hp hf
 have hkk := kind_lt hc hcc.2
 unfold Q64 Q64.e
 rw [chk_idx hf.1 (by omega), kind_eq hc (by omega), Option.bind_some]
 simp only [bif_f (c := eqI r.2.1 0) (eqI_f (by omega))]
 rw [Int.tdiv_eq_ediv_of_nonneg hf.1, Int.tmod_eq_emod_of_nonneg hf.1, w64_id (x := from_ / r.2.1) (by omega) (by omega), w64_id (x := 0 - w.2.1) (by omega) (by omega)]
 by_cases ht : p.2.2.1 = 1
 ·rw [bif_t (eqI_t ht), if_pos ht, show 0 - w.2.1 = - w.2.1 by omega]
  exact along_l0 hr hp N out from_ w hw hkk (by omega) w.2.2.1.toNat N _ _ 0 out (by omega) (by omega) (by omega) (by omega) (by omega) (by omega)
 ·rw [bif_f (eqI_f ht), if_neg ht]
  exact along_l0 hr hp N out from_ w hw hkk (by omega) w.2.2.1.toNat N _ _ 0 out (by omega) (by omega) (by omega) (by omega) (by omega) (by omega)
end
end Go.Proofs.Ytpielijehhhobaa.Am
