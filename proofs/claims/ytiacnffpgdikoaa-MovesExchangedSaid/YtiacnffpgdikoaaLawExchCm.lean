/- Plain: a position in which the players are exchanged: its moves and its end. -/
import Derived.Test.YtiacnffpgdikoaaLawDom
set_option linter.unusedVariables false
set_option linter.unusedSimpArgs false
set_option linter.unusedSectionVars false
namespace Go.Proofs.Ytiacnffpgdikoaa.Am
open Go

/-- the square that the other player sees so -/
def turnI (r : RulesT) (s : Int) : Int := (r.2.2.1 - 1 - s / r.2.1) * r.2.1 + s % r.2.1
/-- the cell with the piece of the other player -/
def swI (c : Int) : Int := if c = 0 then 0 else if c % 2 = 1 then c + 1 else c - 1
theorem turn_ok {r : RulesT} (hb : 1 ≤ r.2.1 ∧ r.2.1 ≤ 8 ∧ 1 ≤ r.2.2.1 ∧ r.2.2.1 ≤ 8) {s : Int} (hs : 0 ≤ s ∧ s < r.2.1 * r.2.2.1) :
    (0 ≤ turnI r s ∧ turnI r s < r.2.1 * r.2.2.1) ∧ turnI r s / r.2.1 = r.2.2.1 - 1 - s / r.2.1 ∧ turnI r s % r.2.1 = s % r.2.1 ∧ turnI r (turnI r s) = s := by
  have hq := sq_parts hb hs
  have h1 := sq_bound (x := s % r.2.1) (y := r.2.2.1 - 1 - s / r.2.1) hb (by omega) (by omega)
  have h2 := sq_div (w := r.2.1) (x := s % r.2.1) (y := r.2.2.1 - 1 - s / r.2.1) (by omega)
  refine ⟨by unfold turnI; omega, h2.1, h2.2, ?_⟩
  have e1 : turnI r s / r.2.1 = r.2.2.1 - 1 - s / r.2.1 := h2.1
  have e2 : turnI r s % r.2.1 = s % r.2.1 := h2.2
  show (r.2.2.1 - 1 - turnI r s / r.2.1) * r.2.1 + turnI r s % r.2.1 = s
  rw [e1, e2, show r.2.2.1 - 1 - (r.2.2.1 - 1 - s / r.2.1) = s / r.2.1 by omega]
  exact hq.2.2.2.2
theorem sw_own {c : Int} (h : 0 ≤ c) : ownI (swI c) = if c = 0 then -1 else 1 - ownI c := by
  unfold ownI swI
  by_cases h0 : c = 0
  · simp [h0]
  · simp only [if_neg h0]
    by_cases h1 : c % 2 = 1
    · rw [if_pos h1, if_neg (by omega)]; omega
    · rw [if_neg h1, if_neg (by omega)]; omega
theorem sw_kind {c : Int} (h : 1 ≤ c) : kindI (swI c) = kindI c := by
  unfold kindI swI
  rw [if_neg (by omega)]
  split <;> omega
theorem sw_sw {c : Int} (h : 0 ≤ c) : swI (swI c) = c := by
  unfold swI
  by_cases h0 : c = 0
  · simp [h0]
  · simp only [if_neg h0]
    by_cases h1 : c % 2 = 1
    · rw [if_pos h1, if_neg (by omega), if_neg (by omega)]; omega
    · rw [if_neg h1, if_neg (by omega), if_pos (by omega)]; omega
theorem sw_le {c : Int} {k : Nat} (h : 0 ≤ c ∧ c ≤ 2 * (k : Int)) : 0 ≤ swI c ∧ swI c ≤ 2 * (k : Int) := by
  unfold swI
  split
  · omega
  · split <;> omega
theorem sw_zero {c : Int} (h : 0 ≤ c) : swI c = 0 ↔ c = 0 := by
  unfold swI
  split
  · omega
  · split <;> omega
theorem sw_all : ((List.range 13).all fun (c : Nat) => rules_Swapped 0 (c : Int) == some (swI (c : Int))) = true := by decide +kernel
theorem swapped_eq (N : Nat) {c : Int} (h : 0 ≤ c ∧ c ≤ 12) : rules_Swapped N c = some (swI c) := by
  obtain ⟨c, rfl⟩ : ∃ a : Nat, c = a := ⟨c.toNat, by omega⟩
  have := List.all_eq_true.1 sw_all c (List.mem_range.2 (by omega))
  have h2 : rules_Swapped N (c : Int) = rules_Swapped 0 (c : Int) := rfl
  rw [h2]
  simpa using this
theorem turned_eq (N : Nat) {r : RulesT} (hb : 1 ≤ r.2.1 ∧ r.2.1 ≤ 8 ∧ 1 ≤ r.2.2.1 ∧ r.2.2.1 ≤ 8) {s : Int} (hs : 0 ≤ s ∧ s < r.2.1 * r.2.2.1) : rules_Turned N r s = some (turnI r s) := by
  have hq := sq_parts hb hs
  have h1 := sq_bound (x := s % r.2.1) (y := r.2.2.1 - 1 - s / r.2.1) hb (by omega) (by omega)
  unfold rules_Turned rules_Turned.e turnI
  rw [bif_f (eqI_f (by omega)), bif_f (eqI_f (by omega)), Int.tdiv_eq_ediv_of_nonneg hs.1, Int.tmod_eq_emod_of_nonneg hs.1, w64_id (x := r.2.2.1 - 1) (by omega) (by omega), w64_id (x := s / r.2.1) (by omega) (by omega), w64_id (x := r.2.2.1 - 1 - s / r.2.1) (by omega) (by omega), w64_id (x := (r.2.2.1 - 1 - s / r.2.1) * r.2.1) (by omega) (by omega), w64_id (by omega) (by omega)]
/-- the players are exchanged -/
structure Exch (r : RulesT) (p o : PosT) : Prop where
  cell : ∀ s : Int, 0 ≤ s → s < r.2.1 * r.2.2.1 → gD 0 o.1 s = swI (gD 0 p.1 (turnI r s))
  h0 : o.2.1.1 = p.2.1.2
  h1 : o.2.1.2 = p.2.1.1
  t : o.2.2.1 = 1 - p.2.2.1
  q : o.2.2.2 = p.2.2.2
theorem Exch.symm {r : RulesT} (hr : ROk r) {p o : PosT} (hp : POk r p) (h : Exch r p o) : Exch r o p where
  cell := fun s h0 h1 => by
    have ht := turn_ok hr.b ⟨h0, h1⟩
    rw [h.cell _ ht.1.1 ht.1.2, ht.2.2.2, sw_sw (cell_ok hp ⟨h0, h1⟩).1]
  h0 := h.h1.symm
  h1 := h.h0.symm
  t := by have := h.t; omega
  q := h.q.symm
section
variable {r : RulesT} (hr : ROk r) {p : PosT} (hp : POk r p)
include hr hp
theorem other_l0 (N : Nat) (o1 o2 : Int) : ∀ (k j n : Nat) (m : List Int), j + k = p.1.length → k + 1 ≤ n → m.length = p.1.length → (∀ i : Nat, i < j → gD 0 m (turnI r i) = swI (gD 0 p.1 i)) →
    Ret (place_Other.l0 N r p n (j : Int) m (p.2.1.1) (p.2.1.2) o1 o2) fun z => z.2 = 0 ∧ z.1.1.length = p.1.length ∧ (∀ i : Nat, i < p.1.length → gD 0 z.1.1 (turnI r i) = swI (gD 0 p.1 i)) ∧ z.1.2.1 = (p.2.1.2, p.2.1.1) ∧ z.1.2.2 = (1 - p.2.2.1, o2)
  | 0, j, n, m, hk, hn, hm, hi => by
    obtain ⟨n, rfl⟩ := nxt (n := n) (by omega)
    have ht := hp.last.1
    rw [place_Other.l0_s, place_Other.s0, bif_f (ltI_f (by omega)), w64_id (by omega) (by omega)]
    exact Ret.ret ⟨rfl, hm, fun i h => hi i (by omega), rfl, rfl⟩
  | k + 1, j, n, m, hk, hn, hm, hi => by
    obtain ⟨n, rfl⟩ := nxt (n := n) (by omega)
    have hl := hp.len
    have hll := len_le hr hp
    have hj : j < p.1.length := by omega
    have hto := turn_ok hr.b (s := j) (by omega)
    have hc := cell_ok hp (s := j) (by omega)
    have h6 := hr.ps.le
    rw [place_Other.l0_s, place_Other.s0, bif_t (ltI_t (by omega)), chk_of (idx_ok hj), turned_eq N hr.b (by omega), Option.bind_some, swapped_eq N (by omega), Option.bind_some, chk_idx hto.1.1 (by omega), w64_id (by omega) (by omega), show ((j : Int) + 1) = ((j + 1 : Nat) : Int) by omega]
    refine other_l0 N o1 o2 k (j + 1) n _ (by omega) (by omega) (by rw [List.length_set]; exact hm) (fun i h => ?_)
    have hti := turn_ok hr.b (s := i) (by omega)
    obtain ⟨a, ha⟩ : ∃ a : Nat, turnI r j = a := ⟨(turnI r j).toNat, by omega⟩
    obtain ⟨b, hb⟩ : ∃ b : Nat, turnI r i = b := ⟨(turnI r i).toNat, by omega⟩
    rw [ha, hb, Int.toNat_natCast, gD_nat (by rw [List.length_set]; omega)]
    by_cases hij : i = j
    · subst hij
      obtain rfl : a = b := by omega
      rw [List.getElem_set_self]
    · have hne : a ≠ b := by
        intro e
        have : turnI r (turnI r j) = turnI r (turnI r i) := by rw [ha, hb, e]
        rw [hto.2.2.2, hti.2.2.2] at this
        omega
      rw [List.getElem_set_ne hne]
      have := hi i (by omega)
      rw [hb, gD_nat (by omega)] at this
      exact this
/-- the position in which the players are exchanged -/
theorem other_ret {N : Nat} (hN : 1000 ≤ N) : Ret (place_Other N r p) fun z => z.2 = 0 ∧ Exch r p z.1 ∧ POk r z.1 := by
  have hll := len_le hr hp
  have hl := hp.len
  have hlast := hp.last
  unfold place_Other place_Other.e
  rw [pcheck_ok hN hr hp, Option.bind_some, bif_f (by rfl), copy_eq hr hp, Option.bind_some]
  have h0 := other_l0 hr hp N (p.2.2.1) (p.2.2.2) p.1.length 0 N p.1 (by omega) (by omega) rfl (fun i h => by omega)
  refine h0.mono fun z ⟨h1, h2, h3, h4, h5⟩ => ⟨h1, ?_, ?_⟩
  · refine ⟨fun s hs0 hs1 => ?_, by rw [h4], by rw [h4], by rw [h5], by rw [h5]⟩
    have hto := turn_ok hr.b ⟨hs0, hs1⟩
    obtain ⟨a, ha⟩ : ∃ a : Nat, turnI r s = a := ⟨(turnI r s).toNat, by omega⟩
    have := h3 a (by omega)
    rw [← ha, hto.2.2.2] at this
    exact this
  · refine ⟨by rw [h2]; exact hl, by rw [h4]; exact hp.h1, by rw [h4]; exact hp.h0, ?_, by rw [h4]; exact hp.o1, by rw [h4]; exact hp.o0, ?_⟩
    · intro c hc
      obtain ⟨i, hi, rfl⟩ := List.getElem_of_mem hc
      have hto := turn_ok hr.b (s := i) (by omega)
      obtain ⟨a, ha⟩ : ∃ a : Nat, turnI r i = a := ⟨(turnI r i).toNat, by omega⟩
      have := h3 a (by omega)
      rw [← ha, hto.2.2.2, gD_nat hi] at this
      rw [this]
      exact sw_le (cell_ok hp hto.1)
    · rw [lastOk, h5]
      dsimp only
      omega
variable {o : PosT} (ho : POk r o) (he : Exch r p o)
include ho he
end
section
variable {r : RulesT} (hr : ROk r)
include hr
end
section
variable {r : RulesT} (hr : ROk r) {p : PosT} (hp : POk r p) {o : PosT} (ho : POk r o) (he : Exch r p o)
include hr hp ho he
theorem far_exch {player s : Int} (hpl : player = 0 ∨ player = 1) (hs : 0 ≤ s ∧ s < r.2.1 * r.2.2.1) : farI r (1 - player) (turnI r s) = farI r player s := by
  have hto := turn_ok hr.b hs
  have hq := sq_parts hr.b hs
  unfold farI
  rw [hto.2.1]
  rcases hpl with rfl | rfl
  · show eqI (r.2.2.1 - 1 - s / r.2.1) 0 = eqI (s / r.2.1) (r.2.2.1 - 1)
    by_cases h : s / r.2.1 = r.2.2.1 - 1
    · rw [eqI_t h, eqI_t (by omega)]
    · rw [eqI_f h, eqI_f (by omega)]
  · show eqI (r.2.2.1 - 1 - s / r.2.1) (r.2.2.1 - 1) = eqI (s / r.2.1) 0
    by_cases h : s / r.2.1 = 0
    · rw [eqI_t h, eqI_t (by omega)]
    · rw [eqI_f h, eqI_f (by omega)]
end
section
variable {r : RulesT} (hr : ROk r) {p : PosT} (hp : POk r p) {o : PosT} (ho : POk r o) (he : Exch r p o)
include hr hp ho he
end
/-- the move seen by the other player -/
def turnM (r : RulesT) (m : MvT) : MvT := (if m.1 < 0 then m.1 else turnI r m.1, (turnI r m.2.1, m.2.2))
section
variable {r : RulesT} (hr : ROk r) {p : PosT} (hp : POk r p) {o : PosT} (ho : POk r o) (he : Exch r p o)
include hr hp ho he
theorem along_exch {f kind dx dy take : Int} (hf : 0 ≤ f) : ∀ (k : Nat) (x y : Int),
    alongL r o (turnI r f) kind dx (-dy) take k x (r.2.2.1 - 1 - y) = (alongL r p f kind dx dy take k x y).map (turnM r)
  | 0, x, y => rfl
  | k + 1, x, y => by
    have hpt := hp.last.1
    have het := he.t
    have ih := along_exch (dx := dx) (dy := dy) (take := take) (kind := kind) hf k (x + dx) (y + dy)
    unfold alongL
    rw [show r.2.2.1 - 1 - y + -dy = r.2.2.1 - 1 - (y + dy) by omega]
    by_cases c : x + dx < 0 ∨ r.2.1 ≤ x + dx ∨ y + dy < 0 ∨ r.2.2.1 ≤ y + dy
    · rw [if_pos c, if_pos (by omega)]; rfl
    rw [if_neg c, if_neg (by omega)]
    have hq := sq_bound (x := x + dx) (y := r.2.2.1 - 1 - (y + dy)) hr.b (by omega) (by omega)
    have hd := sq_div (w := r.2.1) (x := x + dx) (y := r.2.2.1 - 1 - (y + dy)) (by omega)
    have hq' := sq_bound (x := x + dx) (y := y + dy) hr.b (by omega) (by omega)
    have hd' := sq_div (w := r.2.1) (x := x + dx) (y := y + dy) (by omega)
    have e : (r.2.2.1 - 1 - (y + dy)) * r.2.1 + (x + dx) = turnI r ((y + dy) * r.2.1 + (x + dx)) := by
      unfold turnI
      rw [hd'.1, hd'.2]
    have hto := turn_ok hr.b (s := (y + dy) * r.2.1 + (x + dx)) (by omega)
    have hc := cell_ok hp (s := (y + dy) * r.2.1 + (x + dx)) (by omega)
    have hoc := own_cases hc.1
    have hcell : gD 0 o.1 ((r.2.2.1 - 1 - (y + dy)) * r.2.1 + (x + dx)) = swI (gD 0 p.1 ((y + dy) * r.2.1 + (x + dx))) := by
      rw [e, he.cell _ hto.1.1 hto.1.2, hto.2.2.2]
    have harr : arrI r (o.2.2.1) kind ((r.2.2.1 - 1 - (y + dy)) * r.2.1 + (x + dx)) = arrI r (p.2.2.1) kind ((y + dy) * r.2.1 + (x + dx)) := by
      unfold arrI
      rw [e, het, far_exch hr hp ho he hpt (by omega)]
    rw [hcell, harr, ih, sw_own hc.1]
    have hmv : turnM r (f, ((y + dy) * r.2.1 + (x + dx), arrI r (p.2.2.1) kind ((y + dy) * r.2.1 + (x + dx)))) = (turnI r f, ((r.2.2.1 - 1 - (y + dy)) * r.2.1 + (x + dx), arrI r (p.2.2.1) kind ((y + dy) * r.2.1 + (x + dx)))) := by
      unfold turnM
      dsimp only
      rw [if_neg (by omega), e]
    generalize gD 0 p.1 ((y + dy) * r.2.1 + (x + dx)) = c0 at *
    rw [List.map_append]
    congr 1
    · by_cases h0 : c0 = 0
      · rw [if_pos h0]
        have h1 : ownI c0 = -1 := by omega
        rw [h1]
        by_cases h2 : take ≠ 2
        · rw [if_pos (Or.inl ⟨by omega, h2⟩), if_pos (Or.inl ⟨by omega, h2⟩), List.map_cons, hmv]; rfl
        · rw [if_neg (by omega), if_neg (by omega)]; rfl
      · rw [if_neg h0]
        by_cases h2 : ownI c0 = 1 - p.2.2.1 ∧ take ≠ 0
        · rw [if_pos (Or.inr ⟨by omega, h2.2⟩), if_pos (Or.inr h2), List.map_cons, hmv]; rfl
        · rw [if_neg (by omega), if_neg (by omega)]; rfl
    · by_cases h0 : c0 = 0
      · rw [if_pos h0, if_neg (by omega), if_neg (by omega)]
      · rw [if_neg h0, if_pos (by omega), if_pos (by omega)]; rfl
theorem way_exch {s : Int} (hs : 0 ≤ s ∧ s < r.2.1 * r.2.2.1) (hc : 1 ≤ gD 0 p.1 s) (w : WayT) : wayL r o (turnI r s) w = (wayL r p s w).map (turnM r) := by
  have hpt := hp.last.1
  have het := he.t
  have hto := turn_ok hr.b hs
  unfold wayL
  rw [he.cell _ hto.1.1 hto.1.2, hto.2.2.2, sw_kind hc, hto.2.1, hto.2.2.1, ← along_exch hr hp ho he hs.1]
  rw [het]
  rcases hpt with h | h
  · rw [h, if_pos (by omega), if_neg (by omega)]
  · rw [h, if_neg (by omega), if_pos (by omega), Int.neg_neg]
theorem cand_exch (hF : r.2.2.2.2.2.1 = false) {m : MvT} (hm : m ∈ cand r p) : turnM r m ∈ cand r o := by
  have hl := hp.len
  have hlo := ho.len
  have hpt := hp.last.1
  have het := he.t
  have hll := len_le hr hp
  have hlo' := len_le hr ho
  have hhand : handT o = handT p := by
    unfold handT
    rw [het, he.h0, he.h1]
    rcases hpt with h | h
    · rw [if_neg (by omega), if_pos h]
    · rw [if_pos (by omega), if_neg (by omega)]
  unfold cand at hm ⊢
  rw [List.mem_append, mem_putsH, mem_walks] at hm ⊢
  rcases hm with ⟨t, _, h2, h3, h4⟩ | ⟨i, _, h2, h3, w, h4, h5⟩
  · rw [mem_putsS] at h4
    obtain ⟨i, _, h5, h6, rfl⟩ := h4
    have hto := turn_ok hr.b (s := i) (by omega)
    have hc := cell_ok hp (s := i) (by omega)
    refine Or.inl ⟨t, by omega, by omega, by rw [hhand]; exact h3, ?_⟩
    rw [mem_putsS]
    refine ⟨(turnI r i).toNat, by omega, by omega, ?_, ?_⟩
    · rw [Int.toNat_of_nonneg hto.1.1]
      unfold openB at h6 ⊢
      rw [hF] at h6 ⊢
      simp only [cond_false, Bool.and_true, eqI_iff] at h6 ⊢
      rw [he.cell _ hto.1.1 hto.1.2, hto.2.2.2, h6]
      rfl
    · rw [Int.toNat_of_nonneg hto.1.1]; rfl
  · have hs : 0 ≤ (i : Int) ∧ (i : Int) < r.2.1 * r.2.2.1 := by omega
    have hto := turn_ok hr.b hs
    have hc := own_pos hr hp hs h3
    have hcc := cell_ok hp hs
    refine Or.inr ⟨(turnI r i).toNat, by omega, by omega, ?_, w, ?_, ?_⟩
    · rw [Int.toNat_of_nonneg hto.1.1, he.cell _ hto.1.1 hto.1.2, hto.2.2.2, sw_own hcc.1, if_neg (by omega)]
      omega
    · rw [Int.toNat_of_nonneg hto.1.1, he.cell _ hto.1.1 hto.1.2, hto.2.2.2, sw_kind hc]
      exact h4
    · rw [Int.toNat_of_nonneg hto.1.1, way_exch hr hp ho he hs hc]
      exact List.mem_map.2 ⟨m, h5, rfl⟩
end
end Go.Proofs.Ytiacnffpgdikoaa.Am
