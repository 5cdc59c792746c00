/- The plain law SymmOrbits: the plain function says true at every input. -/
import Derived.Test.YtjmcjiklfhmdlaaLawSort8s
set_option linter.unusedVariables false
set_option linter.unusedSimpArgs false
namespace Go.Proofs.Ytjmcjiklfhmdlaa.Am
open Go

theorem check0_bad {N : Nat} {w h s : Int} (hb : ¬ (1 ≤ w ∧ w ≤ 8 ∧ 1 ≤ h ∧ h ≤ 8)) : symm_Check N w h = some 4 := by
  unfold symm_Check symm_Check.e
  simp only [ltI, Bool.cond_decide]
  repeat' split
  all_goals first | rfl | omega
theorem check0_good {N : Nat} {w h : Int} (hb : 1 ≤ w ∧ w ≤ 8 ∧ 1 ≤ h ∧ h ≤ 8) : symm_Check N w h = some 0 := by
  unfold symm_Check symm_Check.e
  simp only [ltI, Bool.cond_decide]
  repeat' split
  all_goals first | rfl | omega
theorem many0 {N : Nat} {w h : Int} : ∃ m : Int, symm_many N w h = some m ∧ 4 ≤ m := by
  unfold symm_many symm_many.e
  cases eqI w h
  · exact ⟨4, rfl, by omega⟩
  · exact ⟨8, rfl, by omega⟩
def many (w h : Nat) : Nat := bif Nat.beq w h then 8 else 4
def bt1 (s k : Nat) : Bool := Nat.beq ((s >>> k) % 2) 1
/-- where a square goes -/
def img (w h s q : Nat) : Nat :=
  let x := q % w
  let y := q / w
  let x1 := bif bt1 s 2 then y else x
  let y1 := bif bt1 s 2 then x else y
  let x2 := bif bt1 s 0 then w - 1 - x1 else x1
  let y2 := bif bt1 s 1 then h - 1 - y1 else y1
  y2 * w + x2
theorem image_all : boards (fun w h => upto (many w h) fun s => upto (w * h) fun q => symm_image 1000 w h s q == some ((img w h s q : Nat) : Int)) = true := by decide +kernel
theorem many_val {w h : Nat} : many w h = 4 ∨ many w h = 8 := by
  unfold many
  cases Nat.beq w h
  · exact Or.inl rfl
  · exact Or.inr rfl
theorem many_eq {N : Nat} {w h : Nat} : symm_many N w h = some ((many w h : Nat) : Int) := by
  simp only [symm_many, symm_many.e, many]
  by_cases he : w = h
  · subst he
    rw [bif_t (eqI_t rfl), bif_t (Nat.beq_refl w)]; rfl
  · rw [bif_f (eqI_f (by omega)), bif_f (by
      cases hb : Nat.beq w h with
      | false => rfl
      | true => exact absurd (Nat.eq_of_beq_eq_true hb) he)]; rfl
/-- the images of a square -/
def imgs (w h q : Nat) : List Nat := (List.range (many w h)).map fun s => img w h s q
/-- its orbit -/
def orbN (w h q : Nat) : List Nat := cN0 (many w h - 1) 1 (sortN (many w h - 1) 1 (imgs w h q))
def orbAt (w h q : Nat) (l : List Nat) : Bool := Nat.blt 0 l.length && Nat.ble l.length 8 && Nat.beq (many w h % l.length) 0 && l.any (fun x => Nat.beq x q) && l.all fun x => Nat.blt x (w * h) && decide (orbN w h x = l)
def orbRow (i : Nat) : Bool := (List.range 8).all fun j => upto ((i + 1) * (j + 1)) fun q => orbAt (i + 1) (j + 1) q (orbN (i + 1) (j + 1) q)
theorem orb_row0 : orbRow 0 = true := by decide +kernel
theorem orb_row1 : orbRow 1 = true := by decide +kernel
theorem orb_row2 : orbRow 2 = true := by decide +kernel
theorem orb_row3 : orbRow 3 = true := by decide +kernel
theorem orb_row4 : orbRow 4 = true := by decide +kernel
theorem orb_row5 : orbRow 5 = true := by decide +kernel
theorem orb_row6 : orbRow 6 = true := by decide +kernel
theorem orb_row7 : orbRow 7 = true := by decide +kernel
theorem orb_all : boards (fun w h => upto (w * h) fun q => orbAt w h q (orbN w h q)) = true := by
  unfold boards
  rw [List.all_eq_true]
  intro i hi
  have hi := List.mem_range.1 hi
  have : i = 0 ∨ i = 1 ∨ i = 2 ∨ i = 3 ∨ i = 4 ∨ i = 5 ∨ i = 6 ∨ i = 7 := by omega
  rcases this with rfl | rfl | rfl | rfl | rfl | rfl | rfl | rfl
  · exact orb_row0
  · exact orb_row1
  · exact orb_row2
  · exact orb_row3
  · exact orb_row4
  · exact orb_row5
  · exact orb_row6
  · exact orb_row7
theorem all_all : boards (fun w h => symm_All 1000 w h == some ((List.range (many w h)).map (fun (x : Nat) => (x : Int)), 0)) = true := by decide +kernel
section
variable {w h : Nat} (hb : 1 ≤ w ∧ w ≤ 8 ∧ 1 ≤ h ∧ h ≤ 8)
include hb
theorem image_eq {s q : Nat} (hs : s < many w h) (hq : q < w * h) : symm_image 1000 w h s q = some ((img w h s q : Nat) : Int) := by
  have := upto_at (upto_at (boards_at image_all hb) hs) hq
  simpa using this
theorem orbit_loop {q : Nat} (hq : q < w * h) : ∀ (k j n : Nat), j + k = many w h → k < n →
    symm_Orbit.l0 1000 w h q n ((many w h : Nat) : Int) (j : Int) (em ((List.range j).map fun s => img w h s q)) = some (em (orbN w h q), 0)
  | 0, j, n + 1, hk, hn => by
    have hm := many_val (w := w) (h := h)
    have hl : (imgs w h q).length = many w h := by simp [imgs]
    rw [symm_Orbit.l0_s, symm_Orbit.s0, bif_f (ltI_f (by omega)), show j = many w h by omega]
    show (slices_Sort_int_int' 1000 (em (imgs w h q))).bind _ = _
    rw [sortInt_eq (by omega) _ (by omega) (by omega), Option.bind_some, compact_eq (by omega) _ (by rw [sortN_len]; omega) (by rw [sortN_len]; omega), Option.bind_some, sortN_len, hl]
    rfl
  | k + 1, j, n + 1, hk, hn => by
    have hm := many_val (w := w) (h := h)
    rw [symm_Orbit.l0_s, symm_Orbit.s0, bif_t (ltI_t (by omega)), image_eq hb (by omega) hq, Option.bind_some, chk_of (by unfold capOk; exact decide_eq_true (by simp [em]; omega)), w64_id (by omega) (by omega), show ((j : Int) + 1) = ((j + 1 : Nat) : Int) by omega]
    have := orbit_loop hq k (j + 1) n (by omega) (by omega)
    rw [List.range_succ, List.map_append] at this
    unfold em at this ⊢
    rw [List.map_append] at this
    exact this
end
theorem orb_good {w h q : Nat} (hb : 1 ≤ w ∧ w ≤ 8 ∧ 1 ≤ h ∧ h ≤ 8) (hq : q < w * h) : symm_Orbit 1000 w h q = some (em (orbN w h q), 0) := by
  have hm := many_val (w := w) (h := h)
  have ha := area_le hb
  have hlp := orbit_loop hb hq (many w h) 0 1000 (by omega) (by omega)
  have hc : (w : Int) * (h : Int) = ((w * h : Nat) : Int) := by simp
  have hi : symm_image 1000 w h ((0 : Nat) : Int) q = _ := image_eq hb (by omega) hq
  generalize 1000 = M at *
  have key : symm_Map M w h 0 q = some (((img w h 0 q : Nat) : Int), 0) := by
    unfold symm_Map symm_Map.e symm_check symm_check.e
    rw [check0_good (by omega), Option.bind_some, bif_f (by rfl), bif_f (by rfl), many_eq, Option.bind_some, bif_f (leI_f (by omega)), Option.bind_some, bif_f (by rfl), bif_f (ltI_f (by omega)), hc, w64_id (by omega) (by omega), bif_f (leI_f (by omega))]
    rw [show ((0 : Nat) : Int) = 0 from rfl] at hi
    rw [hi, Option.bind_some]
  unfold symm_Orbit symm_Orbit.e
  rw [key, Option.bind_some, bif_f (by rfl), many_eq, Option.bind_some]
  exact hlp
theorem all_good {w h : Nat} (hb : 1 ≤ w ∧ w ≤ 8 ∧ 1 ≤ h ∧ h ≤ 8) : symm_All 1000 w h = some ((List.range (many w h)).map (fun (x : Nat) => (x : Int)), 0) := by
  have := boards_at all_all hb
  simpa using this
theorem orb_props {w h q : Nat} (hb : 1 ≤ w ∧ w ≤ 8 ∧ 1 ≤ h ∧ h ≤ 8) (hq : q < w * h) : 0 < (orbN w h q).length ∧ (orbN w h q).length ≤ 8 ∧ many w h % (orbN w h q).length = 0 ∧ q ∈ orbN w h q ∧ ∀ x ∈ orbN w h q, x < w * h ∧ orbN w h x = orbN w h q := by
  have := upto_at (boards_at orb_all hb) hq
  unfold orbAt at this
  simp only [Bool.and_eq_true, List.all_eq_true, List.any_eq_true, decide_eq_true_eq] at this
  obtain ⟨⟨⟨⟨h1, h2⟩, h3⟩, x, h4, h4'⟩, h5⟩ := this
  have := Nat.eq_of_beq_eq_true h4'
  subst this
  exact ⟨Nat.le_of_ble_eq_true h1, Nat.le_of_ble_eq_true h2, Nat.eq_of_beq_eq_true h3, h4, fun x hx => ⟨Nat.le_of_ble_eq_true (h5 x hx).1, (h5 x hx).2⟩⟩
theorem index_eq (N : Nat) (l : List Int) (v : Int) (hl : l.length ≤ 100) : ∀ (k j n : Nat), j + k = l.length → k < n → v ∈ l.drop j → ∃ i : Nat, slices_Index_int_int.l0 N l v n (j : Int) = some (i : Int)
  | 0, j, n + 1, hk, hn, hv => by rw [List.drop_of_length_le (by omega)] at hv; cases hv
  | k + 1, j, n + 1, hk, hn, hv => by
    have hj : j < l.length := by omega
    rw [slices_Index_int_int.l0_s, slices_Index_int_int.s0, bif_t (ltI_t (by omega)), chk_of (idx_ok hj), gD_nat hj]
    by_cases h0 : v = l[j]
    · rw [bif_t (eqI_t h0)]; exact ⟨j, rfl⟩
    · rw [bif_f (eqI_f h0), w64_id (by omega) (by omega), show ((j : Int) + 1) = ((j + 1 : Nat) : Int) by omega]
      refine index_eq N l v hl k (j + 1) n (by omega) (by omega) ?_
      rw [List.drop_eq_getElem_cons hj] at hv
      rcases List.mem_cons.1 hv with h | h
      · exact absurd h h0
      · exact h
theorem contains_eq {N : Nat} {l : List Int} {v : Int} (hN : 101 < N) (hl : l.length ≤ 100) (hv : v ∈ l) : slices_Contains_int_int N l v = some true := by
  unfold slices_Contains_int_int slices_Contains_int_int.e slices_Index_int_int slices_Index_int_int.e
  obtain ⟨i, hi⟩ := index_eq N l v hl l.length 0 N (by omega) (by omega) (by rwa [List.drop_zero])
  rw [show ((0 : Nat) : Int) = 0 from rfl] at hi
  rw [hi, Option.bind_some, leI_t (by omega)]
/-- where the board or the square is bad there is no orbit -/
theorem orbit_bad {w h q : Int} (hb : ¬ ((1 ≤ w ∧ w ≤ 8 ∧ 1 ≤ h ∧ h ≤ 8) ∧ 0 ≤ q ∧ q < w * h)) : symm_Orbit 1000 w h q = some ([], 4) := by
  generalize 1000 = M
  have key : symm_Map M w h 0 q = some (0, 4) := by
    unfold symm_Map symm_Map.e symm_check symm_check.e
    by_cases h1 : 1 ≤ w ∧ w ≤ 8 ∧ 1 ≤ h ∧ h ≤ 8
    · obtain ⟨m, hm, hm4⟩ := many0 (N := M) (w := w) (h := h)
      have hwh : w * h ≤ 64 ∧ 1 ≤ w * h := by
        obtain ⟨a, rfl⟩ : ∃ a : Nat, w = a := ⟨w.toNat, by omega⟩
        obtain ⟨c, rfl⟩ : ∃ c : Nat, h = c := ⟨h.toNat, by omega⟩
        have e1 : a * c ≤ 8 * 8 := Nat.mul_le_mul (by omega) (by omega)
        have e2 : 1 * 1 ≤ a * c := Nat.mul_le_mul (by omega) (by omega)
        have e3 : (a : Int) * (c : Int) = ((a * c : Nat) : Int) := by simp
        omega
      rw [check0_good h1, Option.bind_some, bif_f (by rfl), bif_f (by rfl), hm, Option.bind_some, bif_f (leI_f (by omega)), Option.bind_some, bif_f (by rfl)]
      by_cases h2 : q < 0
      · rw [bif_t (ltI_t h2)]
      · rw [bif_f (ltI_f (by omega)), w64_id (by omega) (by omega), bif_t (leI_t (by omega))]
    · rw [check0_bad (s := 0) h1, Option.bind_some, bif_t (by rfl), Option.bind_some, bif_t (by rfl)]
  unfold symm_Orbit symm_Orbit.e
  rw [key, Option.bind_some, bif_t (by rfl)]
theorem some_mem {N : Nat} {l : List Int} (h0 : 0 < l.length) (h8 : l.length ≤ 8) (n : Int) : ∃ x, gamehallkeep1_some_int N l n = some x ∧ x ∈ l := by
  unfold gamehallkeep1_some_int gamehallkeep1_some_int.e
  rw [bif_f (eqI_f (by omega)), bif_f (eqI_f (by omega))]
  have t1 : Int.tmod n (l.length : Int) < l.length := Int.tmod_lt_of_pos n (by omega)
  have t2 : -(l.length : Int) < Int.tmod n (l.length : Int) := by
    by_cases h : 0 ≤ n
    · have := Int.tmod_nonneg (l.length : Int) h
      omega
    · have := Int.tmod_lt_of_pos (-n) (b := (l.length : Int)) (by omega)
      rw [Int.neg_tmod] at this
      omega
  rw [w64_id (by omega) (by omega)]
  have t3 : Int.tmod (Int.tmod n (l.length : Int) + l.length) (l.length : Int) < l.length := Int.tmod_lt_of_pos _ (by omega)
  have t4 : 0 ≤ Int.tmod (Int.tmod n (l.length : Int) + l.length) (l.length : Int) := Int.tmod_nonneg _ (by omega)
  obtain ⟨i, hi⟩ : ∃ i : Nat, Int.tmod (Int.tmod n (l.length : Int) + l.length) (l.length : Int) = i := ⟨_, (Int.toNat_of_nonneg t4).symm⟩
  simp only [hi]
  have hil : i < l.length := by omega
  rw [chk_of (idx_ok hil), gD_nat hil]
  exact ⟨_, rfl, List.getElem_mem hil⟩
theorem symmOrbits_at (w h q n : Int) : gamehallkeep1_SymmOrbits 1000 w h q n = some true := by
  have c1 := orb_good (w := 3) (h := 2) (q := 0) (by omega) (by omega)
  have c3 := all_good (w := 3) (h := 2) (by omega)
  have c2 : orbN 3 2 0 = [0, 2, 3, 5] := by decide +kernel
  have c4 : many 3 2 = 4 := by decide
  rw [c2] at c1
  rw [c4] at c3
  have c1 : symm_Orbit 1000 3 2 0 = some ([0, 2, 3, 5], 0) := c1
  have c3 : symm_All 1000 3 2 = some ([0, 1, 2, 3], 0) := c3
  unfold gamehallkeep1_SymmOrbits gamehallkeep1_SymmOrbits.e
  rw [c1, Option.bind_some, bif_f (by rfl), equal_eq (by simp) (by simp) (by simp), Option.bind_some, bif_f (by simp), c3, Option.bind_some, bif_f (by rfl), bif_f (by rfl)]
  by_cases hg : (1 ≤ w ∧ w ≤ 8 ∧ 1 ≤ h ∧ h ≤ 8) ∧ 0 ≤ q ∧ q < w * h
  · obtain ⟨hb, hq0, hq⟩ := hg
    obtain ⟨w, rfl⟩ : ∃ a : Nat, w = a := ⟨w.toNat, by omega⟩
    obtain ⟨h, rfl⟩ : ∃ a : Nat, h = a := ⟨h.toNat, by omega⟩
    obtain ⟨q, rfl⟩ : ∃ a : Nat, q = a := ⟨q.toNat, by omega⟩
    have hB : 1 ≤ w ∧ w ≤ 8 ∧ 1 ≤ h ∧ h ≤ 8 := ⟨by omega, by omega, by omega, by omega⟩
    have e3 : (w : Int) * (h : Int) = ((w * h : Nat) : Int) := by simp
    have hq' : q < w * h := by omega
    obtain ⟨p1, p2, p3, p4, p5⟩ := orb_props hB hq'
    have hm := many_val (w := w) (h := h)
    obtain ⟨x, hx, hxl⟩ := some_mem (N := 1000) (l := em (orbN w h q)) (by rw [em_len]; exact p1) (by rw [em_len]; exact p2) n
    obtain ⟨x, hx', rfl⟩ := List.mem_map.1 hxl
    obtain ⟨p6, p7⟩ := p5 x hx'
    rw [orb_good hB hq', Option.bind_some, all_good hB, Option.bind_some, bif_f (by rfl)]
    dsimp only
    rw [em_len, bif_f (eqI_f (by omega)), hx, Option.bind_some, orb_good hB p6, Option.bind_some]
    dsimp only
    rw [fine_eq (by simp) (by simp), Option.bind_some, bif_t (by simp), bif_f (eqI_f (by omega)), bif_t (by
      apply eqI_t
      rw [Int.tmod_eq_emod_of_nonneg (by omega), List.length_map, List.length_range]
      exact_mod_cast p3), p7, equal_eq (by rw [em_len]; omega) (by rw [em_len]; omega) (by rw [em_len]; omega), Option.bind_some, bif_t (by simp), contains_eq (N := 1000) (l := em (orbN w h q)) (v := (q : Int)) (by omega) (by rw [em_len]; omega) (List.mem_map.2 ⟨q, p4, rfl⟩)]
    rfl
  · have h6 : ∃ y, symm_All 1000 w h = some y := by
      by_cases hb : 1 ≤ w ∧ w ≤ 8 ∧ 1 ≤ h ∧ h ≤ 8
      · obtain ⟨w, rfl⟩ : ∃ a : Nat, w = a := ⟨w.toNat, by omega⟩
        obtain ⟨h, rfl⟩ : ∃ a : Nat, h = a := ⟨h.toNat, by omega⟩
        exact ⟨_, all_good ⟨by omega, by omega, by omega, by omega⟩⟩
      · generalize 1000 = M
        unfold symm_All symm_All.e
        rw [check0_bad (s := 0) hb, Option.bind_some, bif_t (by rfl)]
        exact ⟨_, rfl⟩
    obtain ⟨y6, h6⟩ := h6
    rw [orbit_bad hg, Option.bind_some, h6, Option.bind_some, bif_t (by rfl)]
    rfl
end Go.Proofs.Ytjmcjiklfhmdlaa.Am
