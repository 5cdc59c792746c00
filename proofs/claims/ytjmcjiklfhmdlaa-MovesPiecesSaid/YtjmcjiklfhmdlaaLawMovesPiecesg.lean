/- The plain law MovesPieces: the plain function says true at every input. -/
import Derived.Test.YtjmcjiklfhmdlaaLawDog
import Derived.Test.YtjmcjiklfhmdlaaFng1
set_option linter.unusedVariables false
set_option linter.unusedSimpArgs false
set_option linter.unusedSectionVars false
namespace Go.Proofs.Ytjmcjiklfhmdlaa.Am
open Go

def pos1 (c : Int) : Int := if 0 < c then 1 else 0
def cntP : List Int → Int
  | [] => 0
  | c :: l => pos1 c + cntP l
def sumI : List Int → Int
  | [] => 0
  | c :: l => c + sumI l
theorem cntP_set : ∀ (l : List Int) (i : Nat) (v : Int), (h : i < l.length) → cntP (l.set i v) = cntP l - pos1 l[i] + pos1 v
  | [], i, v, h => by simp at h
  | c :: l, 0, v, h => by simp only [List.set_cons_zero, cntP, List.getElem_cons_zero]; omega
  | c :: l, i + 1, v, h => by
    have := cntP_set l i v (by simpa using h)
    simp only [List.set_cons_succ, cntP, List.getElem_cons_succ]; omega
theorem sumI_set : ∀ (l : List Int) (i : Nat) (v : Int), (h : i < l.length) → sumI (l.set i v) = sumI l - l[i] + v
  | [], i, v, h => by simp at h
  | c :: l, 0, v, h => by simp only [List.set_cons_zero, sumI, List.getElem_cons_zero]; omega
  | c :: l, i + 1, v, h => by
    have := sumI_set l i v (by simpa using h)
    simp only [List.set_cons_succ, sumI, List.getElem_cons_succ]; omega
theorem cntP_set' (l : List Int) (i v : Int) (h0 : 0 ≤ i) (h : i < l.length) : cntP (l.set i.toNat v) = cntP l - pos1 (gD 0 l i) + pos1 v := by
  obtain ⟨i, rfl⟩ : ∃ a : Nat, i = a := ⟨i.toNat, by omega⟩
  rw [Int.toNat_natCast, gD_nat (by omega), cntP_set l i v (by omega)]
theorem sumI_set' (l : List Int) (i v : Int) (h0 : 0 ≤ i) (h : i < l.length) : sumI (l.set i.toNat v) = sumI l - gD 0 l i + v := by
  obtain ⟨i, rfl⟩ : ∃ a : Nat, i = a := ⟨i.toNat, by omega⟩
  rw [Int.toNat_natCast, gD_nat (by omega), sumI_set l i v (by omega)]
theorem cntP_le : ∀ l : List Int, 0 ≤ cntP l ∧ cntP l ≤ l.length
  | [] => by simp [cntP]
  | c :: l => by
    have := cntP_le l
    simp only [cntP, List.length_cons, pos1]
    split <;> omega
theorem sumI_le : ∀ l : List Int, handOk l → 0 ≤ sumI l ∧ sumI l ≤ 1000 * l.length
  | [], _ => by simp [sumI]
  | c :: l, h => by
    have := sumI_le l (fun c hc => h c (List.mem_cons_of_mem _ hc))
    have := h c (List.mem_cons_self ..)
    simp only [sumI, List.length_cons]
    omega
def nPieces (p : PosT) : Int := cntP p.1 + sumI (p.2.1.1) + sumI (p.2.1.2)
section
variable (N : Nat) (p : PosT)
theorem pieces_l1_end (n : Nat) (hn : 1 ≤ n) (v : Int) : gamehallkeep1_pieces.l1 N p n v 2 = some v := by
  obtain ⟨n, rfl⟩ := nxt (n := n) (by omega)
  rw [gamehallkeep1_pieces.l1_s, gamehallkeep1_pieces.s1, bif_f (by rfl)]
theorem cpieces_l2 (i : Int) (hd : List Int) (ho : handOk hd) (hl : hd.length ≤ 6) (B : Nat) (R : Int) (hv : ∀ n, B ≤ n → ∀ v, 0 ≤ v → v ≤ 100000 → gamehallkeep1_pieces.l1 N p n v (w64 (i + 1)) = some (v + R)) : ∀ (k j n : Nat) (v : Int), j + k = hd.length → k + B + 1 ≤ n → 0 ≤ v → v + 1000 * k ≤ 100000 →
    gamehallkeep1_pieces.l2 N p n v i hd (hd.length : Int) (j : Int) = some (v + (sumI (hd.drop j) + R))
  | 0, j, n, v, hk, hn, h0, h1 => by
    obtain ⟨n, rfl⟩ := nxt (n := n) (by omega)
    rw [gamehallkeep1_pieces.l2_s, gamehallkeep1_pieces.s2, bif_f (ltI_f (by omega)), hv n (by omega) v h0 (by omega), List.drop_of_length_le (by omega)]
    simp [sumI]
  | k + 1, j, n, v, hk, hn, h0, h1 => by
    obtain ⟨n, rfl⟩ := nxt (n := n) (by omega)
    have hj : j < hd.length := by omega
    have hc := ho hd[j] (List.getElem_mem _)
    have ih := cpieces_l2 i hd ho hl B R hv k (j + 1) n (v + hd[j]) (by omega) (by omega) (by omega) (by omega)
    rw [gamehallkeep1_pieces.l2_s, gamehallkeep1_pieces.s2, bif_t (ltI_t (by omega)), chk_of (idx_ok hj), gD_nat hj, w64_id (x := v + hd[j]) (by omega) (by omega), w64_id (by omega) (by omega), show ((j : Int) + 1) = ((j + 1 : Nat) : Int) by omega, ih, List.drop_eq_getElem_cons hj]
    simp only [sumI]
    congr 1
    omega
theorem cpieces_l1 (h0 : handOk (p.2.1.1)) (h1 : handOk (p.2.1.2)) (l0 : (p.2.1.1).length ≤ 6) (l1 : (p.2.1.2).length ≤ 6) (n : Nat) (hn : 30 ≤ n) (v : Int) (hv0 : 0 ≤ v) (hv : v ≤ 100) : gamehallkeep1_pieces.l1 N p n v 0 = some (v + (sumI (p.2.1.1) + sumI (p.2.1.2))) := by
  have k1 : ∀ n, 15 ≤ n → ∀ v, 0 ≤ v → v ≤ 10000 → gamehallkeep1_pieces.l1 N p n v (w64 (0 + 1)) = some (v + sumI (p.2.1.2)) := fun n hn v hv0 hv => by
    obtain ⟨n, rfl⟩ := nxt (n := n) (by omega)
    rw [show w64 ((0 : Int) + 1) = 1 by decide, gamehallkeep1_pieces.l1_s, gamehallkeep1_pieces.s1, bif_t (by rfl), bif_f (by rfl), bif_t (by rfl)]
    have := cpieces_l2 N p 1 (p.2.1.2) h1 l1 1 0 (fun n hn v _ _ => by rw [show w64 ((1 : Int) + 1) = 2 by decide, pieces_l1_end N p n hn, Int.add_zero]) (p.2.1.2).length 0 n v (by omega) (by omega) hv0 (by omega)
    rw [List.drop_zero, Int.add_zero] at this
    exact this
  obtain ⟨n, rfl⟩ := nxt (n := n) (by omega)
  rw [gamehallkeep1_pieces.l1_s, gamehallkeep1_pieces.s1, bif_t (by rfl), bif_t (by rfl)]
  have k2 : ∀ (k j n : Nat) (v : Int), j + k = (p.2.1.1).length → k + 15 + 1 ≤ n → 0 ≤ v → v + 1000 * k ≤ 10000 → gamehallkeep1_pieces.l2 N p n v 0 (p.2.1.1) ((p.2.1.1).length : Int) (j : Int) = some (v + (sumI ((p.2.1.1).drop j) + sumI (p.2.1.2))) := by
    intro k
    induction k with
    | zero =>
      intro j n v hk hn h0' h1'
      obtain ⟨n, rfl⟩ := nxt (n := n) (by omega)
      rw [gamehallkeep1_pieces.l2_s, gamehallkeep1_pieces.s2, bif_f (ltI_f (by omega)), k1 n (by omega) v h0' (by omega), List.drop_of_length_le (by omega)]
      simp [sumI]
    | succ k ih =>
      intro j n v hk hn h0' h1'
      obtain ⟨n, rfl⟩ := nxt (n := n) (by omega)
      have hj : j < (p.2.1.1).length := by omega
      have hc := h0 (p.2.1.1)[j] (List.getElem_mem _)
      rw [gamehallkeep1_pieces.l2_s, gamehallkeep1_pieces.s2, bif_t (ltI_t (by omega)), chk_of (idx_ok hj), gD_nat hj, w64_id (x := v + (p.2.1.1)[j]) (by omega) (by omega), w64_id (by omega) (by omega), show ((j : Int) + 1) = ((j + 1 : Nat) : Int) by omega, ih (j + 1) n _ (by omega) (by omega) (by omega) (by omega), List.drop_eq_getElem_cons hj]
      simp only [sumI]
      congr 1
      omega
  have := k2 (p.2.1.1).length 0 n v (by omega) (by omega) hv0 (by omega)
  rw [List.drop_zero] at this
  exact this
theorem cpieces_l0 (hl : p.1.length ≤ 64) (R : Int) (hR : ∀ n, 30 ≤ n → ∀ v, 0 ≤ v → v ≤ 100 → gamehallkeep1_pieces.l1 N p n v 0 = some (v + R)) : ∀ (k j n : Nat) (v : Int), j + k = p.1.length → k + 31 ≤ n → 0 ≤ v → v + k ≤ 100 → gamehallkeep1_pieces.l0 N p n v (j : Int) = some (v + (cntP (p.1.drop j) + R))
  | 0, j, n, v, hk, hn, h0, h1 => by
    obtain ⟨n, rfl⟩ := nxt (n := n) (by omega)
    rw [gamehallkeep1_pieces.l0_s, gamehallkeep1_pieces.s0, bif_f (ltI_f (by omega)), hR n (by omega) v h0 (by omega), List.drop_of_length_le (by omega)]
    simp [cntP]
  | k + 1, j, n, v, hk, hn, h0, h1 => by
    obtain ⟨n, rfl⟩ := nxt (n := n) (by omega)
    have hj : j < p.1.length := by omega
    rw [gamehallkeep1_pieces.l0_s, gamehallkeep1_pieces.s0, bif_t (ltI_t (by omega)), chk_of (idx_ok hj), gD_nat hj, w64_id (x := v + 1) (by omega) (by omega), w64_id (by omega) (by omega), show ((j : Int) + 1) = ((j + 1 : Nat) : Int) by omega, cpieces_l0 hl R hR k (j + 1) n v (by omega) (by omega) (by omega) (by omega), cpieces_l0 hl R hR k (j + 1) n (v + 1) (by omega) (by omega) (by omega) (by omega), List.drop_eq_getElem_cons hj]
    simp only [cntP, pos1]
    by_cases c : 0 < p.1[j]
    · rw [bif_t (ltI_t c), if_pos c]; congr 1; omega
    · rw [bif_f (ltI_f (by omega)), if_neg c]; congr 1; omega
end
theorem pieces_eq {N : Nat} (hN : 1000 ≤ N) {r : RulesT} (hr : ROk r) {p : PosT} (hp : POk r p) : gamehallkeep1_pieces N p = some (nPieces p) := by
  have hll := len_le hr hp
  have h0 := hp.h0
  have h1 := hp.h1
  unfold gamehallkeep1_pieces gamehallkeep1_pieces.e
  have := cpieces_l0 N p hll.1 _ (fun n hn v hv0 hv => cpieces_l1 N p hp.o0 hp.o1 (by omega) (by omega) n hn v hv0 hv) p.1.length 0 N 0 (by omega) (by omega) (by omega) (by omega)
  rw [List.drop_zero, show ((0 : Nat) : Int) = 0 from rfl] at this
  rw [this]
  unfold nPieces
  congr 1
  omega
theorem max_l0 (N : Nat) (l : List Int) (hl : l.length ≤ 100) : ∀ (k j n : Nat) (m : Int), j + k = l.length → k < n → Ret (slices_Max_int_int.l0 N l n m (j : Int)) fun v => m ≤ v ∧ (∀ c ∈ l.drop j, c ≤ v) ∧ (v = m ∨ v ∈ l.drop j)
  | 0, j, n, m, hk, hn => by
    obtain ⟨n, rfl⟩ := nxt (n := n) (by omega)
    rw [slices_Max_int_int.l0_s, slices_Max_int_int.s0, bif_f (ltI_f (by omega)), List.drop_of_length_le (by omega)]
    exact Ret.ret ⟨Int.le_refl _, by simp, Or.inl rfl⟩
  | k + 1, j, n, m, hk, hn => by
    obtain ⟨n, rfl⟩ := nxt (n := n) (by omega)
    have hj : j < l.length := by omega
    rw [slices_Max_int_int.l0_s, slices_Max_int_int.s0, bif_t (ltI_t (by omega)), chk_of (idx_ok hj), gD_nat hj, w64_id (by omega) (by omega), show ((j : Int) + 1) = ((j + 1 : Nat) : Int) by omega, List.drop_eq_getElem_cons hj]
    by_cases c : m < l[j]
    · rw [bif_t (ltI_t c)]
      exact (max_l0 N l hl k (j + 1) n l[j] (by omega) (by omega)).mono fun v hv => ⟨by omega, by
        intro c hc
        rcases List.mem_cons.1 hc with rfl | hc
        · exact hv.1
        · exact hv.2.1 c hc, Or.inr (by
        rcases hv.2.2 with h | h
        · rw [h]; exact List.mem_cons_self ..
        · exact List.mem_cons_of_mem _ h)⟩
    · rw [bif_f (ltI_f (by omega))]
      exact (max_l0 N l hl k (j + 1) n m (by omega) (by omega)).mono fun v hv => ⟨hv.1, by
        intro c hc
        rcases List.mem_cons.1 hc with rfl | hc
        · omega
        · exact hv.2.1 c hc, by
        rcases hv.2.2 with h | h
        · exact Or.inl h
        · exact Or.inr (List.mem_cons_of_mem _ h)⟩
theorem max_ret {N : Nat} (hN : 1000 ≤ N) {l : List Int} (h1 : 1 ≤ l.length) (hl : l.length ≤ 100) : Ret (slices_Max_int_int N l) fun v => (∀ c ∈ l, c ≤ v) ∧ v ∈ l := by
  unfold slices_Max_int_int slices_Max_int_int.e
  rw [bif_f (ltI_f (by omega)), chk_of (by rw [ltI_t (by omega)]; rfl)]
  have := max_l0 N l hl (l.length - 1) 1 N (gD 0 l ((0 : Nat) : Int)) (by omega) (by omega)
  rw [gD_nat (by omega)] at this
  rw [show (0 : Int) = ((0 : Nat) : Int) from rfl, gD_nat (by omega)]
  obtain ⟨a, l', rfl⟩ : ∃ a l', l = a :: l' := by
    cases l with
    | nil => simp at h1
    | cons a l' => exact ⟨a, l', rfl⟩
  refine this.mono fun v hv => ⟨?_, ?_⟩
  · intro c hc
    rcases List.mem_cons.1 hc with rfl | hc
    · exact hv.1
    · exact hv.2.1 c hc
  · rcases hv.2.2 with h | h
    · rw [h]; exact List.mem_cons_self ..
    · exact List.mem_cons_of_mem _ h
section
variable {r : RulesT} (hr : ROk r) {p : PosT} (hp : POk r p)
include hr hp
theorem nP_do (m : MvT) : nPieces (doI r p m) - nPieces p = cntP (cells2 p m) - cntP p.1 + (sumI (hand2 r p m) - sumI (handT p)) := by
  unfold nPieces doI setH handT
  by_cases h : p.2.2.1 = 0
  · simp only [if_pos h]; omega
  · simp only [if_neg h]; omega
/-- how many pieces a move loses -/
theorem lost_eq {m : MvT} (hm : MoveOk r p m) : nPieces p - nPieces (doI r p m) = if gD 0 p.1 m.2.1 = 0 then 0 else if r.2.2.2.2.2.2.1 = true ∧ gD 0 (handT p) (kindI (gD 0 p.1 m.2.1)) < 1000 then 0 else 1 := by
  have hll := len_le hr hp
  have hl := hp.len
  have hto := hm.to
  have hpi := hm.piece
  have hd := nP_do hr hp m
  have hlast := hp.last
  have hcc := cell_ok hp hto
  have hp1 : pos1 (2 * m.2.2 + p.2.2.1 + 1) = 1 := by unfold pos1; rw [if_pos (by omega)]
  by_cases hs : m.1 < 0
  · have hz : gD 0 p.1 m.2.1 = 0 := by
      rcases hm.src with h | h
      · exact h.2.1
      · omega
    rw [if_pos hz]
    have e1 : cntP (cells2 p m) = cntP p.1 - pos1 (gD 0 p.1 m.2.1) + 1 := by
      unfold cells2
      rw [if_pos hs, cntP_set' _ _ _ hto.1 (by omega), hp1]
    have e2 : sumI (hand2 r p m) = sumI (handT p) - 1 := by
      unfold hand2 hand1
      rw [if_neg (by simp [hz]), if_pos hs, sumI_set' _ _ _ hpi.1 (by omega)]
      omega
    rw [hz, show pos1 0 = 0 from rfl] at e1
    omega
  · have hsrc : 0 ≤ m.1 ∧ m.1 < r.2.1 * r.2.2.1 ∧ ownI (gD 0 p.1 m.1) = p.2.2.1 := by
      rcases hm.src with h | h
      · omega
      · exact h
    have hne : m.1 ≠ m.2.1 := fun e => hm.own (by rw [← e]; exact hsrc.2.2)
    have hc1 := own_pos hr hp ⟨hsrc.1, hsrc.2.1⟩ hsrc.2.2
    have hg : gD 0 (p.1.set m.1.toNat 0) m.2.1 = gD 0 p.1 m.2.1 := by
      obtain ⟨a, ha⟩ : ∃ a : Nat, m.1 = a := ⟨m.1.toNat, by omega⟩
      obtain ⟨b, hb⟩ : ∃ b : Nat, m.2.1 = b := ⟨m.2.1.toNat, by omega⟩
      rw [ha, hb, gD_nat (by rw [List.length_set]; omega), gD_nat (by omega), Int.toNat_natCast, List.getElem_set_ne (by omega)]
    have e1 : cntP (cells2 p m) = cntP p.1 - pos1 (gD 0 p.1 m.2.1) := by
      unfold cells2
      rw [if_neg hs, cntP_set' _ _ _ hto.1 (by rw [List.length_set]; omega), hp1, cntP_set' _ _ _ hsrc.1 (by omega), hg, show pos1 (gD 0 p.1 m.1) = 1 by unfold pos1; rw [if_pos (by omega)], show pos1 0 = 0 from rfl]
      omega
    by_cases hz : gD 0 p.1 m.2.1 = 0
    · rw [if_pos hz]
      have e2 : hand2 r p m = handT p := by
        unfold hand2 hand1
        rw [if_neg (by simp [hz]), if_neg hs]
      rw [e2] at hd
      rw [hz, show pos1 0 = 0 from rfl] at e1
      omega
    · rw [if_neg hz]
      rw [show pos1 (gD 0 p.1 m.2.1) = 1 by unfold pos1; rw [if_pos (by omega)]] at e1
      have hkk := kind_lt (k := (r.2.2.2.1).length) (show 1 ≤ gD 0 p.1 m.2.1 by omega) hcc.2
      have hb := gD_ok (hand_ok hr hp) hkk.1 (by omega)
      have e2 : sumI (hand2 r p m) = sumI (handT p) + if r.2.2.2.2.2.2.1 = true ∧ gD 0 (handT p) (kindI (gD 0 p.1 m.2.1)) < 1000 then 1 else 0 := by
        unfold hand2 hand1
        rw [if_neg hs]
        by_cases hk : r.2.2.2.2.2.2.1 = true
        · rw [if_pos ⟨hz, hk⟩, sumI_set' _ _ _ hkk.1 (by omega)]
          by_cases h1 : gD 0 (handT p) (kindI (gD 0 p.1 m.2.1)) < 1000
          · rw [if_neg (by omega), if_pos ⟨hk, h1⟩]; omega
          · rw [if_pos (by omega), if_neg (fun h => h1 h.2)]; omega
        · rw [if_neg (fun h => hk h.2), if_neg (fun h => hk h.1)]; omega
      rw [e1, e2] at hd
      split at hd
      · rename_i h; rw [if_pos h]; omega
      · rename_i h; rw [if_neg h]; omega
theorem quiet_eq {m : MvT} (hm : MoveOk r p m) : eqI (doI r p m).2.2.2 0 = (!eqI (gD 0 p.1 m.2.1) 0 || ltI m.1 0) := by
  have hlast := hp.last
  unfold doI
  dsimp only
  by_cases hs : m.1 < 0
  · rw [if_pos (Or.inl hs), ltI_t hs, eqI_self]; simp
  · by_cases hz : gD 0 p.1 m.2.1 = 0
    · rw [if_neg (by simp [hs, hz]), eqI_t hz, ltI_f (by omega), eqI_f (by split <;> omega)]; rfl
    · rw [if_pos (Or.inr hz), eqI_f hz, eqI_self]; rfl
end
theorem bools (v8 k f z : Bool) (d mx : Int) (R : Option Bool) (hR : R = some true) (hd : d = 0 ∨ d = 1) (h1 : d = 1 → v8 = true ∧ (k = true → mx = 1000)) (h2 : v8 = true → k = false → d = 1) (hz : z = (v8 || f)) :
    (bif ltI d 0 then some false else bif ltI 1 d then some false
      else bif (eqI d 1) then (bif (!v8) then some false
        else bif k then (bif (!(eqI mx 1000)) then some false
          else bif v8 then (bif (!k) then (bif (!(eqI d 1)) then some false
              else bif v8 then (bif (!(true == z)) then some false
                else R)
              else bif (!(f == z)) then some false
              else R)
            else bif v8 then (bif (!(true == z)) then some false
              else R)
            else bif (!(f == z)) then some false
            else R)
          else bif v8 then (bif (!(true == z)) then some false
            else R)
          else bif (!(f == z)) then some false
          else R)
        else bif v8 then (bif (!k) then (bif (!(eqI d 1)) then some false
            else bif v8 then (bif (!(true == z)) then some false
              else R)
            else bif (!(f == z)) then some false
            else R)
          else bif v8 then (bif (!(true == z)) then some false
            else R)
          else bif (!(f == z)) then some false
          else R)
        else bif v8 then (bif (!(true == z)) then some false
          else R)
        else bif (!(f == z)) then some false
        else R)
      else bif v8 then (bif (!k) then (bif (!(eqI d 1)) then some false
          else bif v8 then (bif (!(true == z)) then some false
            else R)
          else bif (!(f == z)) then some false
          else R)
        else bif v8 then (bif (!(true == z)) then some false
          else R)
        else bif (!(f == z)) then some false
        else R)
      else bif v8 then (bif (!(true == z)) then some false
        else R)
      else bif (!(f == z)) then some false
      else R) = some true := by
  subst hR
  subst hz
  rcases hd with rfl | rfl
  · rw [show ltI 0 0 = false by rfl, show ltI 1 0 = false by rfl, show eqI 0 1 = false by rfl]
    cases v8 <;> cases k <;> cases f <;> first | rfl | (exfalso; have := h2 rfl rfl; omega)
  · obtain ⟨rfl, h3⟩ := h1 rfl
    rw [show ltI 1 0 = false by rfl, show ltI 1 1 = false by rfl, show eqI 1 1 = true by rfl]
    cases k
    · cases f <;> rfl
    · rw [h3 rfl, show eqI 1000 1000 = true by rfl]
      cases f <;> rfl
section
variable {r : RulesT} (hr : ROk r) {p : PosT} (hp : POk r p) {l : List MvT} (hl : moves_Gen 200000000 r p = some l) (hg : IsGen r p l)
include hr hp hl hg
theorem mpieces_l0 : ∀ (k j n : Nat), j + k = l.length → k < n → gamehallkeep1_MovesPieces.l0 200000000 r p n (l.length : Int) (j : Int) l = some true
  | 0, j, n, hk, hn => by
    obtain ⟨n, rfl⟩ := nxt (n := n) (by omega)
    rw [gamehallkeep1_MovesPieces.l0_s, gamehallkeep1_MovesPieces.s0, bif_f (ltI_f (by omega))]
  | k + 1, j, n, hk, hn => by
    obtain ⟨n, rfl⟩ := nxt (n := n) (by omega)
    have hlen := hg.len
    have hll := len_le hr hp
    have hpos := hr.ps.pos
    have hpl := hp.len
    have hj : j < l.length := by omega
    have ih := mpieces_l0 k (j + 1) n (by omega) (by omega)
    rw [gamehallkeep1_MovesPieces.l0_s]
    generalize hM : 200000000 = M at *
    have hmem : l[j] ∈ l := List.getElem_mem _
    have hmo := cand_ok hr hp ((hg.mem _).1 hmem)
    have hto := hmo.to
    have hdo := do_ok hr hp hmo
    have hlost := lost_eq hr hp hmo
    have hq := quiet_eq hr hp hmo
    have hcc := cell_ok hp hto
    have hld : nPieces p - nPieces (doI r p l[j]) = 0 ∨ nPieces p - nPieces (doI r p l[j]) = 1 := by
      rw [hlost]; split
      · exact Or.inl rfl
      · split
        · exact Or.inl rfl
        · exact Or.inr rfl
    rw [gamehallkeep1_MovesPieces.s0, bif_t (ltI_t (by omega)), chk_of (idx_ok hj), gD_nat hj, after_good (by omega) hr hp hl hg hmem, Option.bind_some, pieces_eq (by omega) hr hp, Option.bind_some, pieces_eq (by omega) hr hdo, Option.bind_some, w64_id (x := (j : Int) + 1) (by omega) (by omega), show ((j : Int) + 1) = ((j + 1 : Nat) : Int) by omega, ih, w64_id (x := nPieces p - nPieces (doI r p l[j])) (by omega) (by omega)]
    have fin : ∀ {hd : List Int} {mx : Int}, hd = handT p → (∀ c ∈ hd, c ≤ mx) → mx ∈ hd → (nPieces p - nPieces (doI r p l[j]) = 1 → (!eqI (gD 0 p.1 l[j].2.1) 0) = true ∧ (r.2.2.2.2.2.2.1 = true → mx = 1000)) ∧ ((!eqI (gD 0 p.1 l[j].2.1) 0) = true → r.2.2.2.2.2.2.1 = false → nPieces p - nPieces (doI r p l[j]) = 1) := by
      intro hd mx he h1 h2
      subst he
      have hmx := hand_ok hr hp mx h2
      constructor
      · intro hd1
        rw [hlost] at hd1
        by_cases hz : gD 0 p.1 l[j].2.1 = 0
        · rw [if_pos hz] at hd1; omega
        · rw [if_neg hz] at hd1
          refine ⟨by rw [eqI_f hz]; rfl, fun hk => ?_⟩
          have hkk := kind_lt (k := (r.2.2.2.1).length) (show 1 ≤ gD 0 p.1 l[j].2.1 by omega) hcc.2
          have := gD_ok (Q := fun c => c ≤ mx) h1 hkk.1 (by omega)
          by_cases h3 : gD 0 (handT p) (kindI (gD 0 p.1 l[j].2.1)) < 1000
          · rw [if_pos ⟨hk, h3⟩] at hd1; omega
          · omega
      · intro hz hk
        rw [hlost, if_neg (by intro e; rw [eqI_t e] at hz; cases hz), if_neg (by rw [hk]; simp)]
    rcases hp.last.1 with ht | ht
    · obtain ⟨mx, hmx, h1, h2⟩ := max_ret (N := M) (by omega) (l := p.2.1.1) (by have := hp.h0; omega) (by have := hp.h0; omega)
      obtain ⟨f1, f2⟩ := fin (by unfold handT; rw [if_pos ht]) h1 h2
      rw [bif_t (eqI_t ht), hmx, Option.bind_some, chk_idx hto.1 (by omega)]
      exact bools _ _ _ _ _ _ _ rfl hld f1 f2 hq
    · obtain ⟨mx, hmx, h1, h2⟩ := max_ret (N := M) (by omega) (l := p.2.1.2) (by have := hp.h1; omega) (by have := hp.h1; omega)
      obtain ⟨f1, f2⟩ := fin (by unfold handT; rw [if_neg (by omega)]) h1 h2
      rw [bif_f (eqI_f (by omega)), bif_t (eqI_t ht), hmx, Option.bind_some, chk_idx hto.1 (by omega)]
      exact bools _ _ _ _ _ _ _ rfl hld f1 f2 hq
end
theorem plays_true' : gamehallkeep1_plays 200000000 = some true := by decide +kernel
theorem movesPieces_at (r : RulesT) (p : PosT) : gamehallkeep1_MovesPieces 200000000 r p = some true := by
  have hpl := plays_true'
  obtain ⟨v, hv, hv0⟩ := pcheck (N := 200000000) (by decide) r p
  unfold gamehallkeep1_MovesPieces gamehallkeep1_MovesPieces.e
  rw [hpl, Option.bind_some, bif_f (by rfl)]
  by_cases h0 : v = 0
  · obtain ⟨hr, hp⟩ := hv0.1 h0
    obtain ⟨l, hl, hg⟩ := gen_ret hr hp (N := 200000000) (Nat.le_refl _)
    rw [all_good (by decide) hr hp hl hg, Option.bind_some, bif_f (by rfl)]
    exact mpieces_l0 hr hp hl hg l.length 0 200000000 (by omega) (by have := hg.len; omega)
  · rw [all_bad hv h0, Option.bind_some, bif_t (by simp [eqI, h0])]
    rfl
end Go.Proofs.Ytjmcjiklfhmdlaa.Am
