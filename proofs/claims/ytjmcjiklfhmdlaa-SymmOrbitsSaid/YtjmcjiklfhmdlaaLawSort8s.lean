/- Plain: short rows of whole numbers are sorted and compacted, as functions on naturals that the kernel runs fast. -/
import Derived.Test.YtjmcjiklfhmdlaaLawEquals
import Derived.Test.YtjmcjiklfhmdlaaLawBoardss
set_option linter.unusedVariables false
set_option linter.unusedSimpArgs false
namespace Go.Proofs.Ytjmcjiklfhmdlaa.Am
open Go

def em (l : List Nat) : List Int := l.map fun (x : Nat) => (x : Int)
theorem em_len (l : List Nat) : (em l).length = l.length := by simp [em]
theorem em_set (l : List Nat) (i v : Nat) : (em l).set i (v : Int) = em (l.set i v) := by simp [em]
theorem gD_em {l : List Nat} {i : Nat} : gD (0 : Int) (em l) (i : Int) = ((l.getD i 0 : Nat) : Int) := by
  rw [gD_nat']
  simp only [em, List.getD_eq_getElem?_getD, List.getElem?_map]
  cases l[i]? <;> rfl
/-- an element sinks to its place -/
def insN : Nat → List Nat → List Nat
  | 0, l => l
  | j + 1, l => bif Nat.blt (l.getD (j + 1) 0) (l.getD j 0) then insN j ((l.set (j + 1) (l.getD j 0)).set j (l.getD (j + 1) 0)) else l
theorem insN_len : ∀ j l, (insN j l).length = l.length
  | 0, l => rfl
  | j + 1, l => by
    unfold insN
    cases Nat.blt (l.getD (j + 1) 0) (l.getD j 0)
    · rfl
    · rw [cond_true, insN_len]; simp
def sortN : Nat → Nat → List Nat → List Nat
  | 0, _, l => l
  | k + 1, i, l => sortN k (i + 1) (insN i l)
theorem sortN_len : ∀ k i l, (sortN k i l).length = l.length
  | 0, i, l => rfl
  | k + 1, i, l => by unfold sortN; rw [sortN_len, insN_len]
theorem less_eq {N : Nat} (x y : Int) : cmp_Less_int N x y = some (ltI x y) := by
  unfold cmp_Less_int cmp_Less_int.e cmp_isNaN_int cmp_isNaN_int.e
  rw [eqI_self, Option.bind_some, bif_f (by rfl)]
theorem ltI_nat (a b : Nat) : ltI (a : Int) (b : Int) = Nat.blt a b := by
  by_cases h : a < b
  · rw [ltI_t (by omega)]; exact (Nat.ble_eq_true_of_le h).symm
  · rw [ltI_f (by omega)]
    cases hb : Nat.blt a b with
    | false => rfl
    | true => exact absurd (Nat.le_of_ble_eq_true hb) h
theorem ins_l1 (N : Nat) (d : List Int) (b : Int) (i : Nat) (B : Nat) (V : Option (List Int)) : ∀ (j n : Nat) (l : List Nat), j < l.length → l.length ≤ 12 → j + B + 1 ≤ n →
    (∀ n, B ≤ n → slices_insertionSortOrdered_int'.l0 N d 0 b n (w64 ((i : Int) + 1)) (em (insN j l)) = V) → slices_insertionSortOrdered_int'.l1 N d 0 b n (i : Int) (j : Int) (em l) = V
  | 0, n + 1, l, hj, hl, hn, hV => by
    rw [slices_insertionSortOrdered_int'.l1_s, slices_insertionSortOrdered_int'.s1, bif_f (by rfl)]
    exact hV n (by omega)
  | j + 1, n + 1, l, hj, hl, hn, hV => by
    have hj' : j < l.length := by omega
    rw [slices_insertionSortOrdered_int'.l1_s, slices_insertionSortOrdered_int'.s1, bif_t (ltI_t (by omega)), show w64 (((j + 1 : Nat) : Int) - 1) = (j : Int) by rw [w64_id (by omega) (by omega)]; omega,
      chk_of (idx_ok (by rw [em_len]; exact hj)), chk_of (idx_ok (by rw [em_len]; exact hj')), gD_em, gD_em, less_eq, Option.bind_some, ltI_nat]
    unfold insN at hV
    cases hc : Nat.blt (l.getD (j + 1) 0) (l.getD j 0)
    · rw [hc] at hV
      exact hV n (by omega)
    · rw [hc] at hV
      rw [cond_true, chk_of (idx_ok (by rw [em_len]; exact hj')), chk_of (idx_ok (by rw [em_len]; exact hj)), chk_of (idx_ok (by rw [em_len]; exact hj))]
      simp only [Int.toNat_natCast, em_set]
      rw [chk_of (idx_ok (by rw [em_len]; simpa using hj'))]
      exact ins_l1 N d b i B V j n _ (by simpa using hj') (by simpa using hl) (by omega) hV
theorem sort_l0 (N : Nat) (d : List Int) (m : Nat) (hm : m ≤ 12) : ∀ (k i n : Nat) (l : List Nat), i + k = m → l.length = m → 20 * k + 1 ≤ n → slices_insertionSortOrdered_int'.l0 N d 0 (m : Int) n (i : Int) (em l) = some (em (sortN k i l))
  | 0, i, n + 1, l, hk, hl, hn => by
    rw [slices_insertionSortOrdered_int'.l0_s, slices_insertionSortOrdered_int'.s0, bif_f (ltI_f (by omega))]
    rfl
  | k + 1, i, n + 1, l, hk, hl, hn => by
    rw [slices_insertionSortOrdered_int'.l0_s, slices_insertionSortOrdered_int'.s0, bif_t (ltI_t (by omega))]
    refine ins_l1 N d m i (20 * k + 1) _ i n l (by omega) (by omega) (by omega) fun n hn => ?_
    rw [w64_id (by omega) (by omega), show ((i : Int) + 1) = ((i + 1 : Nat) : Int) by omega]
    exact sort_l0 N d m hm k (i + 1) n _ (by omega) (by rw [insN_len, hl]) hn
theorem insertion_eq {N : Nat} (hN : 300 ≤ N) (l : List Nat) (hl : l.length ≤ 12) (h1 : 1 ≤ l.length) : slices_insertionSortOrdered_int' N (em l) 0 (l.length : Int) = some (em (sortN (l.length - 1) 1 l)) := by
  unfold slices_insertionSortOrdered_int' slices_insertionSortOrdered_int'.e
  rw [show w64 ((0 : Int) + 1) = ((1 : Nat) : Int) by decide]
  exact sort_l0 N _ l.length hl (l.length - 1) 1 N l (by omega) rfl (by omega)
theorem pdq_eq {N : Nat} (hN : 301 ≤ N) (l : List Nat) (hl : l.length ≤ 12) (h1 : 1 ≤ l.length) (limit : Int) : slices_pdqsortOrdered_int' N (em l) 0 (l.length : Int) limit = some (em (sortN (l.length - 1) 1 l)) := by
  obtain ⟨N, rfl⟩ : ∃ m, N = m + 2 := ⟨N - 2, by omega⟩
  rw [slices_pdqsortOrdered_int'_s, slices_pdqsortOrdered_int'.e, slices_pdqsortOrdered_int'.l0_s]
  delta slices_pdqsortOrdered_int'.s0
  dsimp only
  rw [bif_t (c := leI (w64 ((l.length : Int) - 0)) 12) (by rw [w64_id (by omega) (by omega)]; exact leI_t (by omega)), insertion_eq (by omega) l hl h1, Option.bind_some]
theorem bitsLen_ex (N : Nat) {k : Nat} (hk : k ≤ 12) : ∃ v, math_bits_Len N (IntKind.wrap .u64 (k : Int)) = some v := by
  have : k = 0 ∨ k = 1 ∨ k = 2 ∨ k = 3 ∨ k = 4 ∨ k = 5 ∨ k = 6 ∨ k = 7 ∨ k = 8 ∨ k = 9 ∨ k = 10 ∨ k = 11 ∨ k = 12 := by omega
  rcases this with rfl | rfl | rfl | rfl | rfl | rfl | rfl | rfl | rfl | rfl | rfl | rfl | rfl
  · exact ⟨0, by kernel_rfl⟩
  · exact ⟨1, by kernel_rfl⟩
  · exact ⟨2, by kernel_rfl⟩
  · exact ⟨2, by kernel_rfl⟩
  · exact ⟨3, by kernel_rfl⟩
  · exact ⟨3, by kernel_rfl⟩
  · exact ⟨3, by kernel_rfl⟩
  · exact ⟨3, by kernel_rfl⟩
  · exact ⟨4, by kernel_rfl⟩
  · exact ⟨4, by kernel_rfl⟩
  · exact ⟨4, by kernel_rfl⟩
  · exact ⟨4, by kernel_rfl⟩
  · exact ⟨4, by kernel_rfl⟩
theorem sortInt_eq {N : Nat} (hN : 301 ≤ N) (l : List Nat) (hl : l.length ≤ 12) (h1 : 1 ≤ l.length) : slices_Sort_int_int' N (em l) = some (em (sortN (l.length - 1) 1 l)) := by
  unfold slices_Sort_int_int' slices_Sort_int_int'.e
  obtain ⟨v, hv⟩ := bitsLen_ex N hl
  rw [em_len, hv, Option.bind_some, pdq_eq hN l hl h1, Option.bind_some]

/-- equal neighbours are joined: from the first pair on, elements move down -/
def cN1 : Nat → Nat → Nat → List Nat → List Nat
  | 0, _, k, l => l.take k
  | m + 1, j, k, l => bif Nat.beq (l.getD j 0) (l.getD (j - 1) 0) then cN1 m (j + 1) k l else cN1 m (j + 1) (k + 1) (l.set k (l.getD j 0))
def cN0 : Nat → Nat → List Nat → List Nat
  | 0, _, l => l
  | m + 1, k, l => bif Nat.beq (l.getD k 0) (l.getD (k - 1) 0) then cN1 m (k + 1) k l else cN0 m (k + 1) l
theorem eqI_nat (a b : Nat) : eqI (a : Int) (b : Int) = Nat.beq a b := by
  by_cases h : a = b
  · rw [eqI_t (by omega), h, Nat.beq_refl]
  · rw [eqI_f (by omega)]
    cases hb : Nat.beq a b with
    | false => rfl
    | true => exact absurd (Nat.eq_of_beq_eq_true hb) h
theorem compact_l1 (N : Nat) (d : List Int) (s : Nat) : ∀ (m j k n : Nat) (l : List Nat), s + j + m = l.length → k ≤ s + j - 1 → 1 ≤ j → l.length ≤ 12 → m < n → slices_Compact_int_int''.l1 N d n (k : Int) (s : Int) (j : Int) (em l) = some (em (cN1 m (s + j) k l))
  | 0, j, k, n + 1, l, hm, hk, hj, hl, hn => by
    rw [slices_Compact_int_int''.l1_s, slices_Compact_int_int''.s1, em_len, bif_f (ltI_f (by omega)), chk_of (by rw [leI_t (by omega), leI_t (by omega)]; rfl)]
    dsimp only
    rw [chk_of (by rw [leI_t (by omega), leI_t (by simp [em_len]; omega)]; rfl), Int.toNat_natCast]
    have : k ≤ (em l).length := by rw [em_len]; omega
    rw [List.take_append_of_le_length (by simp; omega), List.take_take, Nat.min_self]
    unfold cN1 em
    rw [List.map_take]
  | m + 1, j, k, n + 1, l, hm, hk, hj, hl, hn => by
    rw [slices_Compact_int_int''.l1_s, slices_Compact_int_int''.s1, em_len, bif_t (ltI_t (by omega)), show w64 ((j : Int) - 1) = ((j - 1 : Nat) : Int) by rw [w64_id (by omega) (by omega)]; omega,
      show ((s : Int) + (j : Int)) = ((s + j : Nat) : Int) by omega, show ((s : Int) + ((j - 1 : Nat) : Int)) = ((s + j - 1 : Nat) : Int) by omega,
      chk_of (by rw [leI_t (by omega), ltI_t (by omega)]; rfl), chk_of (by rw [leI_t (by omega), ltI_t (by omega)]; rfl), gD_em, gD_em, eqI_nat]
    rw [show w64 ((j : Int) + 1) = ((j + 1 : Nat) : Int) by rw [w64_id (by omega) (by omega)]; omega]
    unfold cN1
    cases hc : Nat.beq (l.getD (s + j) 0) (l.getD (s + j - 1) 0)
    · rw [Bool.not_false, cond_true, chk_of (by rw [leI_t (by omega), ltI_t (by omega)]; rfl), chk_of (by rw [leI_t (by omega), ltI_t (by omega)]; rfl), show w64 ((k : Int) + 1) = ((k + 1 : Nat) : Int) by rw [w64_id (by omega) (by omega)]; omega, Int.toNat_natCast, em_set]
      exact compact_l1 N d s m (j + 1) (k + 1) n _ (by simp; omega) (by omega) (by omega) (by simpa using hl) (by omega)
    · exact compact_l1 N d s m (j + 1) k n _ (by omega) (by omega) (by omega) hl (by omega)
theorem compact_l0 (N : Nat) (l : List Nat) (hl : l.length ≤ 12) : ∀ (m k n : Nat), k + m = l.length → 1 ≤ k → m + 1 < n → slices_Compact_int_int''.l0 N (em l) n (k : Int) = some (em (cN0 m k l))
  | 0, k, n + 1, hm, hk, hn => by
    rw [slices_Compact_int_int''.l0_s, slices_Compact_int_int''.s0, em_len, bif_f (ltI_f (by omega))]
    rfl
  | m + 1, k, n + 1, hm, hk, hn => by
    rw [slices_Compact_int_int''.l0_s, slices_Compact_int_int''.s0, em_len, bif_t (ltI_t (by omega)), show w64 ((k : Int) - 1) = ((k - 1 : Nat) : Int) by rw [w64_id (by omega) (by omega)]; omega,
      chk_of (by rw [leI_t (by omega), ltI_t (by omega)]; rfl), chk_of (by rw [leI_t (by omega), ltI_t (by omega)]; rfl), gD_em, gD_em, eqI_nat]
    unfold cN0
    cases hc : Nat.beq (l.getD k 0) (l.getD (k - 1) 0)
    · rw [cond_false, cond_false, show w64 ((k : Int) + 1) = ((k + 1 : Nat) : Int) by rw [w64_id (by omega) (by omega)]; omega]
      exact compact_l0 N l hl m (k + 1) n (by omega) (by omega) (by omega)
    · rw [cond_true, cond_true, chk_of (by rw [leI_t (by omega), leI_t (by omega)]; rfl)]
      have := compact_l1 N (em l) k m 1 k n l (by omega) (by omega) (by omega) hl (by omega)
      exact this
theorem compact_eq {N : Nat} (hN : 20 ≤ N) (l : List Nat) (hl : l.length ≤ 12) (h2 : 2 ≤ l.length) : slices_Compact_int_int'' N (em l) = some (em (cN0 (l.length - 1) 1 l)) := by
  unfold slices_Compact_int_int'' slices_Compact_int_int''.e
  rw [em_len, bif_f (ltI_f (by omega))]
  exact compact_l0 N l hl (l.length - 1) 1 N (by omega) (by omega) (by omega)
end Go.Proofs.Ytjmcjiklfhmdlaa.Am
