/- Plain: the list of the squares of a set. -/
import Derived.Test.YtbnpbnghpbgjiaaDoorLawBitsS
set_option linter.unusedVariables false
set_option linter.unusedSimpArgs false
namespace Go.Proofs.YtbnpbnghpbgjiaaDoor.Am
open Go

def low (m : Nat) : Nat := ((tzF (m : Int)).getD 0).toNat
def clr (m : Nat) : Nat := m &&& (m - 1)
theorem low_facts {m : Nat} (h0 : m ≠ 0) (hm : m < 2 ^ 64) : low m < 64 ∧ clr m < m ∧ tzF (m : Int) = some ((low m : Nat) : Int) ∧ Go.bits .and .u64 (m : Int) (IntKind.wrap .u64 ((m : Int) - 1)) = ((clr m : Nat) : Int) ∧ pc m = pc (clr m) + 1 ∧
    m.testBit (low m) = true ∧ (∀ j, j < low m → m.testBit j = false) ∧ (∀ j, (clr m).testBit j = (m.testBit j && decide (j ≠ low m))) := by
  obtain ⟨k, m', h1, h2, h3, h4, h5, h6, h7, h8⟩ := low_cases h0 hm
  have hl : low m = k := by unfold low; rw [h3]; simp
  have hc : clr m = m' := by
    have e : ((m : Int) - 1) = ((m - 1 : Nat) : Int) := by omega
    rw [e, u64_id (by omega) (by omega), bAnd hm (by omega)] at h4
    unfold clr
    omega
  rw [hl, hc]
  exact ⟨h1, h2, h3, h4, h5, h6, h7, h8⟩
def blF : Nat → Nat → List Nat
  | 0, _ => []
  | f + 1, m => if m = 0 then [] else low m :: blF f (clr m)
def bl (m : Nat) : List Nat := blF 64 m
theorem blF_zero : ∀ f : Nat, blF f 0 = []
  | 0 => by rw [blF]
  | f + 1 => by rw [blF, if_pos rfl]
theorem blF_succ {f m : Nat} (h : m ≠ 0) : blF (f + 1) m = low m :: blF f (clr m) := by rw [blF, if_neg h]
theorem blF_facts0 (f : Nat) : (blF f 0).length = pc 0 ∧ (∀ j, j ∈ blF f 0 ↔ (0 : Nat).testBit j = true) ∧ (blF f 0).Pairwise (· < ·) := by
  rw [blF_zero, pc_zero]
  exact ⟨rfl, fun j => by rw [Nat.zero_testBit]; simp, .nil⟩
theorem blF_facts : ∀ (f m : Nat), m < 2 ^ 64 → pc m ≤ f → (blF f m).length = pc m ∧ (∀ j, j ∈ blF f m ↔ m.testBit j = true) ∧ (blF f m).Pairwise (· < ·) := by
  intro f
  induction f with
  | zero =>
    intro m hm hp
    have h0 : m = 0 := by
      apply Classical.byContradiction
      intro h
      have := pc_pos h hm
      omega
    subst h0
    exact blF_facts0 0
  | succ f ih =>
    intro m hm hp
    by_cases h0 : m = 0
    · subst h0
      exact blF_facts0 (f + 1)
    · obtain ⟨h1, h2, h3, h4, h5, h6, h7, h8⟩ := low_facts h0 hm
      obtain ⟨g1, g2, g3⟩ := ih (clr m) (by omega) (by omega)
      rw [blF_succ h0]
      refine ⟨by rw [List.length_cons, g1, h5], fun j => ?_, List.pairwise_cons.2 ⟨fun j hj => ?_, g3⟩⟩
      · rw [List.mem_cons, g2, h8]
        by_cases hj : j = low m
        · subst hj; simp [h6]
        · simp [hj]
      · have hb := (g2 j).1 hj
        rw [h8] at hb
        simp only [Bool.and_eq_true, decide_eq_true_eq] at hb
        apply Nat.lt_of_not_le
        intro hle
        have := h7 j (by omega)
        rw [hb.1] at this
        cases this
theorem bl_facts {m : Nat} (hm : m < 2 ^ 64) : (bl m).length = pc m ∧ (∀ j, j ∈ bl m ↔ m.testBit j = true) ∧ (bl m).Pairwise (· < ·) := blF_facts 64 m hm (pc_le m)
def nI (l : List Nat) : List Int := l.map Int.ofNat
theorem cap8 {n : Nat} (h : n < 1000) : capOk 8 n = true := by unfold capOk; exact decide_eq_true (by omega)
theorem list_l0 {N : Nat} {b : Int} : ∀ (f m n : Nat) (out : List Int), pc m ≤ f → m < 2 ^ 64 → f + 2 ≤ n → out.length + f ≤ 900 → bits_List.l0 N b n (m : Int) out = some (out ++ nI (blF f m)) := by
  intro f
  induction f with
  | zero =>
    intro m n out hp hm hn ho
    have h0 : m = 0 := by
      apply Classical.byContradiction
      intro h
      have := pc_pos h hm
      omega
    subst h0
    obtain ⟨n, rfl⟩ := nxtS (k := 1) (n := n) (by omega)
    obtain ⟨n, rfl⟩ := nxtS (k := 0) (n := n) (by omega)
    rw [bits_List.l0_s, bits_List.s0, bif_t (show eqI ((0 : Nat) : Int) 0 = true from rfl), bits_List.l1_s, bits_List.s1]
    rw [blF_zero]; simp [nI]
  | succ f ih =>
    intro m n out hp hm hn ho
    obtain ⟨n, rfl⟩ := nxtS (k := 1) (n := n) (by omega)
    rw [bits_List.l0_s, bits_List.s0]
    by_cases h0 : m = 0
    · subst h0
      obtain ⟨n, rfl⟩ := nxtS (k := 0) (n := n) (by omega)
      rw [bif_t (show eqI ((0 : Nat) : Int) 0 = true from rfl), bits_List.l1_s, bits_List.s1]
      rw [blF_zero]; simp [nI]
    · obtain ⟨h1, h2, h3, h4, h5, _⟩ := low_facts h0 hm
      have hz : eqI (m : Int) 0 = false := eqI_f (by omega)
      have h := ih (clr m) n (out ++ [((low m : Nat) : Int)]) (by omega) (by omega) (by omega) (by simp; omega)
      rw [hz, h3, h4]
      show (chk (capOk 8 (out.length + 1)) _) = _
      rw [chk_of (cap8 (by omega)), h]
      rw [blF_succ h0]
      simp [nI]
theorem list_eq {N m : Nat} (hN : 100 < N) (hm : m < 2 ^ 64) : bits_List N (m : Int) = some (nI (bl m)) := by
  unfold bits_List bits_List.e
  have h := list_l0 (N := N) (b := (m : Int)) 64 m N [] (pc_le m) hm (by omega) (by simp)
  rw [List.nil_append] at h
  exact h
/-- equal lists are found equal -/
theorem equal_l0 {N : Nat} (l : List Int) (hl : l.length ≤ 900) : ∀ (k j n : Nat), j + k = l.length → k < n → slices_Equal_int_int.l0 N l l n (j : Int) = some true
  | 0, j, n, hj, hn => by
    obtain ⟨n, rfl⟩ := nxtS hn
    rw [slices_Equal_int_int.l0_s, slices_Equal_int_int.s0, bif_f (ltI_f (by omega))]
  | k + 1, j, n, hj, hn => by
    obtain ⟨n, rfl⟩ := nxtS hn
    rw [slices_Equal_int_int.l0_s, slices_Equal_int_int.s0, bif_t (ltI_t (by omega)), chk_of (idx_ok (by omega)), chk_of (idx_ok (by omega)), bif_f (by rw [eqI_self]; rfl), w64_id (by omega) (by omega), show ((j : Int) + 1) = ((j + 1 : Nat) : Int) by omega]
    exact equal_l0 l hl k (j + 1) n (by omega) (by omega)
theorem equal_self {N : Nat} (l : List Int) (hl : l.length ≤ 900) (hN : 1000 < N) : slices_Equal_int_int N l l = some true := by
  unfold slices_Equal_int_int slices_Equal_int_int.e
  rw [bif_f (by rw [eqI_self]; rfl)]
  exact equal_l0 l hl l.length 0 N (by omega) (by omega)
end Go.Proofs.YtbnpbnghpbgjiaaDoor.Am
