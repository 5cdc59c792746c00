/- Plain: heaps: their moves, their values, and that the solver finds them. -/
import Derived.Test.YtbnpbnghpbgjiaaLawNimGn
import Derived.Test.YtbnpbnghpbgjiaaLawNimXn
set_option linter.unusedVariables false
set_option linter.unusedSimpArgs false
set_option linter.unusedSectionVars false
namespace Go.Proofs.Ytbnpbnghpbgjiaa.Am
open Go

def okI (s : Int) : Bool := (Lit.int .i64 s).wf
theorem okI_t {s : Int} (h0 : 0 ≤ s) (h1 : s ≤ 100000) : okI s = true := by
  have e1 : IntKind.min .i64 = -9223372036854775808 := by decide
  have e2 : IntKind.max .i64 = 9223372036854775807 := by decide
  show (decide (IntKind.min .i64 ≤ s) && decide (s ≤ IntKind.max .i64)) = true
  rw [e1, e2, decide_eq_true (by omega), decide_eq_true (by omega)]
  rfl
theorem eqDI_eq (a b : Int) : eqDI a b = true ↔ a = b := by unfold eqDI; exact decide_eq_true_iff
theorem int_L (N : Nat) (self : SolT Int Int → Int → Option (Int × SolT Int Int)) (x : SolT Int Int) (s : Int) : ∀ n : Nat, nimsum_solver_int_value.L N self x s n = gL eqDI okI 0 self s n
  | 0 => rfl
  | n + 1 => by
    have ih := int_L N self x s n
    have e : nimsum_solver_int_value.L N self x s (n + 1) = (gS0 eqDI okI 0 self (nimsum_solver_int_value.L N self x s n).2.1 (nimsum_solver_int_value.L N self x s n).2.2 s, gS1 (nimsum_solver_int_value.L N self x s n).1 (nimsum_solver_int_value.L N self x s n).2.1, gS2 eqDI okI (nimsum_solver_int_value.L N self x s n).2.2 s) := rfl
    rw [e, ih]
    rfl
theorem int_V : ∀ N : Nat, nimsum_solver_int_value N = gV eqDI okI 0 nimsum_Heap_Next N
  | 0 => rfl
  | N + 1 => by
    funext x s
    rw [nimsum_solver_int_value_s]
    unfold nimsum_solver_int_value.l0 nimsum_solver_int_value.l1 nimsum_solver_int_value.l2
    rw [int_L, int_V N]
    rfl
theorem value_int (N : Nat) (g s most : Int) : nimsum_Value_int N g s most = gValue eqDI okI 0 nimsum_Heap_Next N g s most := by
  unfold nimsum_Value_int nimsum_Value_int.e gValue
  rw [int_V]

/-! ### a heap -/
def kH (h n : Int) : Nat := if h ≤ 0 then n.toNat else min n.toNat h.toNat
def nxH (h n : Int) : List Int := (List.range (kH h n)).map fun i : Nat => n - 1 - (i : Int)
def grH (h n : Int) : Nat := if h ≤ 0 then n.toNat else n.toNat % (h.toNat + 1)
theorem heap_l0 {N : Nat} {h n : Int} (h0 : 0 ≤ n) (h1 : n ≤ 100) : ∀ (d j fuel : Nat), j + d = kH h n → d < fuel → nimsum_Heap_Next.l0 N h n fuel ((j : Int) + 1) ((List.range j).map fun i : Nat => n - 1 - (i : Int)) = some (nxH h n) := by
  have hk : kH h n ≤ n.toNat := by unfold kH; split <;> omega
  intro d
  induction d with
  | zero =>
    intro j fuel hj hf
    obtain ⟨f, rfl⟩ := nxtS hf
    have hj : j = kH h n := by omega
    rw [nimsum_Heap_Next.l0_s, nimsum_Heap_Next.s0]
    by_cases c : (j : Int) + 1 ≤ n
    · have hh : ¬ h ≤ 0 := by
        intro hh
        unfold kH at hj
        rw [if_pos hh] at hj
        omega
      unfold kH at hj
      rw [if_neg hh] at hj
      rw [bif_t (leI_t c), bif_f (leI_f (by omega)), bif_f (leI_f (by omega))]
      unfold nxH kH
      rw [if_neg hh, hj]
    · rw [bif_f (leI_f (by omega))]
      unfold nxH
      rw [← hj]
  | succ d ih =>
    intro j fuel hj hf
    obtain ⟨f, rfl⟩ := nxtS hf
    have hstep : nimsum_Heap_Next.l0 N h n f (w64 ((j : Int) + 1 + 1)) (((List.range j).map fun i : Nat => n - 1 - (i : Int)) ++ [w64 (n - ((j : Int) + 1))]) = some (nxH h n) := by
      rw [w64_id (x := (j : Int) + 1 + 1) (by omega) (by omega), w64_id (by omega) (by omega), show ((j : Int) + 1 + 1) = (((j + 1 : Nat) : Int) + 1) by omega, show n - ((j : Int) + 1) = n - 1 - (j : Int) by omega]
      have := ih (j + 1) f (by omega) (by omega)
      rw [List.range_succ, List.map_append] at this
      exact this
    have hcap : capOk 8 (((List.range j).map fun i : Nat => n - 1 - (i : Int)).length + ([w64 (n - ((j : Int) + 1))] : List Int).length) = true := by
      unfold capOk
      exact decide_eq_true (by simp only [List.length_map, List.length_range, List.length_singleton]; omega)
    rw [nimsum_Heap_Next.l0_s, nimsum_Heap_Next.s0, bif_t (leI_t (by omega))]
    by_cases c : h ≤ 0
    · rw [bif_t (leI_t c), chk_of hcap]
      exact hstep
    · have hj2 := hj
      unfold kH at hj2
      rw [if_neg c] at hj2
      rw [bif_f (leI_f (by omega)), bif_t (leI_t (by omega)), chk_of hcap]
      exact hstep
theorem heap_next {N : Nat} (hN : 101 ≤ N) {h n : Int} (h0 : 0 ≤ n) (h1 : n ≤ 100) : nimsum_Heap_Next N h n = some (nxH h n) := by
  have hk : kH h n ≤ n.toNat := by unfold kH; split <;> omega
  unfold nimsum_Heap_Next nimsum_Heap_Next.e
  rw [bif_f (ltI_f (by omega))]
  exact heap_l0 h0 h1 (kH h n) 0 N (by omega) (by omega)
theorem nxH_mem {h n t : Int} (h0 : 0 ≤ n) : t ∈ nxH h n ↔ 0 ≤ t ∧ t < n ∧ (h ≤ 0 ∨ n - t ≤ h) := by
  unfold nxH kH
  rw [List.mem_map]
  constructor
  · rintro ⟨i, hi, rfl⟩
    rw [List.mem_range] at hi
    split at hi <;> omega
  · intro ⟨a, b, c⟩
    refine ⟨(n - 1 - t).toNat, ?_, by omega⟩
    rw [List.mem_range]
    split <;> omega
def GoodH (M n : Int) : Prop := 0 ≤ n ∧ n ≤ M
theorem mod_ne {a k m : Nat} (h1 : 1 ≤ k) (h2 : k ≤ m) (h3 : k ≤ a) : (a - k) % (m + 1) ≠ a % (m + 1) := by
  intro e
  have e1 := Nat.div_add_mod a (m + 1)
  have e2 := Nat.div_add_mod (a - k) (m + 1)
  rw [e] at e2
  have e3 : k = (m + 1) * (a / (m + 1)) - (m + 1) * ((a - k) / (m + 1)) := by omega
  rw [← Nat.mul_sub] at e3
  cases hq : a / (m + 1) - (a - k) / (m + 1) with
  | zero => rw [hq] at e3; omega
  | succ q =>
    rw [hq, Nat.mul_succ] at e3
    have : 0 ≤ (m + 1) * q := Nat.zero_le _
    omega
theorem heap_gm {h M : Int} (hM : M ≤ 100) : Gm okI nimsum_Heap_Next h (GoodH M) (nxH h) (grH h) Int.toNat 101 where
  ok s hs := okI_t hs.1 (by have := hs.2; omega)
  nxt s N hs hN := heap_next hN hs.1 (by have := hs.2; omega)
  good s t hs ht := by
    have := (nxH_mem hs.1).1 ht
    have := hs.2
    unfold GoodH
    omega
  rk s t hs ht := by
    have := (nxH_mem hs.1).1 ht
    omega
  len s hs := by
    have h1 := hs.1
    have h2 := hs.2
    unfold nxH kH
    rw [List.length_map, List.length_range]
    split <;> omega
  ne s t hs ht := by
    have h1 := (nxH_mem hs.1).1 ht
    have h2 := hs.1
    unfold grH
    by_cases c : h ≤ 0
    · rw [if_pos c, if_pos c]; omega
    · rw [if_neg c, if_neg c]
      have e : t.toNat = s.toNat - (s - t).toNat := by omega
      rw [e]
      exact mod_ne (by omega) (by omega) (by omega)
  lt s v hs hv := by
    have h2 := hs.1
    unfold grH at hv
    by_cases c : h ≤ 0
    · rw [if_pos c] at hv
      refine ⟨(v : Int), (nxH_mem hs.1).2 (by omega), ?_⟩
      unfold grH
      rw [if_pos c]; omega
    · rw [if_neg c] at hv
      have e1 := Nat.div_add_mod s.toNat (h.toNat + 1)
      have e2 : s.toNat % (h.toNat + 1) < h.toNat + 1 := Nat.mod_lt _ (by omega)
      refine ⟨(((h.toNat + 1) * (s.toNat / (h.toNat + 1)) + v : Nat) : Int), (nxH_mem hs.1).2 (by omega), ?_⟩
      unfold grH
      rw [if_neg c, Int.toNat_natCast, Nat.mul_add_mod, Nat.mod_eq_of_lt (by omega)]
  grB s hs := by
    have h1 := hs.1
    have h2 := hs.2
    unfold grH
    split
    · omega
    · have := Nat.mod_le s.toNat (h.toNat + 1)
      omega
  Bs := by decide
/-- a list of different things that all stand in another one is no longer -/
theorem nodup_len {α : Type} [DecidableEq α] : ∀ (l D : List α), l.Nodup → (∀ x ∈ l, x ∈ D) → l.length ≤ D.length
  | [], _, _, _ => Nat.zero_le _
  | a :: l, D, h, hD => by
    have h3 := List.nodup_cons.1 h
    have ha := hD a (List.mem_cons_self ..)
    have := nodup_len l (D.erase a) h3.2 fun x hx => (List.mem_erase_of_ne (fun e => h3.1 (by rw [← e]; exact hx))).2 (hD x (List.mem_cons_of_mem _ hx))
    rw [List.length_erase_of_mem ha] at this
    have hp := List.length_pos_of_mem ha
    rw [List.length_cons]
    omega
def toI (M : Int) : List Int := (List.range (M.toNat + 1)).map Int.ofNat
theorem toI_len (M : Int) : (toI M).length = M.toNat + 1 := by unfold toI; rw [List.length_map, List.length_range]
theorem toI_mem {M k : Int} (h : GoodH M k) : k ∈ toI M := by
  have h1 := h.1
  have h2 := h.2
  unfold toI
  rw [List.mem_map]
  exact ⟨k.toNat, List.mem_range.2 (by omega), by show ((k.toNat : Nat) : Int) = k; omega⟩
theorem toI_nodup (M : Int) : (toI M).Nodup := by
  unfold toI List.Nodup
  rw [List.pairwise_map]
  exact List.Pairwise.imp (fun h e => h (by exact Int.ofNat.inj e)) List.nodup_range
theorem toI_in {M k : Int} (hM : 0 ≤ M) (h : k ∈ toI M) : GoodH M k := by
  unfold toI at h
  rw [List.mem_map] at h
  obtain ⟨i, hi, rfl⟩ := h
  have := List.mem_range.1 hi
  unfold GoodH
  show 0 ≤ ((i : Nat) : Int) ∧ ((i : Nat) : Int) ≤ M
  omega
/-- the value of a heap, with budget enough -/
theorem heap_value {N : Nat} (hN : 300000 ≤ N) {h n most : Int} (h0 : 0 ≤ n) (h1 : n ≤ 100) (hm : n + 1 ≤ most) (hm2 : most ≤ 20000) : nimsum_Value_int N h n most = some ((grH h n : Int), 0) := by
  rw [value_int]
  rcases gvalue_ok eqDI_eq (heap_gm (h := h) h1) (most := most) ⟨by omega, hm2⟩ (s := n) ⟨h0, Int.le_refl _⟩ (by omega) (N := N) (d0 := 0) (by omega) with ⟨e, _⟩ | ⟨_, l, l1, l2, l3⟩
  · exact e
  · have := nodup_len l (toI n) l1 fun x hx => toI_mem (l2 x hx)
    rw [toI_len] at this
    omega
/-- .. and with too little, where all smaller heaps can be reached -/
theorem heap_bound {N : Nat} (hN : 300000 ≤ N) {n most : Int} (h0 : 0 ≤ n) (h1 : n ≤ 100) (hm : 1 ≤ most) (hm2 : most ≤ n) : nimsum_Value_int N 0 n most = some (0, 17) := by
  rw [value_int]
  rcases gvalue_ok eqDI_eq (heap_gm (h := 0) h1) (most := most) ⟨by omega, by omega⟩ (s := n) ⟨h0, Int.le_refl _⟩ hm (N := N) (d0 := 0) (by omega) with ⟨_, D, d1, d2, d3⟩ | ⟨e, _⟩
  · exfalso
    have := nodup_len (toI n) D (toI_nodup n) fun x hx => by
      have hx := toI_in h0 hx
      by_cases c : x = n
      · rw [c]; exact d2
      · exact d3 n d2 x ((nxH_mem h0).2 ⟨hx.1, by have := hx.2; omega, .inl (Int.le_refl _)⟩)
    rw [toI_len] at this
    omega
  · exact e
theorem tmodP {a : Int} (m : Int) (hm : 1 ≤ m) (hm2 : m ≤ 1000) : 0 ≤ Int.tmod (w64 (Int.tmod a m + m)) m ∧ Int.tmod (w64 (Int.tmod a m + m)) m < m := by
  have h1 := Int.tmod_lt_of_pos a (b := m) (by omega)
  have h2 : -m < Int.tmod a m := Int.lt_tmod_of_pos a (by omega)
  rw [w64_id (by omega) (by omega), Int.tmod_eq_emod_of_nonneg (by omega)]
  exact ⟨Int.emod_nonneg _ (by omega), Int.emod_lt_of_pos _ (by omega)⟩
end Go.Proofs.Ytbnpbnghpbgjiaa.Am
