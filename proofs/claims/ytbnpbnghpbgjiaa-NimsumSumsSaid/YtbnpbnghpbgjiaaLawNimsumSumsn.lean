/- The plain law NimsumSums: the plain function says true at every input. -/
import Derived.Test.YtbnpbnghpbgjiaaLawNimHn
set_option linter.unusedVariables false
set_option linter.unusedSimpArgs false
namespace Go.Proofs.Ytbnpbnghpbgjiaa.Am
open Go

abbrev PT := Int × Int
def okP (s : PT) : Bool := (Lit.int .i64 s.1).wf && (Lit.int .i64 s.2).wf
abbrev eqP : PT → PT → Bool := eqDP eqDI eqDI
theorem eqP_eq (a b : PT) : eqP a b = true ↔ a = b := by
  show (eqDI a.1 b.1 && eqDI a.2 b.2) = true ↔ _
  rw [Bool.and_eq_true, eqDI_eq, eqDI_eq]
  exact ⟨fun h => Prod.ext h.1 h.2, fun h => by rw [h]; exact ⟨rfl, rfl⟩⟩
theorem pair_L (N : Nat) (self : SolT PT PT → PT → Option (Int × SolT PT PT)) (x : SolT PT PT) (s : PT) : ∀ n : Nat, nimsum_solver_nimsum_Pair_int_int_value.L N self x s n = gL eqP okP (0, 0) self s n
  | 0 => rfl
  | n + 1 => by
    have ih := pair_L N self x s n
    have e : nimsum_solver_nimsum_Pair_int_int_value.L N self x s (n + 1) = (gS0 eqP okP (0, 0) self (nimsum_solver_nimsum_Pair_int_int_value.L N self x s n).2.1 (nimsum_solver_nimsum_Pair_int_int_value.L N self x s n).2.2 s, gS1 (nimsum_solver_nimsum_Pair_int_int_value.L N self x s n).1 (nimsum_solver_nimsum_Pair_int_int_value.L N self x s n).2.1, gS2 eqP okP (nimsum_solver_nimsum_Pair_int_int_value.L N self x s n).2.2 s) := rfl
    rw [e, ih]
    rfl
theorem pair_V : ∀ N : Nat, nimsum_solver_nimsum_Pair_int_int_value N = gV eqP okP (0, 0) nimsum_Both_int_int_Next N
  | 0 => rfl
  | N + 1 => by
    funext x s
    rw [nimsum_solver_nimsum_Pair_int_int_value_s]
    unfold nimsum_solver_nimsum_Pair_int_int_value.l0 nimsum_solver_nimsum_Pair_int_int_value.l1 nimsum_solver_nimsum_Pair_int_int_value.l2
    rw [pair_L, pair_V N]
    rfl
theorem value_pair (N : Nat) (g s : PT) (most : Int) : nimsum_Value_nimsum_Pair_int_int N g s most = gValue eqP okP (0, 0) nimsum_Both_int_int_Next N g s most := by
  unfold nimsum_Value_nimsum_Pair_int_int nimsum_Value_nimsum_Pair_int_int.e gValue
  rw [pair_V]

/-! ### two heaps -/
def nxB (g p : PT) : List PT := (nxH g.1 p.1).map (fun a => (a, p.2)) ++ (nxH g.2 p.2).map (fun b => (p.1, b))
theorem both_l1 {N : Nat} (g p : PT) {m4 : List Int} (hm : m4.length ≤ 1000) : ∀ (k j n : Nat) (out : List PT), j + k = m4.length → k < n → out.length ≤ 1000 + j → nimsum_Both_int_int_Next.l1 N g p n (m4.length : Int) (j : Int) out m4 = some (out ++ (m4.drop j).map (fun b => (p.1, b)))
  | 0, j, n, out, hk, hn, ho => by
    obtain ⟨n, rfl⟩ := nxtS hn
    rw [nimsum_Both_int_int_Next.l1_s, nimsum_Both_int_int_Next.s1, bif_f (ltI_f (by omega)), List.drop_of_length_le (by omega), List.map_nil, List.append_nil]
  | k + 1, j, n, out, hk, hn, ho => by
    obtain ⟨n, rfl⟩ := nxtS hn
    have hj : j < m4.length := by omega
    rw [nimsum_Both_int_int_Next.l1_s, nimsum_Both_int_int_Next.s1, bif_t (ltI_t (by omega)), chk_of (idx_ok hj), gD_nat hj]
    dsimp only
    rw [chk_of (by unfold capOk; exact decide_eq_true (by simp only [List.length_singleton]; omega)), w64_id (by omega) (by omega), show ((j : Int) + 1) = ((j + 1 : Nat) : Int) by omega, both_l1 g p hm k (j + 1) n _ (by omega) (by omega) (by simp; omega), List.drop_eq_getElem_cons hj, List.map_cons, List.append_assoc]
    rfl
theorem both_l0 {N : Nat} (hN : 400 ≤ N) (g p : PT) (h0 : 0 ≤ p.2) (h1 : p.2 ≤ 11) {m2 : List Int} (hm : m2.length ≤ 100) : ∀ (k j n : Nat) (out : List PT), j + k = m2.length → k + 200 < n → out.length ≤ j → nimsum_Both_int_int_Next.l0 N g p n (m2.length : Int) (j : Int) m2 out = some ((out ++ (m2.drop j).map (fun a => (a, p.2))) ++ (nxH g.2 p.2).map (fun b => (p.1, b)))
  | 0, j, n, out, hk, hn, ho => by
    obtain ⟨n, rfl⟩ := nxtS (k := 0) (n := n) (by omega)
    have hl := (heap_gm (h := g.2) (M := 11) (by decide)).len p.2 ⟨h0, h1⟩
    rw [nimsum_Both_int_int_Next.l0_s, nimsum_Both_int_int_Next.s0, bif_f (ltI_f (by omega)), heap_next (by omega) h0 (by omega), Option.bind_some]
    have := both_l1 (N := N) g p (m4 := nxH g.2 p.2) (by omega) (nxH g.2 p.2).length 0 n out (by omega) (by omega) (by omega)
    rw [List.drop_zero] at this
    rw [List.drop_of_length_le (by omega), List.map_nil, List.append_nil]
    exact this
  | k + 1, j, n, out, hk, hn, ho => by
    obtain ⟨n, rfl⟩ := nxtS (k := 0) (n := n) (by omega)
    have hj : j < m2.length := by omega
    rw [nimsum_Both_int_int_Next.l0_s, nimsum_Both_int_int_Next.s0, bif_t (ltI_t (by omega)), chk_of (idx_ok hj), gD_nat hj]
    dsimp only
    rw [chk_of (by unfold capOk; exact decide_eq_true (by simp only [List.length_singleton]; omega)), w64_id (by omega) (by omega), show ((j : Int) + 1) = ((j + 1 : Nat) : Int) by omega, both_l0 hN g p h0 h1 hm k (j + 1) n _ (by omega) (by omega) (by simp; omega), List.drop_eq_getElem_cons hj, List.map_cons]
    simp only [List.append_assoc, List.cons_append, List.nil_append]
theorem both_next {N : Nat} (hN : 400 ≤ N) (g : PT) {p : PT} (h0 : 0 ≤ p.1 ∧ p.1 ≤ 11) (h1 : 0 ≤ p.2 ∧ p.2 ≤ 11) : nimsum_Both_int_int_Next N g p = some (nxB g p) := by
  have hl := (heap_gm (h := g.1) (M := 11) (by decide)).len p.1 ⟨h0.1, h0.2⟩
  have hl2 : (nxH g.1 p.1).length ≤ 100 := by
    unfold nxH kH
    rw [List.length_map, List.length_range]
    split <;> omega
  unfold nimsum_Both_int_int_Next nimsum_Both_int_int_Next.e
  rw [heap_next (by omega) h0.1 (by omega), Option.bind_some]
  have := both_l0 hN g p h1.1 h1.2 (m2 := nxH g.1 p.1) hl2 (nxH g.1 p.1).length 0 N [] (by omega) (by omega) (by simp)
  rw [List.drop_zero, List.nil_append] at this
  exact this
def GoodB (p : PT) : Prop := GoodH 11 p.1 ∧ GoodH 11 p.2
def grB (g p : PT) : Nat := grH g.1 p.1 ^^^ grH g.2 p.2
theorem xor_can {a b c : Nat} (h : a ^^^ c = b ^^^ c) : a = b := by
  have : (a ^^^ c) ^^^ c = (b ^^^ c) ^^^ c := by rw [h]
  rwa [Nat.xor_assoc, Nat.xor_assoc, Nat.xor_self, Nat.xor_zero, Nat.xor_zero] at this
theorem nxB_mem {g p t : PT} : t ∈ nxB g p ↔ (t.1 ∈ nxH g.1 p.1 ∧ t.2 = p.2) ∨ (t.1 = p.1 ∧ t.2 ∈ nxH g.2 p.2) := by
  unfold nxB
  rw [List.mem_append, List.mem_map, List.mem_map]
  constructor
  · rintro (⟨a, ha, rfl⟩ | ⟨b, hb, rfl⟩)
    · exact .inl ⟨ha, rfl⟩
    · exact .inr ⟨rfl, hb⟩
  · obtain ⟨a, b⟩ := t
    rintro (⟨ha, hb⟩ | ⟨ha, hb⟩)
    · have hb : b = p.2 := hb
      subst hb
      exact .inl ⟨a, ha, rfl⟩
    · have ha : a = p.1 := ha
      subst ha
      exact .inr ⟨b, hb, rfl⟩
theorem grH_le {h n : Int} (hn : GoodH 11 n) : grH h n ≤ 11 := by
  have h1 := hn.1
  have h2 := hn.2
  unfold grH
  split
  · omega
  · have := Nat.mod_le n.toNat (h.toNat + 1)
    omega
theorem both_gm (g : PT) : Gm okP nimsum_Both_int_int_Next g GoodB (nxB g) (grB g) (fun p => p.1.toNat + p.2.toNat) 400 where
  ok s hs := by
    have h1 := okI_t hs.1.1 (by have := hs.1.2; omega)
    have h2 := okI_t hs.2.1 (by have := hs.2.2; omega)
    show (okI s.1 && okI s.2) = true
    rw [h1, h2]; rfl
  nxt s N hs hN := both_next (by omega) g hs.1 hs.2
  good s t hs ht := by
    rcases nxB_mem.1 ht with ⟨h1, h2⟩ | ⟨h1, h2⟩
    · exact ⟨(heap_gm (h := g.1) (M := 11) (by decide)).good _ _ hs.1 h1, by rw [h2]; exact hs.2⟩
    · exact ⟨by rw [h1]; exact hs.1, (heap_gm (h := g.2) (M := 11) (by decide)).good _ _ hs.2 h2⟩
  rk s t hs ht := by
    rcases nxB_mem.1 ht with ⟨h1, h2⟩ | ⟨h1, h2⟩
    · have := (heap_gm (h := g.1) (M := 11) (by decide)).rk _ _ hs.1 h1
      show t.1.toNat + t.2.toNat < s.1.toNat + s.2.toNat
      rw [h2]; omega
    · have := (heap_gm (h := g.2) (M := 11) (by decide)).rk _ _ hs.2 h2
      show t.1.toNat + t.2.toNat < s.1.toNat + s.2.toNat
      rw [h1]; omega
  len s hs := by
    have hk : ∀ h n : Int, GoodH 11 n → (nxH h n).length ≤ 11 := by
      intro h n hn
      have h1 := hn.1
      have h2 := hn.2
      unfold nxH kH
      rw [List.length_map, List.length_range]
      split <;> omega
    have h1 := hk g.1 s.1 hs.1
    have h2 := hk g.2 s.2 hs.2
    unfold nxB
    rw [List.length_append, List.length_map, List.length_map]
    omega
  ne s t hs ht e := by
    unfold grB at e
    rcases nxB_mem.1 ht with ⟨h1, h2⟩ | ⟨h1, h2⟩
    · rw [h2] at e
      exact (heap_gm (h := g.1) (M := 11) (by decide)).ne _ _ hs.1 h1 (xor_can e)
    · rw [h1, Nat.xor_comm (grH g.1 s.1), Nat.xor_comm (grH g.1 s.1)] at e
      exact (heap_gm (h := g.2) (M := 11) (by decide)).ne _ _ hs.2 h2 (xor_can e)
  lt s v hs hv := by
    unfold grB at hv
    rcases xor_opt hv with h | h
    · obtain ⟨a, ha, e⟩ := (heap_gm (h := g.1) (M := 11) (by decide)).lt _ _ hs.1 h
      refine ⟨(a, s.2), nxB_mem.2 (.inl ⟨ha, rfl⟩), ?_⟩
      show grH g.1 a ^^^ grH g.2 s.2 = v
      rw [e, Nat.xor_assoc, Nat.xor_self, Nat.xor_zero]
    · obtain ⟨b, hb, e⟩ := (heap_gm (h := g.2) (M := 11) (by decide)).lt _ _ hs.2 h
      refine ⟨(s.1, b), nxB_mem.2 (.inr ⟨rfl, hb⟩), ?_⟩
      show grH g.1 s.1 ^^^ grH g.2 b = v
      rw [e, Nat.xor_comm, Nat.xor_assoc, Nat.xor_self, Nat.xor_zero]
  grB s hs := by
    have h1 := grH_le (h := g.1) hs.1
    have h2 := grH_le (h := g.2) hs.2
    have : grH g.1 s.1 ^^^ grH g.2 s.2 < 2 ^ 4 := Nat.xor_lt_two_pow (by omega) (by omega)
    unfold grB
    omega
  Bs := by decide
def allB : List PT := (toI 11).flatMap fun a => (toI 11).map fun b => (a, b)
theorem allB_mem {p : PT} (h : GoodB p) : p ∈ allB := by
  unfold allB
  rw [List.mem_flatMap]
  exact ⟨p.1, toI_mem h.1, List.mem_map.2 ⟨p.2, toI_mem h.2, rfl⟩⟩
/-- the value of two heaps, with budget enough -/
theorem both_value {N : Nat} (hN : 300000 ≤ N) {g p : PT} (hp : GoodB p) : nimsum_Value_nimsum_Pair_int_int N g p 1000 = some ((grB g p : Int), 0) := by
  rw [value_pair]
  have h1 := hp.1.2
  have h2 := hp.2.2
  rcases gvalue_ok eqP_eq (both_gm g) (most := 1000) (by decide) (s := p) hp (by decide) (N := N) (d0 := (0, 0)) (by omega) with ⟨e, _⟩ | ⟨_, l, l1, l2, l3⟩
  · exact e
  · exfalso
    have := nodup_len l allB l1 fun x hx => allB_mem (l2 x hx)
    have e : allB.length = 144 := by decide +kernel
    omega
theorem pair_three : nimsum_Value_nimsum_Pair_int_int 300000000 (0, 0) (1, 2) 100 = some (3, 0) := by decide +kernel
theorem fine3 : gamehallkeep1_fine 300000000 [0, 0, 0] = some true := by decide +kernel
theorem nimsumSums_at (a b m n : Int) : gamehallkeep1_NimsumSums 300000000 a b m n = some true := by
  have ha := tmodP (a := a) 12 (by decide) (by decide)
  have hb := tmodP (a := b) 12 (by decide) (by decide)
  unfold gamehallkeep1_NimsumSums gamehallkeep1_NimsumSums.e
  rw [pair_three, Option.bind_some, bif_f (by rfl), bif_f (by rfl), summed_true, Option.bind_some, bif_f (by rfl)]
  dsimp only
  generalize Int.tmod (w64 (Int.tmod a 12 + 12)) 12 = x at *
  generalize Int.tmod (w64 (Int.tmod b 12 + 12)) 12 = y at *
  generalize Int.tmod (w64 (Int.tmod m 5 + 5)) 5 = g1
  generalize Int.tmod (w64 (Int.tmod n 5 + 5)) 5 = g2
  have hx : GoodH 11 x := ⟨ha.1, by omega⟩
  have hy : GoodH 11 y := ⟨hb.1, by omega⟩
  have e1 := grH_le (h := g1) hx
  have e2 := grH_le (h := g2) hy
  rw [both_value (by decide) (g := (g1, g2)) (p := (x, y)) ⟨hx, hy⟩, Option.bind_some, heap_value (by decide) hx.1 (by omega) (by omega) (by decide), Option.bind_some, heap_value (by decide) hy.1 (by omega) (by omega) (by decide), Option.bind_some]
  dsimp only
  rw [fine3, Option.bind_some, bif_t rfl, sum_eq (by simp) (by decide), Option.bind_some]
  have hfold : ([(grH g1 x : Int), (grH g2 y : Int)] : List Int).foldl bx 0 = ((grB (g1, g2) (x, y) : Nat) : Int) := by
    have := xl_fold [grH g1 x, grH g2 y] 0 (by decide) (fun b hb => by
      rcases List.mem_cons.1 hb with rfl | hb
      · exact Nat.lt_of_le_of_lt e1 (by decide)
      · have : b = grH g2 y := by simpa using hb
        subst this
        exact Nat.lt_of_le_of_lt e2 (by decide))
    rw [Nat.zero_xor] at this
    have h3 : xl [grH g1 x, grH g2 y] = grB (g1, g2) (x, y) := by
      show grH g1 x ^^^ (grH g2 y ^^^ 0) = grH g1 x ^^^ grH g2 y
      rw [Nat.xor_zero]
    rw [h3] at this
    exact this
  rw [hfold, eqI_self]
end Go.Proofs.Ytbnpbnghpbgjiaa.Am
