/- Plain: the sort of moves sorts, fourth part: the whole. -/
import Derived.Test.YtiacnffpgdikoaaLawSortCm
import Derived.Test.YtiacnffpgdikoaaLawCompactm
set_option linter.unusedVariables false
set_option linter.unusedSimpArgs false
set_option linter.unusedSectionVars false
namespace Go.Proofs.Ytiacnffpgdikoaa.Am
open Go

abbrev SQ (a b : Int) (d : List MvT) (y : List MvT) : Prop := W a b d y ∧ Sd a b y
theorem Lo.sub {a b b' : Int} {d : List MvT} (h : Lo a b d) (hb : b' ≤ b) : Lo a b' d := fun h0 i g1 g2 => h h0 i g1 (by omega)
/-- sorted on both sides of the pivot -/
theorem Sd.join {a b m : Int} {x z : List MvT} (h1 : ∀ k, a ≤ k → k < m → leM (gD z0 x k) (gD z0 x m)) (h2 : ∀ k, m < k → k < b → leM (gD z0 x m) (gD z0 x k)) (e : gD z0 z m = gD z0 x m)
    (l : ∀ i, a ≤ i → i < m → ∃ k, a ≤ k ∧ k < m ∧ gD z0 z i = gD z0 x k) (r : ∀ i, m + 1 ≤ i → i < b → ∃ k, m + 1 ≤ k ∧ k < b ∧ gD z0 z i = gD z0 x k) (sl : Sd a m z) (sr : Sd (m + 1) b z) : Sd a b z := by
  have L : ∀ i, a ≤ i → i < m → leM (gD z0 z i) (gD z0 z m) := fun i g1 g2 => by
    obtain ⟨k, k1, k2, k3⟩ := l i g1 g2
    rw [k3, e]; exact h1 k k1 k2
  have R : ∀ i, m < i → i < b → leM (gD z0 z m) (gD z0 z i) := fun i g1 g2 => by
    obtain ⟨k, k1, k2, k3⟩ := r i (by omega) g2
    rw [k3, e]; exact h2 k (by omega) k2
  intro i j g1 g2 g3
  by_cases c1 : j < m
  · exact sl i j g1 g2 c1
  · by_cases c2 : m < i
    · exact sr i j (by omega) g2 g3
    · by_cases c3 : i = m
      · rw [c3]
        by_cases c4 : j = m
        · rw [c4]; exact leM.refl _
        · exact R j (by omega) g3
      · by_cases c4 : j = m
        · rw [c4]; exact L i g1 (by omega)
        · exact (L i g1 (by omega)).trans (R j (by omega) g3)
section
variable {N : Nat} (hN : 100000000 ≤ N)
include hN
theorem pdTail_S {self : List MvT → Int → Int → Int → Option (List MvT)} {r0 : Int → Int → Int → Bool → Bool → List MvT → Option (List MvT)} {a b : Int} (y : List MvT) (hy : y.length ≤ 8192) (ha : 0 ≤ a) (hab : a < b) (hb : b ≤ y.length)
    (hs : ∀ a' b' l x, a ≤ a' → a' ≤ b' → b' ≤ b → b' - a' < b - a → x.length = y.length → Lo a' b' x → Ret (self x a' b' l) (SQ a' b' x))
    (hr : ∀ a' b' l wB wP x, a ≤ a' → a' ≤ b' → b' ≤ b → b' - a' < b - a → x.length = y.length → Lo a' b' x → Ret (r0 a' b' l wB wP x) (SQ a' b' x))
    (lim : Int) (wB wP : Bool) (hLo : Lo a b y) {p : Int} (hpv : a ≤ p ∧ p < b) : Ret (pdTail N self r0 a b lim wB wP y p) (SQ a b y) := by
  have hpart : Ret ((slices_partitionCmpFunc_api_Move' N y a b p).bind fun y11 =>
    let v12 : Int := (w64 (Int.tdiv (w64 (b - a)) 8))
    bif (ltI (w64 (y11.1 - a)) (w64 (b - y11.1))) then ((self y11.2.2 a y11.1 lim).bind fun y15 =>
      r0 (w64 (y11.1 + 1)) b lim (leI v12 (w64 (y11.1 - a))) y11.2.1 y15)
    else (self y11.2.2 (w64 (y11.1 + 1)) b lim).bind fun y17 =>
    r0 a y11.1 lim (leI v12 (w64 (b - y11.1))) y11.2.1 y17) (SQ a b y) := by
    refine Ret.bnd (parS hN y (by omega) ha hab hb hpv (W.refl _ _ _)) fun y11 h11 => ?_
    obtain ⟨⟨g1, g2⟩, g3, g4, g5⟩ := h11
    have hlx := g3.len
    have hLx : Lo a b y11.2.2 := hLo.W g3 hb
    have e : w64 (y11.1 + 1) = y11.1 + 1 := w64_id (by omega) (by omega)
    simp only [e]
    refine Ret.bif (fun _ => ?_) (fun _ => ?_)
    · refine Ret.bnd (hs a y11.1 _ y11.2.2 (by omega) g1 (by omega) (by omega) hlx (hLx.sub (by omega))) fun y15 h15 => ?_
      obtain ⟨q1, q2⟩ := h15
      have hl15 := q1.len
      have hout : ∀ k, y11.1 ≤ k → k < b → gD z0 y15 k = gD z0 y11.2.2 k := fun k l1 l2 => q1.out k (by omega) (by omega) (by omega)
      refine Ret.mono (hr (y11.1 + 1) b _ _ _ y15 (by omega) (by omega) (by omega) (by omega) (by omega) (fun _ i l1 l2 => by
        rw [show y11.1 + 1 - 1 = y11.1 by omega, hout _ (by omega) (by omega), hout _ (by omega) (by omega)]
        exact g5 i (by omega) l2)) fun z hz => ?_
      obtain ⟨r1, r2⟩ := hz
      have hlz := r1.len
      refine ⟨g3.trans ((q1.mono ha (Int.le_refl _) (by omega) (by omega)).trans (r1.mono ha (by omega) (by omega) (by omega))), ?_⟩
      refine Sd.join g4 (fun k l1 l2 => g5 k l1 l2) ?_ (fun i l1 l2 => ?_) (fun i l1 l2 => ?_) ?_ r2
      · rw [r1.out _ (by omega) (by omega) (by omega), hout _ (by omega) (by omega)]
      · rw [r1.out _ (by omega) (by omega) (by omega)]
        exact q1.sub i l1 l2
      · obtain ⟨k, k1, k2, k3⟩ := r1.sub i l1 l2
        exact ⟨k, k1, k2, by rw [k3, hout _ (by omega) (by omega)]⟩
      · exact q2.out r1 ha (by omega) (Or.inl (by omega))
    · refine Ret.bnd (hs (y11.1 + 1) b _ y11.2.2 (by omega) (by omega) (by omega) (by omega) hlx (fun _ i l1 l2 => by
        rw [show y11.1 + 1 - 1 = y11.1 by omega]
        exact g5 i (by omega) l2)) fun y17 h17 => ?_
      obtain ⟨q1, q2⟩ := h17
      have hl17 := q1.len
      have hout : ∀ k, 0 ≤ k → k ≤ y11.1 → gD z0 y17 k = gD z0 y11.2.2 k := fun k l1 l2 => q1.out k (by omega) (by omega) (by omega)
      refine Ret.mono (hr a y11.1 _ _ _ y17 (by omega) g1 (by omega) (by omega) (by omega) (fun h0 i l1 l2 => by
        rw [hout _ (by omega) (by omega), hout _ (by omega) (by omega)]
        exact hLx h0 i l1 (by omega))) fun z hz => ?_
      obtain ⟨r1, r2⟩ := hz
      have hlz := r1.len
      refine ⟨g3.trans ((q1.mono ha (by omega) (by omega) (by omega)).trans (r1.mono ha (by omega) (by omega) (by omega))), ?_⟩
      refine Sd.join g4 (fun k l1 l2 => g5 k l1 l2) ?_ (fun i l1 l2 => ?_) (fun i l1 l2 => ?_) r2 ?_
      · rw [r1.out _ (by omega) (by omega) (by omega), hout _ (by omega) (by omega)]
      · obtain ⟨k, k1, k2, k3⟩ := r1.sub i l1 l2
        exact ⟨k, k1, k2, by rw [k3, hout _ (by omega) (by omega)]⟩
      · rw [r1.out _ (by omega) (by omega) (by omega)]
        exact q1.sub i l1 l2
      · exact q2.out r1 (by omega) (by omega) (Or.inr (by omega))
  unfold pdTail
  refine Ret.bif (fun c => ?_) (fun _ => hpart)
  rw [ltI_iff] at c
  simp (disch := omega) only [w64_id, chk_idx, cmpM_eq (show 4 ≤ N by omega), Option.bind_some]
  refine Ret.bif (fun c2 => ?_) (fun _ => ?_)
  · rw [not_t, ltI_iff'] at c2
    refine Ret.bnd (equS hN y (by omega) ha hab hb hpv (W.refl _ _ _)) fun y10 h10 => ?_
    obtain ⟨⟨g1, g2⟩, g3, g4, g5⟩ := h10
    have hlx := g3.len
    have hall : ∀ k, a ≤ k → k < b → leM (gD z0 y p) (gD z0 y10.2 k) := g3.all fun k l1 l2 => (show leM (gD z0 y p) (gD z0 y (a - 1)) from Int.not_lt.2 c2).trans (hLo c k l1 l2)
    refine Ret.mono (hr y10.1 b _ _ _ y10.2 (by omega) g2 (by omega) (by omega) hlx (fun _ i l1 l2 => (g4 (y10.1 - 1) (by omega) (by omega)).trans (leM.of_lt (g5 i l1 l2)))) fun z hz => ?_
    obtain ⟨r1, r2⟩ := hz
    have hout : ∀ k, 0 ≤ k → k < y10.1 → gD z0 z k = gD z0 y10.2 k := fun k l1 l2 => r1.out k (by omega) (by omega) (by omega)
    refine ⟨g3.trans (r1.mono ha (by omega) (by omega) (by omega)), fun i j l1 l2 l3 => ?_⟩
    by_cases c3 : j < y10.1
    · rw [hout _ (by omega) (by omega), hout _ (by omega) c3]
      exact (g4 i l1 (by omega)).trans (hall j (by omega) l3)
    · by_cases c4 : i < y10.1
      · rw [hout _ (by omega) c4]
        obtain ⟨k, k1, k2, k3⟩ := r1.sub j (by omega) l3
        rw [k3]
        exact (g4 i l1 c4).trans (leM.of_lt (g5 k k1 k2))
      · exact r2 i j (by omega) l2 l3
  · have := hpart
    simpa (disch := omega) only [w64_id] using this
theorem pdqS_l0 {d0 : List MvT} {a0 b0 l0 : Int} {self : List MvT → Int → Int → Int → Option (List MvT)} {K : Int} {L : Nat} (hL : L ≤ 8192)
    (hs : ∀ (a' b' l : Int) (x : List MvT), 0 ≤ a' → a' ≤ b' → b' ≤ (L : Int) → b' - a' < K → x.length = L → Lo a' b' x → Ret (self x a' b' l) (SQ a' b' x)) :
    ∀ (m n : Nat) (a b lim : Int) (wB wP : Bool) (d : List MvT), b - a ≤ m → b - a ≤ K → 0 ≤ a → a ≤ b → b ≤ (L : Int) → m + 1 ≤ n → d.length = L → Lo a b d → Ret (slices_pdqsortCmpFunc_api_Move'.l0 N self d0 a0 b0 l0 n a b lim wB wP d) (SQ a b d) := by
  intro m
  induction m using Nat.strongRecOn with
  | _ m ih =>
  intro n a b lim wB wP d hm hK ha hab hb hn hl hLo
  obtain ⟨n, rfl⟩ : ∃ q, n = q + 1 := ⟨n - 1, by omega⟩
  have hp := W.refl a b d
  have hb : b ≤ d.length := by omega
  rw [slices_pdqsortCmpFunc_api_Move'.l0_s, slices_pdqsortCmpFunc_api_Move'.s0]
  refine Ret.bif (fun c => Ret.bnd (insS (by omega) d (by omega) ha hab hb (by rw [leI_iff, w64_id (by omega) (by omega)] at c; exact c) (by omega) hp) fun y hy => Ret.ret hy) (fun c => ?_)
  rw [leI_iff', w64_id (by omega) (by omega)] at c
  have hab' : a < b := by omega
  refine Ret.bif (fun _ => Ret.bnd (heapS (by omega) d (by omega) ha hab' hb hp) fun y hy => Ret.ret hy) (fun _ => ?_)
  have tail : ∀ (lim : Int) (wB wP : Bool) {y : List MvT}, W a b d y → ∀ {p : Int}, (a ≤ p ∧ p < b) → Ret (pdTail N self (slices_pdqsortCmpFunc_api_Move'.l0 N self d0 a0 b0 l0 n) a b lim wB wP y p) (SQ a b d) := fun lim wB wP y hy p hpv => by
    have hly := hy.len
    refine Ret.mono (pdTail_S hN y (by omega) ha hab' (by omega) (fun a' b' l x h1 h2 h3 h4 h5 h6 => hs a' b' l x (by omega) h2 (by omega) (by omega) (by omega) h6) (fun a' b' l wB wP x h1 h2 h3 h4 h5 h6 => ih (b' - a').toNat (by omega) n a' b' l wB wP x (by omega) (by omega) (by omega) h2 (by omega) (by omega) (by omega) h6) lim wB wP (hLo.W hy hb) hpv) fun z hz => ⟨hy.trans hz.1, hz.2⟩
  have piv : ∀ {y : List MvT}, W a b d y → Ret (slices_choosePivotCmpFunc_api_Move N y a b) fun z => a ≤ z.1 ∧ z.1 < b := fun hy => pivotM (by omega) d (by omega) hy.len ha (by omega) hb
  have rev : ∀ {y : List MvT}, W a b d y → Ret (slices_reverseRangeCmpFunc_api_Move' N y a b) (W a b d) := fun hy => reverseS d (by omega) (by omega) ha hab' hb hy
  have prt : ∀ {y : List MvT}, W a b d y → Ret (slices_partialInsertionSortCmpFunc_api_Move' N y a b) (SdB a b d) := fun hy => partS hN d (by omega) ha hab' hb hLo hy
  have v7 : ∀ z : Int, a ≤ z ∧ z < b → w64 (w64 (b - 1) - w64 (z - a)) = b - 1 - (z - a) := fun z hz => by
    rw [w64_id (x := b - 1) (by omega) (by omega), w64_id (x := z - a) (by omega) (by omega), w64_id (by omega) (by omega)]
  refine Ret.bif (fun _ => ?_) (fun _ => ?_)
  · refine Ret.bnd (breakS hN d (by omega) ha hab hb hp) fun y4 h4 => ?_
    refine Ret.bnd (piv h4) fun y5 h5 => ?_
    refine Ret.bif (fun _ => ?_) (fun _ => ?_)
    · refine Ret.bnd (rev h4) fun y6 h6 => ?_
      simp only [v7 y5.1 h5]
      refine Ret.bif (fun _ => Ret.bif (fun _ => Ret.bnd (prt h6) fun y8 h8 => Ret.bif (fun f => Ret.ret ⟨h8.1, h8.2 f⟩) (fun _ => ?_)) (fun _ => ?_)) (fun _ => ?_)
      · exact tail _ _ _ h8.1 (by omega)
      · exact tail _ _ _ h6 (by omega)
      · exact tail _ _ _ h6 (by omega)
    · refine Ret.bif (fun _ => Ret.bif (fun _ => Ret.bif (fun _ => Ret.bnd (prt h4) fun y8 h8 => Ret.bif (fun f => Ret.ret ⟨h8.1, h8.2 f⟩) (fun _ => ?_)) (fun _ => ?_)) (fun _ => ?_)) (fun _ => ?_)
      · exact tail _ _ _ h8.1 h5
      · exact tail _ _ _ h4 h5
      · exact tail _ _ _ h4 h5
      · exact tail _ _ _ h4 h5
  · refine Ret.bnd (piv hp) fun y5 h5 => ?_
    refine Ret.bif (fun _ => ?_) (fun _ => ?_)
    · refine Ret.bnd (rev hp) fun y6 h6 => ?_
      simp only [v7 y5.1 h5]
      refine Ret.bif (fun _ => Ret.bif (fun _ => Ret.bnd (prt h6) fun y8 h8 => Ret.bif (fun f => Ret.ret ⟨h8.1, h8.2 f⟩) (fun _ => ?_)) (fun _ => ?_)) (fun _ => ?_)
      · exact tail _ _ _ h8.1 (by omega)
      · exact tail _ _ _ h6 (by omega)
      · exact tail _ _ _ h6 (by omega)
    · refine Ret.bif (fun _ => Ret.bif (fun _ => Ret.bif (fun _ => Ret.bnd (prt hp) fun y8 h8 => Ret.bif (fun f => Ret.ret ⟨h8.1, h8.2 f⟩) (fun _ => ?_)) (fun _ => ?_)) (fun _ => ?_)) (fun _ => ?_)
      · exact tail _ _ _ h8.1 h5
      · exact tail _ _ _ hp h5
      · exact tail _ _ _ hp h5
      · exact tail _ _ _ hp h5
end
theorem pdqS {L : Nat} (hL : L ≤ 8192) : ∀ (k N : Nat) (d : List MvT) (a b lim : Int), b - a ≤ k → 100000000 + k < N → 0 ≤ a → a ≤ b → b ≤ (L : Int) → d.length = L → Lo a b d → Ret (slices_pdqsortCmpFunc_api_Move' N d a b lim) (SQ a b d) := by
  intro k
  induction k using Nat.strongRecOn with
  | _ k ih =>
  intro N d a b lim hk hN ha hab hb hl hLo
  obtain ⟨N, rfl⟩ : ∃ q, N = q + 1 := ⟨N - 1, by omega⟩
  rw [slices_pdqsortCmpFunc_api_Move'_s, slices_pdqsortCmpFunc_api_Move'.e]
  refine pdqS_l0 (by omega) hL (K := b - a) (fun a' b' l x h1 h2 h3 h4 h5 h6 => ?_) (b - a).toNat N a b lim true true d (by omega) (Int.le_refl _) ha hab hb (by omega) hl hLo
  exact ih (b' - a').toNat (by omega) N x a' b' l (by omega) (by omega) h1 h2 h3 h5 h6
/-- the sort of moves sorts -/
theorem sortS {N : Nat} (hN : 200000000 ≤ N) (d : List MvT) (hd : d.length ≤ 8192) : Ret (slices_SortFunc_api_Move_api_Move' N d) fun y => y.Perm d ∧ Sd 0 (d.length : Int) y := by
  unfold slices_SortFunc_api_Move_api_Move' slices_SortFunc_api_Move_api_Move'.e
  have lo : Lo 0 (d.length : Int) d := fun h => by omega
  by_cases h0 : d.length = 0
  · obtain rfl := List.length_eq_zero_iff.1 h0
    obtain ⟨v, hv⟩ : ∃ v, math_bits_Len N (IntKind.wrap .u64 (([] : List MvT).length : Int)) = some v := ⟨0, by kernel_rfl⟩
    rw [hv, Option.bind_some]
    exact Ret.bnd (pdqS (L := 0) (by omega) 0 N [] 0 _ v (by simp) (by omega) (by omega) (by simp) (by simp) rfl lo) fun y hy => Ret.ret ⟨hy.1.pm, hy.2⟩
  · obtain ⟨v, hv, _⟩ := bitsLen_le N (k := d.length) (by omega) hd
    rw [hv, Option.bind_some]
    exact Ret.bnd (pdqS hd d.length N d 0 _ v (by omega) (by omega) (by omega) (by omega) (Int.le_refl _) rfl lo) fun y hy => Ret.ret ⟨hy.1.pm, hy.2⟩
end Go.Proofs.Ytiacnffpgdikoaa.Am
