/- Plain: the moves of a position: all candidates, sorted, each once. -/
import Derived.Test.YtfihdjjilofklaaGreatLawAlongp
import Derived.Test.YtfihdjjilofklaaGreatLawSortM5p
set_option linter.unusedVariables false
set_option linter.unusedSimpArgs false
set_option linter.unusedSectionVars false
namespace Go.Proofs.YtfihdjjilofklaaGreat.Am
open Go
def lowB (r : RulesT) (p : PosT) : Nat → Int → Bool
 | 0, _ => true
 | k + 1, low => bif leI 0 low then (bif eqI (gD 0 p.1 low) 0 then false else lowB r p k (low - r.2.1)) else true
def openB (r : RulesT) (p : PosT) (s : Int) : Bool := eqI (gD 0 p.1 s) 0 && (bif r.2.2.2.2.2.1 then lowB r p 65 (s - r.2.1) else true)
def putsS (r : RulesT) (p : PosT) (t : Int) : Nat → Nat → List MvT
 | 0, _ => []
 | k + 1, j => (bif openB r p j then [((-1 : Int), ((j : Int), t))] else []) ++ putsS r p t k (j + 1)
def putsH (r : RulesT) (p : PosT) (hand : List Int) : Nat → Nat → List MvT
 | 0, _ => []
 | k + 1, j => (bif ltI 0 (gD 0 hand j) then putsS r p j p.1.length 0 else []) ++ putsH r p hand k (j + 1)
def wayL (r : RulesT) (p : PosT) (s : Int) (w : WayT) : List MvT :=
 alongL r p s (kindI (gD 0 p.1 s)) w.1 (if p.2.2.1 = 1 then - w.2.1 else w.2.1) w.2.2.2 w.2.2.1.toNat (s % r.2.1) (s / r.2.1)
def walks (r : RulesT) (p : PosT) : Nat → Nat → List MvT
 | 0, _ => []
 | k + 1, j => (if ownI (gD 0 p.1 j) = p.2.2.1 then (gD zP (r.2.2.2.1) (kindI (gD 0 p.1 j))).2.2.2.flatMap (wayL r p j) else []) ++ walks r p k (j + 1)
def handT (p : PosT) : List Int := if p.2.2.1 = 0 then p.2.1.1 else p.2.1.2
def cand (r : RulesT) (p : PosT) : List MvT := putsH r p (handT p) (handT p).length 0 ++ walks r p p.1.length 0
theorem along_len (r : RulesT) (p : PosT) (f k dx dy t : Int) : ∀ (n : Nat) (x y : Int), (alongL r p f k dx dy t n x y).length ≤ n
 | 0, x, y => Nat.le_refl _
 | n + 1, x, y => by
  unfold alongL
  split
  ·simp
  ·have := along_len r p f k dx dy t n (x + dx) (y + dy)
   rw [List.length_append]
   split <;> split <;> simp <;> omega
theorem putsS_len (r : RulesT) (p : PosT) (t : Int) : ∀ (k j : Nat), (putsS r p t k j).length ≤ k
 | 0, j => Nat.le_refl _
 | k + 1, j => by
  unfold putsS
  have := putsS_len r p t k (j + 1)
  rw [List.length_append]
  cases openB r p j <;> simp <;> omega
section
variable {r : RulesT} (hr : ROk r) {p : PosT} (hp : POk r p)
include hr hp
theorem len_le : p.1.length ≤ 64 ∧ (handT p).length = (r.2.2.2.1).length ∧ (r.2.2.2.1).length ≤ 6 := by
 have h1 := area_le' hr.b
 have h2 := hp.len
 refine ⟨by omega, ?_, hr.ps.le⟩
 unfold handT
 split
 ·exact hp.h0
 ·exact hp.h1
theorem low_eq (N : Nat) (s : Int) : ∀ (k n : Nat) (low : Int), low < k → low < 64 → low < p.1.length → k < n → Q56.l0 N r p s n low = some (lowB r p k low)
 | 0, n, low, h1, h2, h3, hn => by
  obtain ⟨n, rfl⟩ := nxt (n := n) (by omega)
  rw [Q56.l0_s, Q56.s0, bif_f (leI_f (by omega))]; rfl
 | k + 1, n, low, h1, h2, h3, hn => by
  obtain ⟨n, rfl⟩ := nxt (n := n) (by omega)
  have hb := hr.b
  rw [Q56.l0_s, Q56.s0, lowB]
  by_cases c : 0 ≤ low
  ·rw [bif_t (leI_t c), bif_t (leI_t c), chk_idx c h3]
   by_cases c2 : gD 0 p.1 low = 0
   ·rw [bif_t (eqI_t c2), bif_t (eqI_t c2)]
   ·rw [bif_f (eqI_f c2), bif_f (eqI_f c2), w64_id (by omega) (by omega)]
    exact low_eq N s k n (low - r.2.1) (by omega) (by omega) (by omega) (by omega)
  ·rw [bif_f (leI_f (by omega)), bif_f (leI_f (by omega))]
theorem open_eq {N : Nat} (hN : 1000 ≤ N) {s : Int} (h0 : 0 ≤ s) (h1 : s < p.1.length) : Q56 N r p s = some (openB r p s) := by
 have hb := hr.b
 have hl := len_le hr hp
 unfold Q56 Q56.e openB
 rw [chk_idx h0 h1, w64_id (by omega) (by omega), low_eq hr hp N s 65 N (s - r.2.1) (by omega) (by omega) (by omega) (by omega)]
 cases eqI (gD 0 p.1 s) 0 <;> cases r.2.2.2.2.2.1 <;> rfl
def finG (N : Nat) (out : List MvT) : Option (List MvT) := (Q59 N out).bind fun y => Q61 N y
theorem gen_l3 (N : Nat) (hN : 1000 ≤ N) {s : Nat} (hs : s < p.1.length) (hc : 1 ≤ gD 0 p.1 s) (ways : List WayT) (hw : ways.length ≤ 16) (hwo : ∀ w ∈ ways, wayOk w) (B L : Nat) (hL : L ≤ 90000) (E : List MvT → Option (List MvT))
  (hB : ∀ n, B ≤ n → ∀ out, out.length ≤ L → Q33.l2 N r p n (w64 ((s : Int) + 1)) out = E out) : ∀ (k j n : Nat) (out : List MvT), j + k = ways.length → B + k + 1 ≤ n → out.length + 7 * k ≤ L →
  Q33.l3 N r p n s s ways (ways.length : Int) (j : Int) out = E (out ++ (ways.drop j).flatMap (wayL r p s))
 | 0, j, n, out, hk, hn, ho => by
  obtain ⟨n, rfl⟩ := nxt (n := n) (by omega)
  rw [Q33.l3_s, Q33.s3, bif_f (ltI_f (by omega)), List.drop_of_length_le (by omega), hB n (by omega) out (by omega)]
  simp
 | k + 1, j, n, out, hk, hn, ho => by
  obtain ⟨n, rfl⟩ := nxt (n := n) (by omega)
  have hj : j < ways.length := by omega
  have hl := hp.len
  have hwj := hwo ways[j] (List.getElem_mem _)
  rw [Q33.l3_s, Q33.s3, bif_t (ltI_t (by omega)), chk_of (idx_ok hj), gD_nat hj, along_eq hr hp hN out (by omega) ways[j] hwj hc (by omega), ob, w64_id (by omega) (by omega), show ((j : Int) + 1) = ((j + 1 : Nat) : Int) by omega]
  have h7 : (wayL r p s ways[j]).length ≤ 7 := Nat.le_trans (along_len ..) (by omega)
  have ih := gen_l3 N hN hs hc ways hw hwo B L hL E hB k (j + 1) n (out ++ wayL r p s ways[j]) (by omega) (by omega) (by rw [List.length_append]; omega)
  rw [List.drop_eq_getElem_cons hj, List.flatMap_cons, ← List.append_assoc]
  exact ih
theorem gen_l2 (N : Nat) (hN : 1000 ≤ N) : ∀ (k j n : Nat) (out : List MvT), j + k = p.1.length → 18 * k + 1 ≤ n → out.length + 112 * k ≤ 90000 →
  Q33.l2 N r p n (j : Int) out = finG N (out ++ walks r p k j)
 | 0, j, n, out, hk, hn, ho => by
  obtain ⟨n, rfl⟩ := nxt (n := n) (by omega)
  rw [Q33.l2_s, Q33.s2, bif_f (ltI_f (by omega))]
  unfold finG walks
  rw [List.append_nil]
  cases Q59 N out with
  | none => rfl
  | some y =>
   show (Q61 N y).bind _ = Q61 N y
   cases Q61 N y <;> rfl
 | k + 1, j, n, out, hk, hn, ho => by
  obtain ⟨n, rfl⟩ := nxt (n := n) (by omega)
  have hj : j < p.1.length := by omega
  have hl := hp.len
  have hll := len_le hr hp
  have hc := cell_ok hp (s := j) (by omega)
  have ih := fun (n : Nat) (hn : 18 * k + 1 ≤ n) (out' : List MvT) (h : out'.length ≤ 90000 - 112 * k) => gen_l2 N hN k (j + 1) n out' (by omega) hn (by omega)
  rw [Q33.l2_s, Q33.s2, bif_t (ltI_t (by omega)), chk_of (idx_ok hj), owner_eq hc.1 (by omega), ob, walks]
  by_cases ho1 : ownI (gD 0 p.1 j) = p.2.2.1
  ·have hc1 : 1 ≤ gD 0 p.1 j := by
    have := own_cases hc.1
    have := hp.last.1
    omega
   have hkk := kind_lt hc1 hc.2
   have hpo := piece_ok hr hkk
   rw [bif_t (eqI_t ho1), if_pos ho1, kind_eq hc1 (by omega), ob, chk_idx hkk.1 hkk.2]
   have h3 := gen_l3 hr hp N hN hj hc1 (gD zP (r.2.2.2.1) (kindI (gD 0 p.1 j))).2.2.2 (by omega) hpo.2.2 (18 * k + 1) (90000 - 112 * k) (by omega) (fun out => finG N (out ++ walks r p k (j + 1))) (fun n hn out h => by
    rw [w64_id (by omega) (by omega), show ((j : Int) + 1) = ((j + 1 : Nat) : Int) by omega]
    exact ih n hn out h) (gD zP (r.2.2.2.1) (kindI (gD 0 p.1 j))).2.2.2.length 0 n out (by omega) (by omega) (by omega)
   rw [List.drop_zero, List.append_assoc] at h3
   exact h3
  ·rw [bif_f (eqI_f ho1), if_neg ho1, w64_id (by omega) (by omega), show ((j : Int) + 1) = ((j + 1 : Nat) : Int) by omega, ih n (by omega) out (by omega), List.nil_append]
theorem gen_l1 (N : Nat) (hN : 1000 ≤ N) (hand : List Int) (t : Nat) (ht : t < hand.length) (hh : hand.length ≤ 6) (nn : Int) (B L : Nat) (hL : L ≤ 90000) (E : List MvT → Option (List MvT))
  (hB : ∀ n, B ≤ n → ∀ out, out.length ≤ L → Q33.l0 N r p n hand (hand.length : Int) (w64 ((t : Int) + 1)) out = E out) : ∀ (k j n : Nat) (out : List MvT), j + k = p.1.length → B + k + 1 ≤ n → out.length + k ≤ L →
  Q33.l1 N r p n (t : Int) nn hand (hand.length : Int) (t : Int) (j : Int) out = E (out ++ (bif ltI 0 nn then putsS r p t k j else []))
 | 0, j, n, out, hk, hn, ho => by
  obtain ⟨n, rfl⟩ := nxt (n := n) (by omega)
  rw [Q33.l1_s, Q33.s1, bif_f (ltI_f (by omega)), hB n (by omega) out (by omega)]
  cases ltI 0 nn <;> simp [putsS]
 | k + 1, j, n, out, hk, hn, ho => by
  obtain ⟨n, rfl⟩ := nxt (n := n) (by omega)
  have hj : j < p.1.length := by omega
  have hll := len_le hr hp
  have ih := fun (out' : List MvT) (h : out'.length + k ≤ L) => gen_l1 N hN hand t ht hh nn B L hL E hB k (j + 1) n out' (by omega) (by omega) h
  rw [Q33.l1_s, Q33.s1, bif_t (ltI_t (by omega)), open_eq hr hp hN (by omega) (by omega), ob, w64_id (by omega) (by omega), show ((j : Int) + 1) = ((j + 1 : Nat) : Int) by omega, chk_cap (by simp; omega), ih out (by omega), ih (out ++ [((-1 : Int), ((j : Int), (t : Int)))]) (by simp; omega), putsS]
  cases ltI 0 nn <;> cases openB r p j <;> simp
theorem gen_l0 (N : Nat) (hN : 1000 ≤ N) (hand : List Int) (hh : hand.length ≤ 6) : ∀ (k j n : Nat) (out : List MvT), j + k = hand.length → 66 * k + 2000 ≤ n → out.length + 64 * k ≤ 80000 →
  Q33.l0 N r p n hand (hand.length : Int) (j : Int) out = finG N (out ++ (putsH r p hand k j ++ walks r p p.1.length 0))
 | 0, j, n, out, hk, hn, ho => by
  obtain ⟨n, rfl⟩ := nxt (n := n) (by omega)
  have hll := len_le hr hp
  have h2 := gen_l2 hr hp N hN p.1.length 0 n out (by omega) (by omega) (by omega)
  rw [show ((0 : Nat) : Int) = 0 from rfl] at h2
  rw [Q33.l0_s, Q33.s0, bif_f (ltI_f (by omega)), h2, putsH, List.nil_append]
 | k + 1, j, n, out, hk, hn, ho => by
  obtain ⟨n, rfl⟩ := nxt (n := n) (by omega)
  have hj : j < hand.length := by omega
  have hll := len_le hr hp
  have h1 := gen_l1 hr hp N hN hand j hj hh (gD 0 hand j) (66 * k + 2000) (80000 - 64 * k) (by omega) (fun out => finG N (out ++ (putsH r p hand k (j + 1) ++ walks r p p.1.length 0))) (fun n hn out h => by
   rw [w64_id (by omega) (by omega), show ((j : Int) + 1) = ((j + 1 : Nat) : Int) by omega]
   exact gen_l0 N hN hand hh k (j + 1) n out (by omega) hn (by omega)) p.1.length 0 n out (by omega) (by omega) (by omega)
  rw [show ((0 : Nat) : Int) = 0 from rfl, List.append_assoc, ← List.append_assoc (bs := putsH r p hand k (j + 1))] at h1
  rw [Q33.l0_s, Q33.s0, bif_t (ltI_t (by omega)), chk_of (idx_ok hj), putsH]
  exact h1
theorem gen_fin {N : Nat} (hN : 10000 ≤ N) : Q33 N r p = finG N (cand r p) := by
 have hll := len_le hr hp
 unfold Q33 Q33.e cand handT at *
 rcases hp.last.1 with ht | ht
 ·rw [if_pos ht] at *
  have h0 := gen_l0 hr hp N (by omega) (p.2.1.1) (by omega) (p.2.1.1).length 0 N [] (by omega) (by omega) (by simp; omega)
  rw [bif_t (eqI_t ht)]
  exact h0
 ·rw [if_neg (by omega)] at *
  have h0 := gen_l0 hr hp N (by omega) (p.2.1.2) (by omega) (p.2.1.2).length 0 N [] (by omega) (by omega) (by simp; omega)
  rw [bif_f (eqI_f (by omega)), bif_t (eqI_t ht)]
  exact h0
theorem putsH_len (hand : List Int) : ∀ (k j : Nat), (putsH r p hand k j).length ≤ 64 * k
 | 0, j => Nat.le_refl _
 | k + 1, j => by
  have hll := len_le hr hp
  have h1 := putsS_len r p j p.1.length 0
  have h2 := putsH_len hand k (j + 1)
  unfold putsH
  rw [List.length_append]
  cases ltI 0 (gD 0 hand j)
  ·simp only [cond_false, List.length_nil]; omega
  ·simp only [cond_true]; omega
theorem flat_len (s : Int) : ∀ (l : List WayT), (∀ w ∈ l, wayOk w) → (l.flatMap (wayL r p s)).length ≤ 7 * l.length
 | [], _ => by simp
 | w :: l, h => by
  have h1 := flat_len s l (fun w hw => h w (List.mem_cons_of_mem _ hw))
  have h2 := h w (List.mem_cons_self ..)
  have h3 : (wayL r p s w).length ≤ 7 := Nat.le_trans (along_len ..) (by omega)
  rw [List.flatMap_cons, List.length_append, List.length_cons]
  omega
theorem walks_len : ∀ (k j : Nat), j + k = p.1.length → (walks r p k j).length ≤ 112 * k
 | 0, j, _ => Nat.le_refl _
 | k + 1, j, hk => by
  have h2 := walks_len k (j + 1) (by omega)
  have hl := hp.len
  have hc := cell_ok hp (s := j) (by omega)
  unfold walks
  rw [List.length_append]
  by_cases ho1 : ownI (gD 0 p.1 j) = p.2.2.1
  ·have hc1 : 1 ≤ gD 0 p.1 j := by
    have := own_cases hc.1
    have := hp.last.1
    omega
   have hpo := piece_ok hr (kind_lt hc1 hc.2)
   have h3 := flat_len hr hp j _ hpo.2.2
   rw [if_pos ho1]
   omega
  ·rw [if_neg ho1]
   simp only [List.length_nil]
   omega
theorem cand_len : (cand r p).length ≤ 8192 := by
 have hll := len_le hr hp
 have h1 := putsH_len hr hp (handT p) (handT p).length 0
 have h2 := walks_len hr hp p.1.length 0 (by omega)
 unfold cand
 rw [List.length_append]
 omega
structure IsGen (r : RulesT) (p : PosT) (l : List MvT) : Prop where
 mem : ∀ m, m ∈ l ↔ m ∈ cand r p
 apart : Apart l
 len : l.length ≤ 8192
theorem gen_ret {N : Nat} (hN : 200000000 ≤ N) : Ret (Q33 N r p) (IsGen r p) := by
 have hcl := cand_len hr hp
 rw [gen_fin hr hp (by omega)]
 unfold finG
 refine Ret.bnd (sortM hN (cand r p) hcl) fun s hs => ?_
 have hl := hs.length_eq
 rw [compact_eq N s (by omega) (by omega)]
 exact Ret.ret ⟨fun m => (mem_dedA s).trans hs.mem_iff, dedA_apart s, Nat.le_trans (dedA_len s) (by omega)⟩
end
end Go.Proofs.YtfihdjjilofklaaGreat.Am
set_option linter.unusedVariables false
set_option linter.unusedSimpArgs false
set_option linter.unusedSectionVars false
namespace Go.Proofs.YtfihdjjilofklaaGreat.Am
open Go
structure MoveOk (r : RulesT) (p : PosT) (m : MvT) : Prop where
 to : 0 ≤ m.2.1 ∧ m.2.1 < r.2.1 * r.2.2.1
 piece : 0 ≤ m.2.2 ∧ m.2.2 < (r.2.2.2.1).length
 own : ownI (gD 0 p.1 m.2.1) ≠ p.2.2.1
 src : (m.1 = -1 ∧ gD 0 p.1 m.2.1 = 0 ∧ 0 < gD 0 (handT p) m.2.2) ∨ (0 ≤ m.1 ∧ m.1 < r.2.1 * r.2.2.1 ∧ ownI (gD 0 p.1 m.1) = p.2.2.1)
theorem mem_putsS (r : RulesT) (p : PosT) (t : Int) (m : MvT) : ∀ (k j : Nat), m ∈ putsS r p t k j ↔ ∃ i : Nat, j ≤ i ∧ i < j + k ∧ openB r p i = true ∧ m = ((-1 : Int), ((i : Int), t))
 | 0, j => by
  constructor
  ·intro h; cases h
  ·rintro ⟨i, h1, h2, _⟩; omega
 | k + 1, j => by
  unfold putsS
  rw [List.mem_append, mem_putsS r p t m k (j + 1)]
  constructor
  ·rintro (h | ⟨i, h1, h2, h3⟩)
   ·cases ho : openB r p j with
    | false => rw [ho] at h; cases h
    | true =>
     rw [ho] at h
     exact ⟨j, by omega, by omega, ho, by simpa using h⟩
   ·exact ⟨i, by omega, by omega, h3⟩
  ·rintro ⟨i, h1, h2, h3, h4⟩
   rcases Nat.lt_or_ge j i with h | h
   ·exact Or.inr ⟨i, by omega, by omega, h3, h4⟩
   ·obtain rfl : i = j := by omega
    rw [h3]
    exact Or.inl (by simp [h4])
theorem mem_putsH (r : RulesT) (p : PosT) (hand : List Int) (m : MvT) : ∀ (k j : Nat), m ∈ putsH r p hand k j ↔ ∃ t : Nat, j ≤ t ∧ t < j + k ∧ 0 < gD 0 hand t ∧ m ∈ putsS r p t p.1.length 0
 | 0, j => by
  constructor
  ·intro h; cases h
  ·rintro ⟨i, h1, h2, _⟩; omega
 | k + 1, j => by
  unfold putsH
  rw [List.mem_append, mem_putsH r p hand m k (j + 1)]
  constructor
  ·rintro (h | ⟨i, h1, h2, h3⟩)
   ·by_cases c : 0 < gD 0 hand j
    ·rw [bif_t (ltI_t c)] at h
     exact ⟨j, by omega, by omega, c, h⟩
    ·rw [bif_f (ltI_f (by omega))] at h; cases h
   ·exact ⟨i, by omega, by omega, h3⟩
  ·rintro ⟨i, h1, h2, h3, h4⟩
   rcases Nat.lt_or_ge j i with h | h
   ·exact Or.inr ⟨i, by omega, by omega, h3, h4⟩
   ·obtain rfl : i = j := by omega
    rw [bif_t (ltI_t h3)]
    exact Or.inl h4
theorem mem_walks (r : RulesT) (p : PosT) (m : MvT) : ∀ (k j : Nat), m ∈ walks r p k j ↔ ∃ i : Nat, j ≤ i ∧ i < j + k ∧ ownI (gD 0 p.1 i) = p.2.2.1 ∧ ∃ w ∈ (gD zP (r.2.2.2.1) (kindI (gD 0 p.1 i))).2.2.2, m ∈ wayL r p i w
 | 0, j => by
  constructor
  ·intro h; cases h
  ·rintro ⟨i, h1, h2, _⟩; omega
 | k + 1, j => by
  unfold walks
  rw [List.mem_append, mem_walks r p m k (j + 1)]
  constructor
  ·rintro (h | ⟨i, h1, h2, h3⟩)
   ·by_cases c : ownI (gD 0 p.1 j) = p.2.2.1
    ·rw [if_pos c, List.mem_flatMap] at h
     exact ⟨j, by omega, by omega, c, h⟩
    ·rw [if_neg c] at h; cases h
   ·exact ⟨i, by omega, by omega, h3⟩
  ·rintro ⟨i, h1, h2, h3, h4⟩
   rcases Nat.lt_or_ge j i with h | h
   ·exact Or.inr ⟨i, by omega, by omega, h3, h4⟩
   ·obtain rfl : i = j := by omega
    rw [if_pos h3, List.mem_flatMap]
    exact Or.inl h4
section
variable {r : RulesT} (hr : ROk r) {p : PosT} (hp : POk r p)
include hr hp
theorem mem_along {f kind dx dy t : Int} (hk : 0 ≤ kind ∧ kind < (r.2.2.2.1).length) {m : MvT} : ∀ (k : Nat) (x y : Int), (0 ≤ x ∧ x < r.2.1) → (0 ≤ y ∧ y < r.2.2.1) → m ∈ alongL r p f kind dx dy t k x y →
  m.1 = f ∧ (0 ≤ m.2.1 ∧ m.2.1 < r.2.1 * r.2.2.1) ∧ (0 ≤ m.2.2 ∧ m.2.2 < (r.2.2.2.1).length) ∧ ownI (gD 0 p.1 m.2.1) ≠ p.2.2.1
 | 0, x, y, _, _, h => by cases h
 | k + 1, x, y, hx, hy, h => by
  have ht := hp.last.1
  unfold alongL at h
  split at h
  ·cases h
  rename_i c
  have hq := sq_bound (x := x + dx) (y := y + dy) hr.b (by omega) (by omega)
  have ha := arr_lt hr (player := p.2.2.1) (to := (y + dy) * r.2.1 + (x + dx)) hk
  rw [List.mem_append] at h
  rcases h with h | h
  ·split at h
   ·rename_i c2
    rw [List.mem_singleton] at h
    subst h
    exact ⟨rfl, by dsimp only; omega, ha, by dsimp only; omega⟩
   ·cases h
  ·split at h
   ·cases h
   ·exact mem_along hk k _ _ (by omega) (by omega) h
theorem own_pos {s : Int} (hs : 0 ≤ s ∧ s < r.2.1 * r.2.2.1) (ho : ownI (gD 0 p.1 s) = p.2.2.1) : 1 ≤ gD 0 p.1 s := by
 have hc := cell_ok hp hs
 have := own_cases hc.1
 have := hp.last.1
 omega
theorem cand_ok {m : MvT} (hm : m ∈ cand r p) : MoveOk r p m := by
 have hll := len_le hr hp
 have hl := hp.len
 have ht := hp.last.1
 unfold cand at hm
 rw [List.mem_append, mem_putsH, mem_walks] at hm
 rcases hm with ⟨t, _, h2, h3, h4⟩ | ⟨i, _, h2, h3, w, h4, h5⟩
 ·rw [mem_putsS] at h4
  obtain ⟨i, _, h5, h6, rfl⟩ := h4
  unfold openB at h6
  simp only [Bool.and_eq_true, eqI_iff] at h6
  refine ⟨by dsimp only; omega, by dsimp only; omega, ?_, Or.inl ⟨rfl, h6.1, h3⟩⟩
  dsimp only
  rw [h6.1]
  unfold ownI
  rw [if_pos rfl]
  omega
 ·have hs : 0 ≤ (i : Int) ∧ (i : Int) < r.2.1 * r.2.2.1 := by omega
  have hc := own_pos hr hp hs h3
  have hkk := kind_lt hc (cell_ok hp hs).2
  have hq := sq_parts hr.b hs
  obtain ⟨g1, g2, g3, g4⟩ := mem_along hr hp hkk _ _ _ ⟨hq.1, hq.2.1⟩ ⟨hq.2.2.1, hq.2.2.2.1⟩ h5
  exact ⟨g2, g3, g4, Or.inr (by rw [g1]; exact ⟨by omega, by omega, h3⟩)⟩
end
def setH (p : PosT) (h : List Int) : List Int × List Int := if p.2.2.1 = 0 then (h, p.2.1.2) else (p.2.1.1, h)
def hand1 (p : PosT) (m : MvT) : List Int := if m.1 < 0 then (handT p).set m.2.2.toNat (gD 0 (handT p) m.2.2 - 1) else handT p
def hand2 (r : RulesT) (p : PosT) (m : MvT) : List Int := if gD 0 p.1 m.2.1 ≠ 0 ∧ r.2.2.2.2.2.2.1 = true then (hand1 p m).set (kindI (gD 0 p.1 m.2.1)).toNat (if 1000 < gD 0 (hand1 p m) (kindI (gD 0 p.1 m.2.1)) + 1 then 1000 else gD 0 (hand1 p m) (kindI (gD 0 p.1 m.2.1)) + 1) else hand1 p m
def cells2 (p : PosT) (m : MvT) : List Int := (if m.1 < 0 then p.1 else p.1.set m.1.toNat 0).set m.2.1.toNat (2 * m.2.2 + p.2.2.1 + 1)
def doI (r : RulesT) (p : PosT) (m : MvT) : PosT := (cells2 p m, (setH p (hand2 r p m), (1 - p.2.2.1, if m.1 < 0 ∨ gD 0 p.1 m.2.1 ≠ 0 then 0 else if 200 < p.2.2.2 + 1 then 200 else p.2.2.2 + 1)))
theorem clone_eq {N : Nat} {l : List Int} (hl : l.length ≤ 100) : Q41 N l = some l := by
 unfold Q41 Q41.e
 rw [chk_cap (by simp; omega)]
 rfl
theorem gD_ok {l : List Int} {Q : Int → Prop} (h : ∀ c ∈ l, Q c) {i : Int} (h0 : 0 ≤ i) (h1 : i < l.length) : Q (gD 0 l i) := by
 obtain ⟨i, rfl⟩ : ∃ a : Nat, i = a := ⟨i.toNat, by omega⟩
 rw [gD_nat (by omega)]
 exact h _ (List.getElem_mem _)
theorem set_ok {l : List Int} {Q : Int → Prop} (h : ∀ c ∈ l, Q c) {i : Nat} {v : Int} (hv : Q v) : ∀ c ∈ l.set i v, Q c := by
 intro c hc
 rcases List.mem_or_eq_of_mem_set hc with h1 | h1
 ·exact h c h1
 ·rw [h1]; exact hv
section
variable {r : RulesT} (hr : ROk r) {p : PosT} (hp : POk r p)
include hr hp
theorem hand_ok : handOk (handT p) := by
 unfold handT
 split
 ·exact hp.o0
 ·exact hp.o1
theorem copy_eq (N : Nat) : Q18 N p = some p := by
 have hll := len_le hr hp
 have h0 := hp.h0
 have h1 := hp.h1
 unfold Q18 Q18.e
 rw [clone_eq (by omega), ob, clone_eq (by omega), ob, clone_eq (by omega), ob]
theorem hand1_ok {m : MvT} (hm : MoveOk r p m) : handOk (hand1 p m) ∧ (hand1 p m).length = (r.2.2.2.1).length := by
 have hll := len_le hr hp
 have hh := hand_ok hr hp
 have hpi := hm.piece
 have := gD_ok hh hpi.1 (by omega)
 unfold hand1
 split
 ·rename_i hs
  rcases hm.src with h | h
  ·exact ⟨set_ok hh (by omega), by rw [List.length_set]; exact hll.2.1⟩
  ·omega
 ·exact ⟨hh, hll.2.1⟩
theorem hand2_ok {m : MvT} (hm : MoveOk r p m) : handOk (hand2 r p m) ∧ (hand2 r p m).length = (r.2.2.2.1).length := by
 have h1 := hand1_ok hr hp hm
 unfold hand2
 split
 ·rename_i hc
  have hcc := cell_ok hp hm.to
  have hkk := kind_lt (k := (r.2.2.2.1).length) (show 1 ≤ gD 0 p.1 m.2.1 by omega) hcc.2
  have := gD_ok h1.1 hkk.1 (by omega)
  exact ⟨set_ok h1.1 (by split <;> omega), by rw [List.length_set]; exact h1.2⟩
 ·exact h1
theorem do_ok {m : MvT} (hm : MoveOk r p m) : POk r (doI r p m) := by
 have h2 := hand2_ok hr hp hm
 have hlast := hp.last
 have hpi := hm.piece
 refine ⟨?_, ?_, ?_, ?_, ?_, ?_, ?_⟩
 ·show ((cells2 p m).length : Int) = _
  unfold cells2
  rw [List.length_set]
  split
  ·exact hp.len
  ·rw [List.length_set]; exact hp.len
 ·show (setH p (hand2 r p m)).1.length = _
  unfold setH
  split
  ·exact h2.2
  ·exact hp.h0
 ·show (setH p (hand2 r p m)).2.length = _
  unfold setH
  split
  ·exact hp.h1
  ·exact h2.2
 ·show cellsOk _ (cells2 p m)
  unfold cells2
  refine set_ok ?_ (by omega)
  split
  ·exact hp.cells
  ·exact set_ok hp.cells (by omega)
 ·show handOk (setH p (hand2 r p m)).1
  unfold setH
  split
  ·exact h2.1
  ·exact hp.o0
 ·show handOk (setH p (hand2 r p m)).2
  unfold setH
  split
  ·exact hp.o1
  ·exact h2.1
 ·unfold doI lastOk
  dsimp only
  refine ⟨by omega, ?_⟩
  split
  ·omega
  ·split <;> omega
end
end Go.Proofs.YtfihdjjilofklaaGreat.Am
set_option linter.unusedVariables false
set_option linter.unusedSimpArgs false
set_option linter.unusedSectionVars false
namespace Go.Proofs.YtfihdjjilofklaaGreat.Am
open Go
section
variable {r : RulesT} (hr : ROk r) {p : PosT} (hp : POk r p)
include hr hp
theorem do_eq (N : Nat) {m : MvT} (hm : MoveOk r p m) : Q24 N r p m = some (doI r p m) := by
 have hll := len_le hr hp
 have hl := hp.len
 have h0 := hp.h0
 have h1 := hp.h1
 have hto := hm.to
 have hpi := hm.piece
 have hlast := hp.last
 have hc := cell_ok hp hto
 have hcell : Q45 N m.2.2 p.2.2.1 = some (2 * m.2.2 + p.2.2.1 + 1) := by
  unfold Q45 Q45.e
  simp (disch := omega) only [w64_id]
 have hk : gD 0 p.1 m.2.1 ≠ 0 → Q44 N (gD 0 p.1 m.2.1) = some (kindI (gD 0 p.1 m.2.1)) ∧ 0 ≤ kindI (gD 0 p.1 m.2.1) ∧ kindI (gD 0 p.1 m.2.1) < (r.2.2.2.1).length := fun h => ⟨kind_eq (by omega) (by omega), kind_lt (by omega) hc.2⟩
 have hb0 : ∀ i : Int, 0 ≤ i → i < (r.2.2.2.1).length → 0 ≤ gD 0 (p.2.1.1) i ∧ gD 0 (p.2.1.1) i ≤ 1000 := fun i hi hi' => gD_ok hp.o0 hi (by omega)
 have hb1 : ∀ i : Int, 0 ≤ i → i < (r.2.2.2.1).length → 0 ≤ gD 0 (p.2.1.2) i ∧ gD 0 (p.2.1.2) i ≤ 1000 := fun i hi hi' => gD_ok hp.o1 hi (by omega)
 have hm0 := hb0 _ hpi.1 hpi.2
 have hm1 := hb1 _ hpi.1 hpi.2
 unfold Q24 Q24.e
 rw [copy_eq hr hp, ob, hcell]
 unfold doI setH hand2 hand1 cells2 handT
 by_cases hs : m.1 < 0
 ·have hz : gD 0 p.1 m.2.1 = 0 := by
   rcases hm.src with h | h
   ·exact h.2.1
   ·omega
  rw [bif_t (ltI_t hs)]
  rcases hlast.1 with ht | ht
  ·rw [bif_t (eqI_t ht)]
   simp (disch := omega) only [chk_idx, w64_id, hz, eqI_t, Bool.not_true, cond_false, ob, if_pos hs, if_pos ht, Bool.cond_false]
   simp [hs]
  ·rw [bif_f (eqI_f (by omega)), bif_t (eqI_t ht)]
   simp (disch := omega) only [chk_idx, w64_id, hz, eqI_t, Bool.not_true, cond_false, ob, if_pos hs, if_neg (show ¬ p.2.2.1 = 0 by omega)]
   simp [hs]
 ·have hsrc : 0 ≤ m.1 ∧ m.1 < r.2.1 * r.2.2.1 := by
   rcases hm.src with h | h
   ·omega
   ·exact ⟨h.1, h.2.1⟩
  rw [bif_f (ltI_f (by omega))]
  simp only [if_neg hs]
  by_cases hz : gD 0 p.1 m.2.1 = 0
  ·simp (disch := omega) only [chk_idx, w64_id, hz, eqI_t, Bool.not_true, cond_false, ob, List.length_set]
   by_cases h200 : 200 < p.2.2.2 + 1
   ·rcases hlast.1 with ht | ht <;> simp [hs, ht, ltI_t h200, h200]
   ·rcases hlast.1 with ht | ht <;> simp [hs, ht, ltI_f (show p.2.2.2 + 1 ≤ 200 by omega), h200]
  ·obtain ⟨hk1, hk2, hk3⟩ := hk hz
   have hk0 := hb0 _ hk2 hk3
   have hk1' := hb1 _ hk2 hk3
   rw [hk1]
   rcases hlast.1 with ht | ht
   ·simp (disch := omega) only [chk_idx, w64_id, eqI_f hz, eqI_t ht, Bool.not_false, cond_true, ob, List.length_set, if_pos ht]
    by_cases h1000 : 1000 < gD 0 p.2.1.1 (kindI (gD 0 p.1 m.2.1)) + 1
    ·cases hK : r.2.2.2.2.2.2.1 <;> simp [hs, ht, hz, ltI_t h1000, h1000]
    ·cases hK : r.2.2.2.2.2.2.1 <;> simp [hs, ht, hz, ltI_f (show gD 0 p.2.1.1 (kindI (gD 0 p.1 m.2.1)) + 1 ≤ 1000 by omega), h1000]
   ·simp (disch := omega) only [chk_idx, w64_id, eqI_f hz, eqI_f (show p.2.2.1 ≠ 0 by omega), eqI_t ht, Bool.not_false, cond_true, cond_false, ob, List.length_set, if_neg (show ¬ p.2.2.1 = 0 by omega)]
    by_cases h1000 : 1000 < gD 0 p.2.1.2 (kindI (gD 0 p.1 m.2.1)) + 1
    ·cases hK : r.2.2.2.2.2.2.1 <;> simp [hs, ht, hz, ltI_t h1000, h1000]
    ·cases hK : r.2.2.2.2.2.2.1 <;> simp [hs, ht, hz, ltI_f (show gD 0 p.2.1.2 (kindI (gD 0 p.1 m.2.1)) + 1 ≤ 1000 by omega), h1000]
end
end Go.Proofs.YtfihdjjilofklaaGreat.Am
set_option linter.unusedVariables false
set_option linter.unusedSimpArgs false
set_option linter.unusedSectionVars false
namespace Go.Proofs.YtfihdjjilofklaaGreat.Am
open Go
theorem index_l0 (N : Nat) (l : List MvT) (v : MvT) (hl : l.length ≤ 100000) : ∀ (k j n : Nat), j + k = l.length → k < n → Ret (Q104.l0 N l v n (j : Int)) fun i => 0 ≤ i ↔ v ∈ l.drop j
 | 0, j, n, hk, hn => by
  obtain ⟨n, rfl⟩ := nxt (n := n) (by omega)
  rw [Q104.l0_s, Q104.s0, bif_f (ltI_f (by omega)), List.drop_of_length_le (by omega)]
  exact Ret.ret (by simp)
 | k + 1, j, n, hk, hn => by
  obtain ⟨n, rfl⟩ := nxt (n := n) (by omega)
  have hj : j < l.length := by omega
  have ih := index_l0 N l v hl k (j + 1) n (by omega) (by omega)
  rw [Q104.l0_s, Q104.s0, bif_t (ltI_t (by omega)), chk_of (idx_ok hj), gD_nat hj, mv_eq, w64_id (by omega) (by omega), show ((j : Int) + 1) = ((j + 1 : Nat) : Int) by omega, List.drop_eq_getElem_cons hj, List.mem_cons]
  by_cases h : v = l[j]
  ·rw [bif_t (by simpa using h)]
   exact Ret.ret ⟨fun _ => Or.inl h, fun _ => by omega⟩
  ·rw [bif_f (by simpa using h)]
   exact ih.mono fun i hi => hi.trans ⟨Or.inr, fun h' => h'.resolve_left h⟩
theorem contains_eq {N : Nat} (l : List MvT) (v : MvT) (hl : l.length ≤ 100000) (hN : 200000 ≤ N) : Q90 N l v = some (decide (v ∈ l)) := by
 unfold Q90 Q90.e Q104 Q104.e
 obtain ⟨i, h1, h2⟩ := index_l0 N l v hl l.length 0 N (by omega) (by omega)
 rw [List.drop_zero] at h2
 rw [show ((0 : Nat) : Int) = 0 from rfl] at h1
 rw [h1, ob]
 by_cases h : v ∈ l
 ·rw [leI_t (h2.2 h), decide_eq_true h]
 ·rw [leI_f (by have := mt h2.1 h; omega), decide_eq_false h]
end Go.Proofs.YtfihdjjilofklaaGreat.Am
set_option linter.unusedVariables false
set_option linter.unusedSimpArgs false
set_option linter.unusedSectionVars false
namespace Go.Proofs.YtfihdjjilofklaaGreat.Am
open Go
abbrev noP : PosT := ([], (([], []), (0, 0)))
section
variable {N : Nat} (hN : 200000 ≤ N) {r : RulesT} (hr : ROk r) {p : PosT} (hp : POk r p) {l : List MvT} (hl : Q33 N r p = some l) (hg : IsGen r p l)
include hN hr hp hl hg
theorem legal_good (m : MvT) : Q73 N r p m = some (decide (m ∈ l), 0) := by
 have := hg.len
 unfold Q73 Q73.e
 rw [pcheck_ok (by omega) hr hp, ob, bif_f (by rfl), hl, ob, contains_eq l m (by omega) hN, ob]
theorem after_good {m : MvT} (hm : m ∈ l) : Q47 N r p m = some (doI r p m, 0) := by
 unfold Q47 Q47.e
 rw [legal_good hN hr hp hl hg, ob, bif_f (by rfl), bif_f (by simp [hm]), do_eq hr hp N (cand_ok hr hp ((hg.mem m).1 hm)), ob]
end
end Go.Proofs.YtfihdjjilofklaaGreat.Am
