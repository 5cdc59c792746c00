/- Plain: the moves of a position: all candidates, sorted, each once. -/
import Derived.Test.YtpielijehhhobaaLawAlongf
import Derived.Test.YtpielijehhhobaaLawCompactf
import Derived.Test.YtpielijehhhobaaLawSortM5f
set_option linter.unusedVariables false
set_option linter.unusedSimpArgs false
set_option linter.unusedSectionVars false
namespace Go.Proofs.Ytpielijehhhobaa.Am
open Go
def lowB (r : RulesT) (p : PosT) : Nat → Int → Bool
 | 0, _ => true
 | k + 1, low => bif leI 0 low then (bif eqI (gD 0 p.1 low) 0 then false else lowB r p k (low - r.2.1)) else true
def openB (r : RulesT) (p : PosT) (s : Int) : Bool := eqI (gD 0 p.1 s) 0 && (bif r.2.2.2.2.2.1 then lowB r p 65 (s - r.2.1) else true)
def putsS (r : RulesT) (p : PosT) (t : Int) : Nat → Nat → List MvT
 | 0, _ => []
 | k + 1, j => (bif openB r p j then [((-1 : Int), ((j : Int), t))] else []) ++ putsS r p t k (j + 1)
def putsH (r : RulesT) (p : PosT) (hand : List Int) : Nat → Nat → List MvT
 | 0, _ => []
 | k + 1, j => (bif ltI 0 (gD 0 hand j) then putsS r p j p.1.length 0 else []) ++ putsH r p hand k (j + 1)
def wayL (r : RulesT) (p : PosT) (s : Int) (w : WayT) : List MvT :=
 alongL r p s (kindI (gD 0 p.1 s)) w.1 (if p.2.2.1 = 1 then - w.2.1 else w.2.1) w.2.2.2 w.2.2.1.toNat (s % r.2.1) (s / r.2.1)
def walks (r : RulesT) (p : PosT) : Nat → Nat → List MvT
 | 0, _ => []
 | k + 1, j => (if ownI (gD 0 p.1 j) = p.2.2.1 then (gD zP (r.2.2.2.1) (kindI (gD 0 p.1 j))).2.2.2.flatMap (wayL r p j) else []) ++ walks r p k (j + 1)
def handT (p : PosT) : List Int := if p.2.2.1 = 0 then p.2.1.1 else p.2.1.2
def cand (r : RulesT) (p : PosT) : List MvT := putsH r p (handT p) (handT p).length 0 ++ walks r p p.1.length 0
theorem along_len (r : RulesT) (p : PosT) (f k dx dy t : Int) : ∀ (n : Nat) (x y : Int), (alongL r p f k dx dy t n x y).length ≤ n
 | 0, x, y => Nat.le_refl _
 | n + 1, x, y => by
  unfold alongL
  split
  ·simp
  ·have := along_len r p f k dx dy t n (x + dx) (y + dy)
   rw [List.length_append]
   split <;> split <;> simp <;> omega
theorem putsS_len (r : RulesT) (p : PosT) (t : Int) : ∀ (k j : Nat), (putsS r p t k j).length ≤ k
 | 0, j => Nat.le_refl _
 | k + 1, j => by
  unfold putsS
  have := putsS_len r p t k (j + 1)
  rw [List.length_append]
  cases openB r p j <;> simp <;> omega
section
variable {r : RulesT} (hr : ROk r) {p : PosT} (hp : POk r p)
include hr hp
theorem len_le : p.1.length ≤ 64 ∧ (handT p).length = (r.2.2.2.1).length ∧ (r.2.2.2.1).length ≤ 6 := by
 have h1 := area_le' hr.b
 have h2 := hp.len
 refine ⟨by omega, ?_, hr.ps.le⟩
 unfold handT
 split
 ·exact hp.h0
 ·exact hp.h1
theorem low_eq (N : Nat) (s : Int) : ∀ (k n : Nat) (low : Int), low < k → low < 64 → low < p.1.length → k < n → Q61.l0 N r p s n low = some (lowB r p k low)
 | 0, n, low, h1, h2, h3, hn => by
  obtain ⟨n, rfl⟩ := nxt (n := n) (by omega)
  rw [Q61.l0_s, Q61.s0, bif_f (leI_f (by omega))]; rfl
 | k + 1, n, low, h1, h2, h3, hn => by
  obtain ⟨n, rfl⟩ := nxt (n := n) (by omega)
  have hb := hr.b
  rw [Q61.l0_s, Q61.s0, lowB]
  by_cases c : 0 ≤ low
  ·rw [bif_t (leI_t c), bif_t (leI_t c), chk_idx c h3]
   by_cases c2 : gD 0 p.1 low = 0
   ·rw [bif_t (eqI_t c2), bif_t (eqI_t c2)]
   ·rw [bif_f (eqI_f c2), bif_f (eqI_f c2), w64_id (by omega) (by omega)]
    exact low_eq N s k n (low - r.2.1) (by omega) (by omega) (by omega) (by omega)
  ·rw [bif_f (leI_f (by omega)), bif_f (leI_f (by omega))]
theorem open_eq {N : Nat} (hN : 1000 ≤ N) {s : Int} (h0 : 0 ≤ s) (h1 : s < p.1.length) : Q61 N r p s = some (openB r p s) := by
 have hb := hr.b
 have hl := len_le hr hp
 unfold Q61 Q61.e openB
 rw [chk_idx h0 h1, w64_id (by omega) (by omega), low_eq hr hp N s 65 N (s - r.2.1) (by omega) (by omega) (by omega) (by omega)]
 cases eqI (gD 0 p.1 s) 0 <;> cases r.2.2.2.2.2.1 <;> rfl
def finG (N : Nat) (out : List MvT) : Option (List MvT) := (Q65 N out).bind fun y => Q67 N y
theorem gen_l3 (N : Nat) (hN : 1000 ≤ N) {s : Nat} (hs : s < p.1.length) (hc : 1 ≤ gD 0 p.1 s) (ways : List WayT) (hw : ways.length ≤ 16) (hwo : ∀ w ∈ ways, wayOk w) (B L : Nat) (hL : L ≤ 90000) (E : List MvT → Option (List MvT))
  (hB : ∀ n, B ≤ n → ∀ out, out.length ≤ L → Q38.l2 N r p n (w64 ((s : Int) + 1)) out = E out) : ∀ (k j n : Nat) (out : List MvT), j + k = ways.length → B + k + 1 ≤ n → out.length + 7 * k ≤ L →
  Q38.l3 N r p n s s ways (ways.length : Int) (j : Int) out = E (out ++ (ways.drop j).flatMap (wayL r p s))
 | 0, j, n, out, hk, hn, ho => by
  obtain ⟨n, rfl⟩ := nxt (n := n) (by omega)
  rw [Q38.l3_s, Q38.s3, bif_f (ltI_f (by omega)), List.drop_of_length_le (by omega), hB n (by omega) out (by omega)]
  simp
 | k + 1, j, n, out, hk, hn, ho => by
  obtain ⟨n, rfl⟩ := nxt (n := n) (by omega)
  have hj : j < ways.length := by omega
  have hl := hp.len
  have hwj := hwo ways[j] (List.getElem_mem _)
  rw [Q38.l3_s, Q38.s3, bif_t (ltI_t (by omega)), chk_of (idx_ok hj), gD_nat hj, along_eq hr hp hN out (by omega) ways[j] hwj hc (by omega), Option.bind_some, w64_id (by omega) (by omega), show ((j : Int) + 1) = ((j + 1 : Nat) : Int) by omega]
  have h7 : (wayL r p s ways[j]).length ≤ 7 := Nat.le_trans (along_len ..) (by omega)
  have ih := gen_l3 N hN hs hc ways hw hwo B L hL E hB k (j + 1) n (out ++ wayL r p s ways[j]) (by omega) (by omega) (by rw [List.length_append]; omega)
  rw [List.drop_eq_getElem_cons hj, List.flatMap_cons, ← List.append_assoc]
  exact ih
theorem gen_l2 (N : Nat) (hN : 1000 ≤ N) : ∀ (k j n : Nat) (out : List MvT), j + k = p.1.length → 18 * k + 1 ≤ n → out.length + 112 * k ≤ 90000 →
  Q38.l2 N r p n (j : Int) out = finG N (out ++ walks r p k j)
 | 0, j, n, out, hk, hn, ho => by
  obtain ⟨n, rfl⟩ := nxt (n := n) (by omega)
  rw [Q38.l2_s, Q38.s2, bif_f (ltI_f (by omega))]
  unfold finG walks
  rw [List.append_nil]
  cases Q65 N out with
  | none => rfl
  | some y =>
   show (Q67 N y).bind _ = Q67 N y
   cases Q67 N y <;> rfl
 | k + 1, j, n, out, hk, hn, ho => by
  obtain ⟨n, rfl⟩ := nxt (n := n) (by omega)
  have hj : j < p.1.length := by omega
  have hl := hp.len
  have hll := len_le hr hp
  have hc := cell_ok hp (s := j) (by omega)
  have ih := fun (n : Nat) (hn : 18 * k + 1 ≤ n) (out' : List MvT) (h : out'.length ≤ 90000 - 112 * k) => gen_l2 N hN k (j + 1) n out' (by omega) hn (by omega)
  rw [Q38.l2_s, Q38.s2, bif_t (ltI_t (by omega)), chk_of (idx_ok hj), owner_eq hc.1 (by omega), Option.bind_some, walks]
  by_cases ho1 : ownI (gD 0 p.1 j) = p.2.2.1
  ·have hc1 : 1 ≤ gD 0 p.1 j := by
    have := own_cases hc.1
    have := hp.last.1
    omega
   have hkk := kind_lt hc1 hc.2
   have hpo := piece_ok hr hkk
   rw [bif_t (eqI_t ho1), if_pos ho1, kind_eq hc1 (by omega), Option.bind_some, chk_idx hkk.1 hkk.2]
   have h3 := gen_l3 hr hp N hN hj hc1 (gD zP (r.2.2.2.1) (kindI (gD 0 p.1 j))).2.2.2 (by omega) hpo.2.2 (18 * k + 1) (90000 - 112 * k) (by omega) (fun out => finG N (out ++ walks r p k (j + 1))) (fun n hn out h => by
    rw [w64_id (by omega) (by omega), show ((j : Int) + 1) = ((j + 1 : Nat) : Int) by omega]
    exact ih n hn out h) (gD zP (r.2.2.2.1) (kindI (gD 0 p.1 j))).2.2.2.length 0 n out (by omega) (by omega) (by omega)
   rw [List.drop_zero, List.append_assoc] at h3
   exact h3
  ·rw [bif_f (eqI_f ho1), if_neg ho1, w64_id (by omega) (by omega), show ((j : Int) + 1) = ((j + 1 : Nat) : Int) by omega, ih n (by omega) out (by omega), List.nil_append]
theorem gen_l1 (N : Nat) (hN : 1000 ≤ N) (hand : List Int) (t : Nat) (ht : t < hand.length) (hh : hand.length ≤ 6) (nn : Int) (B L : Nat) (hL : L ≤ 90000) (E : List MvT → Option (List MvT))
  (hB : ∀ n, B ≤ n → ∀ out, out.length ≤ L → Q38.l0 N r p n hand (hand.length : Int) (w64 ((t : Int) + 1)) out = E out) : ∀ (k j n : Nat) (out : List MvT), j + k = p.1.length → B + k + 1 ≤ n → out.length + k ≤ L →
  Q38.l1 N r p n (t : Int) nn hand (hand.length : Int) (t : Int) (j : Int) out = E (out ++ (bif ltI 0 nn then putsS r p t k j else []))
 | 0, j, n, out, hk, hn, ho => by
  obtain ⟨n, rfl⟩ := nxt (n := n) (by omega)
  rw [Q38.l1_s, Q38.s1, bif_f (ltI_f (by omega)), hB n (by omega) out (by omega)]
  cases ltI 0 nn <;> simp [putsS]
 | k + 1, j, n, out, hk, hn, ho => by
  obtain ⟨n, rfl⟩ := nxt (n := n) (by omega)
  have hj : j < p.1.length := by omega
  have hll := len_le hr hp
  have ih := fun (out' : List MvT) (h : out'.length + k ≤ L) => gen_l1 N hN hand t ht hh nn B L hL E hB k (j + 1) n out' (by omega) (by omega) h
  rw [Q38.l1_s, Q38.s1, bif_t (ltI_t (by omega)), open_eq hr hp hN (by omega) (by omega), Option.bind_some, w64_id (by omega) (by omega), show ((j : Int) + 1) = ((j + 1 : Nat) : Int) by omega, chk_cap (by simp; omega), ih out (by omega), ih (out ++ [((-1 : Int), ((j : Int), (t : Int)))]) (by simp; omega), putsS]
  cases ltI 0 nn <;> cases openB r p j <;> simp
theorem gen_l0 (N : Nat) (hN : 1000 ≤ N) (hand : List Int) (hh : hand.length ≤ 6) : ∀ (k j n : Nat) (out : List MvT), j + k = hand.length → 66 * k + 2000 ≤ n → out.length + 64 * k ≤ 80000 →
  Q38.l0 N r p n hand (hand.length : Int) (j : Int) out = finG N (out ++ (putsH r p hand k j ++ walks r p p.1.length 0))
 | 0, j, n, out, hk, hn, ho => by
  obtain ⟨n, rfl⟩ := nxt (n := n) (by omega)
  have hll := len_le hr hp
  have h2 := gen_l2 hr hp N hN p.1.length 0 n out (by omega) (by omega) (by omega)
  rw [show ((0 : Nat) : Int) = 0 from rfl] at h2
  rw [Q38.l0_s, Q38.s0, bif_f (ltI_f (by omega)), h2, putsH, List.nil_append]
 | k + 1, j, n, out, hk, hn, ho => by
  obtain ⟨n, rfl⟩ := nxt (n := n) (by omega)
  have hj : j < hand.length := by omega
  have hll := len_le hr hp
  have h1 := gen_l1 hr hp N hN hand j hj hh (gD 0 hand j) (66 * k + 2000) (80000 - 64 * k) (by omega) (fun out => finG N (out ++ (putsH r p hand k (j + 1) ++ walks r p p.1.length 0))) (fun n hn out h => by
   rw [w64_id (by omega) (by omega), show ((j : Int) + 1) = ((j + 1 : Nat) : Int) by omega]
   exact gen_l0 N hN hand hh k (j + 1) n out (by omega) hn (by omega)) p.1.length 0 n out (by omega) (by omega) (by omega)
  rw [show ((0 : Nat) : Int) = 0 from rfl, List.append_assoc, ← List.append_assoc (bs := putsH r p hand k (j + 1))] at h1
  rw [Q38.l0_s, Q38.s0, bif_t (ltI_t (by omega)), chk_of (idx_ok hj), putsH]
  exact h1
theorem gen_fin {N : Nat} (hN : 10000 ≤ N) : Q38 N r p = finG N (cand r p) := by
 have hll := len_le hr hp
 unfold Q38 Q38.e cand handT at *
 rcases hp.last.1 with ht | ht
 ·rw [if_pos ht] at *
  have h0 := gen_l0 hr hp N (by omega) (p.2.1.1) (by omega) (p.2.1.1).length 0 N [] (by omega) (by omega) (by simp; omega)
  rw [bif_t (eqI_t ht)]
  exact h0
 ·rw [if_neg (by omega)] at *
  have h0 := gen_l0 hr hp N (by omega) (p.2.1.2) (by omega) (p.2.1.2).length 0 N [] (by omega) (by omega) (by simp; omega)
  rw [bif_f (eqI_f (by omega)), bif_t (eqI_t ht)]
  exact h0
theorem putsH_len (hand : List Int) : ∀ (k j : Nat), (putsH r p hand k j).length ≤ 64 * k
 | 0, j => Nat.le_refl _
 | k + 1, j => by
  have hll := len_le hr hp
  have h1 := putsS_len r p j p.1.length 0
  have h2 := putsH_len hand k (j + 1)
  unfold putsH
  rw [List.length_append]
  cases ltI 0 (gD 0 hand j)
  ·simp only [cond_false, List.length_nil]; omega
  ·simp only [cond_true]; omega
theorem flat_len (s : Int) : ∀ (l : List WayT), (∀ w ∈ l, wayOk w) → (l.flatMap (wayL r p s)).length ≤ 7 * l.length
 | [], _ => by simp
 | w :: l, h => by
  have h1 := flat_len s l (fun w hw => h w (List.mem_cons_of_mem _ hw))
  have h2 := h w (List.mem_cons_self ..)
  have h3 : (wayL r p s w).length ≤ 7 := Nat.le_trans (along_len ..) (by omega)
  rw [List.flatMap_cons, List.length_append, List.length_cons]
  omega
theorem walks_len : ∀ (k j : Nat), j + k = p.1.length → (walks r p k j).length ≤ 112 * k
 | 0, j, _ => Nat.le_refl _
 | k + 1, j, hk => by
  have h2 := walks_len k (j + 1) (by omega)
  have hl := hp.len
  have hc := cell_ok hp (s := j) (by omega)
  unfold walks
  rw [List.length_append]
  by_cases ho1 : ownI (gD 0 p.1 j) = p.2.2.1
  ·have hc1 : 1 ≤ gD 0 p.1 j := by
    have := own_cases hc.1
    have := hp.last.1
    omega
   have hpo := piece_ok hr (kind_lt hc1 hc.2)
   have h3 := flat_len hr hp j _ hpo.2.2
   rw [if_pos ho1]
   omega
  ·rw [if_neg ho1]
   simp only [List.length_nil]
   omega
theorem cand_len : (cand r p).length ≤ 8192 := by
 have hll := len_le hr hp
 have h1 := putsH_len hr hp (handT p) (handT p).length 0
 have h2 := walks_len hr hp p.1.length 0 (by omega)
 unfold cand
 rw [List.length_append]
 omega
structure IsGen (r : RulesT) (p : PosT) (l : List MvT) : Prop where
 mem : ∀ m, m ∈ l ↔ m ∈ cand r p
 apart : Apart l
 len : l.length ≤ 8192
theorem gen_ret {N : Nat} (hN : 200000000 ≤ N) : Ret (Q38 N r p) (IsGen r p) := by
 have hcl := cand_len hr hp
 rw [gen_fin hr hp (by omega)]
 unfold finG
 refine Ret.bnd (sortM hN (cand r p) hcl) fun s hs => ?_
 have hl := hs.length_eq
 rw [compact_eq N s (by omega) (by omega)]
 exact Ret.ret ⟨fun m => (mem_dedA s).trans hs.mem_iff, dedA_apart s, Nat.le_trans (dedA_len s) (by omega)⟩
end
end Go.Proofs.Ytpielijehhhobaa.Am
