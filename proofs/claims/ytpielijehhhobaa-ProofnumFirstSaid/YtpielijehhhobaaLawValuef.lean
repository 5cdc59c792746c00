/- Plain: minimax on a board computes the value of its position, and leaves the board. -/
import Derived.Test.YtpielijehhhobaaLawMoves0f
import Derived.Test.YtpielijehhhobaaLawScore0f
set_option linter.unusedVariables false
set_option linter.unusedSimpArgs false
set_option linter.unusedSectionVars false
namespace Go.Proofs.Ytpielijehhhobaa.Am
open Go
def vl0 (N : Nat) (self : BoardT → Int → Option (Int × BoardT)) (b0 : BoardT) (depth : Int) (n : Nat) (best len j : Int) (b : BoardT) (ms : List MvT) : Option (Int × BoardT) :=
 Q42.l0 N self b0 depth n best len j b.1.1 b.1.2.1 b.1.2.2.1 b.1.2.2.2.2.2.1 b.1.2.2.2.2.2.2.1 b.1.2.2.2.2.2.2.2.2.1 b.1.2.2.2.2.2.2.2.2.2.1 b.1.2.2.2.2.2.2.2.2.2.2 b.2.1.2.2.1 b.2.1.2.2.2 b.2.2.1 ms b.1.2.2.2.1 b.1.2.2.2.2.1 b.1.2.2.2.2.2.2.2.1 b.2.1.1 b.2.1.2.1.1 b.2.1.2.1.2 b.2.2.2
theorem vl0_s (N : Nat) (self : BoardT → Int → Option (Int × BoardT)) (b0 : BoardT) (depth : Int) (n : Nat) (best len j : Int) (b : BoardT) (ms : List MvT) : vl0 N self b0 depth (n + 1) best len j b ms =
  bif ltI j len then (chk (leI 0 j && ltI j (ms.length : Int)) <|
   (Q50 N b (gD z0 ms j)).bind fun y5 =>
   (self y5 (w64 (depth - 1))).bind fun y6 =>
   (Q72 N (w64 (0 - y6.1))).bind fun y7 =>
   (Q51 N y6.2).bind fun y9 =>
   vl0 N self b0 depth n (bif ltI best y7 then y7 else best) len (w64 (j + 1)) y9.2 ms)
  else some (best, b) := rfl
theorem value_e (N : Nat) (b : BoardT) (depth : Int) : Q42 (N + 1) b depth =
  (Q32 N b).bind fun y1 =>
  bif (!(eqI y1 0)) then ((Q28 N b).bind fun y2 =>
   (Q71 N y1 y2).bind fun y3 =>
   some (y3, b))
  else bif (eqI depth 0) then (some (0, b))
  else (Q34 N b).bind fun y4 =>
  vl0 N (Q42 N) b depth N (-1000) (y4.length : Int) 0 b y4 := rfl
theorem value_l0 {N : Nat} (self : BoardT → Int → Option (Int × BoardT)) (b0 : BoardT) (d : Nat) (hd : d ≤ 20) {b : BoardT} (hb : BOk b) (hl : b.2.2.2.length ≤ 100000) (ms : List MvT) (hms : ∀ m ∈ ms, MoveOk b.1 b.2.1 m) (hlen : ms.length ≤ 100000)
  (hself : ∀ m ∈ ms, self (makeB b m) (d : Int) = some (val b.1 d (doI b.1 b.2.1 m), makeB b m)) : ∀ (k j n : Nat) (best : Int), j + k = ms.length → k < n →
  vl0 N self b0 ((d + 1 : Nat) : Int) n best (ms.length : Int) (j : Int) b ms = some (foldMax best ((ms.drop j).map fun m => near (-(val b.1 d (doI b.1 b.2.1 m)))), b)
 | 0, j, n, best, hk, hn => by
  obtain ⟨n, rfl⟩ := nxt (n := n) (by omega)
  rw [vl0_s, bif_f (ltI_f (by omega)), List.drop_of_length_le (by omega)]
  rfl
 | k + 1, j, n, best, hk, hn => by
  obtain ⟨n, rfl⟩ := nxt (n := n) (by omega)
  have hj : j < ms.length := by omega
  have hmem : ms[j] ∈ ms := List.getElem_mem _
  have hmo := hms _ hmem
  have hv := val_bound hb.r d (by omega) (do_ok hb.r hb.p hmo)
  rw [vl0_s, bif_t (ltI_t (by omega)), chk_of (idx_ok hj), gD_nat hj, make_eq hb hl hmo, Option.bind_some, w64_id (x := ((d + 1 : Nat) : Int) - 1) (by omega) (by omega), show ((d + 1 : Nat) : Int) - 1 = (d : Int) by omega, hself _ hmem, Option.bind_some]
  dsimp only
  rw [w64_id (x := 0 - val b.1 d (doI b.1 b.2.1 ms[j])) (by omega) (by omega), nearer_eq N (by omega), Option.bind_some, undo_make hb hl hmo, Option.bind_some, w64_id (by omega) (by omega), show ((j : Int) + 1) = ((j + 1 : Nat) : Int) by omega, show 0 - val b.1 d (doI b.1 b.2.1 ms[j]) = -(val b.1 d (doI b.1 b.2.1 ms[j])) by omega]
  rw [value_l0 self b0 d hd hb hl ms hms hlen hself k (j + 1) n _ (by omega) (by omega), List.drop_eq_getElem_cons hj]
  rfl
theorem value_ok : ∀ (d N : Nat), 200000000 + d < N → d ≤ 20 → ∀ {b : BoardT}, BOk b → b.2.2.2.length + d ≤ 100000 → Q42 N b (d : Int) = some (val b.1 d b.2.1, b)
 | d, N, hN, hd, b, hb, hl => by
  obtain ⟨N, rfl⟩ := nxt (n := N) (by omega)
  have ht := hb.p.last.1
  rw [value_e, bresult_eq (by omega) hb, Option.bind_some]
  by_cases h : resV b.1 b.2.1 = 0
  ·rw [bif_f (by rw [eqI_t h]; rfl)]
   cases d with
   | zero =>
    rw [bif_t (by rfl)]
    unfold val
    rw [if_neg (by simp [h])]
   | succ d =>
    obtain ⟨l, hl1, _, hl2⟩ := bmoves_ret (N := N) (by omega) hb
    have hg := hl2 h
    have hgl := hg.len
    rw [bif_f (eqI_f (by omega)), hl1, Option.bind_some]
    have := value_l0 (N := N) (Q42 N) b d (by omega) hb (by omega) l (fun m hm => cand_ok hb.r hb.p ((hg.mem m).1 hm)) (by omega) (fun m hm => by
     have hmo := cand_ok hb.r hb.p ((hg.mem m).1 hm)
     exact value_ok d N (by omega) (by omega) (make_ok hb (by omega) hmo) (by
      show (b.2.2.2 ++ [undoI b m]).length + d ≤ 100000
      rw [List.length_append]
      simp only [List.length_singleton]
      omega)) l.length 0 N (-1000) (by omega) (by omega)
    rw [List.drop_zero, show ((0 : Nat) : Int) = 0 from rfl] at this
    rw [this, val_open hb.r h]
    congr 2
    apply foldMax_ext
    intro x
    simp only [List.mem_map]
    constructor
    ·rintro ⟨m, hm, rfl⟩; exact ⟨m, (hg.mem m).1 hm, rfl⟩
    ·rintro ⟨m, hm, rfl⟩; exact ⟨m, (hg.mem m).2 hm, rfl⟩
  ·rw [bif_t (by rw [eqI_f h]; rfl), val_over hb.r h]
   show (some b.2.1.2.2.1).bind _ = _
   rw [Option.bind_some, escore_eq N _ ht, Option.bind_some]
end Go.Proofs.Ytpielijehhhobaa.Am
