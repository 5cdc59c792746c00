/- The plain law StoreSlots: the plain function says true at every input. -/
import Derived.Test.YtnckilklmkpooaaLawStore0s
import Derived.Test.YtnckilklmkpooaaLawFines
set_option linter.unusedVariables false
set_option linter.unusedSimpArgs false
set_option linter.unusedSectionVars false
namespace Go.Proofs.Ytnckilklmkpooaa.Am
open Go

theorem keyed_trueS : gamehallkeep1_keyed 300000000 = some true := by decide +kernel
abbrev threeS : RulesT := ((⟨#[84, 73, 67]⟩ : ByteArray), (3, (3, ([(65, (5, (0, [])))], ((List.replicate (9 : Int).toNat (0 : Int)), (false, (false, ([(0, (0, (3, false)))], (2, (0, 0))))))))))
theorem threeS_eq : gamehallkeep1_three 300000000 = some threeS := rfl
theorem three_ok : rules_Check 300000000 threeS = some 0 := by decide +kernel
theorem three_new (v : Nat) (h1 : 1 ≤ v) (h2 : v ≤ 4096) : store_New 300000000 threeS (v : Int) = some (some (threeS, (List.replicate v zS, (0, 0))), 0) := by
  rcases newS (N := 300000000) (by decide) threeS h1 h2 with ⟨e, h0, he⟩ | ⟨_, h⟩
  · obtain ⟨e2, g1, g2⟩ := rcheck (N := 300000000) (by decide) threeS
    exfalso
    have hr := g2.1 (by rw [three_ok] at g1; exact (Option.some.inj g1).symm)
    unfold store_New store_New.e at he
    rw [three_ok, Option.bind_some, bif_f (by rfl), bif_f (ltI_f (by omega)), bif_f (ltI_f (by omega)), rcopy_eq (by decide) hr, Option.bind_some, Option.bind_some, bothK_same, chk_of] at he
    · simp at he
    · rw [Int.toNat_natCast, leI_t (by omega), decide_eq_true (by omega)]
      unfold capOk
      rw [decide_eq_true (by omega)]
      rfl
  · exact h
theorem stored_true : gamehallkeep1_stored 300000000 = some true := by
  have h1 := three_new 1 (by omega) (by omega)
  have h9 := three_new 9 (by omega) (by omega)
  rw [show ((1 : Nat) : Int) = 1 from rfl] at h1
  rw [show ((9 : Nat) : Int) = 9 from rfl] at h9
  unfold gamehallkeep1_stored gamehallkeep1_stored.e
  simp only [threeS_eq, Option.bind_some, h1, h9]
  decide +kernel
/-- a slot that is filled -/
theorem entS_set {r : RulesT} {l : List EntT} {m f : Int} {p : PosT} {e : EntT} {i : Nat} (hi : i < l.length) : entS (r, (l.set i e, (m, f))) p = if i = slotN l.length p then e else entS (r, (l, (m, f))) p := by
  unfold entS
  dsimp only
  rw [List.length_set, List.getD_eq_getElem?_getD, List.getD_eq_getElem?_getD, List.getElem?_set]
  by_cases h : i = slotN l.length p
  · rw [if_pos h, if_pos h, if_pos hi]
    rfl
  · rw [if_neg h, if_neg h]
theorem storeSlots_at (r : RulesT) (p q : PosT) (a b size : Int) : gamehallkeep1_StoreSlots 300000000 r p q a b size = some true := by
  unfold gamehallkeep1_StoreSlots gamehallkeep1_StoreSlots.e
  rw [stored_true, Option.bind_some, bif_f (by rfl), keyed_trueS, Option.bind_some, bif_f (by rfl)]
  obtain ⟨k, hk1, hk2⟩ := wheelS size 7 (by omega) (by omega)
  rw [show ((7 : Nat) : Int) = 7 from rfl] at hk1
  rw [hk1, w64_id (x := (k : Int) + 1) (by omega) (by omega), show ((k : Int) + 1) = ((k + 1 : Nat) : Int) by omega]
  have hU : IntKind.wrap .u64 ((k + 1 : Nat) : Int) = ((k + 1 : Nat) : Int) := U_small (by omega)
  dsimp only
  rcases newS (N := 300000000) (by decide) r (v := k + 1) (by omega) (by omega) with ⟨e, h0, he⟩ | ⟨hr, h⟩
  · rw [he, Option.bind_some]
    show (bif (!(eqI e 0)) then (some (!(eqI e 0))) else some (!(eqI e 0))) = some true
    rw [eqI_f h0]
    rfl
  · rw [h, Option.bind_some]
    have hs0 := new_SOk hr (v := k + 1) (by omega) (by omega) 0 0
    generalize hS0 : ((r, (List.replicate (k + 1) zS, ((0 : Int), (0 : Int)))) : StoT) = s0 at hs0
    simp only [oCase]
    rw [bif_f (by rfl)]
    obtain ⟨v1, g1, g2⟩ := pcheck (N := 300000000) (by decide) r p
    obtain ⟨v2, g3, g4⟩ := pcheck (N := 300000000) (by decide) r q
    have key : ∀ (x : PosT) (v : Int), place_Check 300000000 r x = some v → (v = 0 ↔ ROk r ∧ POk r x) → Ret (zob_Key 300000000 r x) fun z => z.2 = v ∧ (v = 0 → z.1 = U (keyS x)) := by
      intro x v hv hv2
      unfold zob_Key zob_Key.e
      rw [hv, Option.bind_some]
      by_cases c : v = 0
      · rw [bif_f (by rw [eqI_t c]; rfl), of_eq (hv2.1 c).1 (hv2.1 c).2 (by decide), Option.bind_some]
        exact Ret.ret ⟨c.symm, fun _ => rfl⟩
      · rw [bif_t (by rw [eqI_f c]; rfl)]
        exact Ret.ret ⟨rfl, fun h => absurd h c⟩
    obtain ⟨z1, i1, i2, i3⟩ := key p v1 g1 g2
    obtain ⟨z2, i4, i5, i6⟩ := key q v2 g3 g4
    obtain ⟨z3, i7, i8⟩ := put_ret (N := 300000000) (by decide) hs0 p a (sc := 3) (by omega) (by omega)
    rw [i1, Option.bind_some, i4, Option.bind_some, i7, Option.bind_some, fine_eq (by simp) (by simp), Option.bind_some]
    by_cases hall : ∀ x ∈ [z1.2, z2.2, z3.1], x = 0
    · rw [bif_f (by rw [decide_eq_true hall]; rfl)]
      have c1 := hall z1.2 (by simp)
      have c2 := hall z2.2 (by simp)
      have c3 := hall z3.1 (by simp)
      rcases i8 with ⟨i8, _⟩ | ⟨_, hp, a1, a2, hz3⟩
      · exact absurd c3 i8
      have hq := (g4.1 (by omega)).2
      have hp' : POk r p := by rw [← hS0] at hp; exact hp
      have hr0 : s0.1 = r := by rw [← hS0]
      rw [hz3]
      have hs1 := keep_SOk (N := 300000000) (by decide) hs0 hp a 3
      -- the first one is kept
      have hlen : s0.2.1.length = k + 1 := by rw [← hS0]; simp
      have hent0 : (entS s0 p).2.2.2 = false := by
        have hm : entS s0 p ∈ s0.2.1 := by
          unfold entS
          rw [List.getD_eq_getElem?_getD, List.getElem?_eq_getElem (slot_eq hs0.n0 hs0.n1 p).2]
          exact List.getElem_mem _
        rw [← hS0] at hm
        have hm : entS s0 p ∈ List.replicate (k + 1) zS := by rw [← hS0]; exact hm
        rw [List.eq_of_mem_replicate hm]
      have hk1 : keepS s0 p a 3 = (r, (s0.2.1.set (slotN (k + 1) p) (p, (a, (3, true))), (w64 (s0.2.2.1 + 1), s0.2.2.2))) := by
        unfold keepS
        rw [if_neg (fun h => by rw [hent0] at h; cases h.1), hr0, hlen, if_neg (fun h => by rw [hent0] at h; cases h)]
      generalize hS1 : keepS s0 p a 3 = s1 at hs1 hk1
      have hr1 : s1.1 = r := by rw [hk1]
      have hlen1 : s1.2.1.length = k + 1 := by rw [hk1]; simpa using hlen
      have sp := (slot_eq (n := k + 1) (by omega) (by omega) p)
      have sq := (slot_eq (n := k + 1) (by omega) (by omega) q)
      have e1p : entS s1 p = (p, (a, (3, true))) := by
        rw [hk1, entS_set (by omega), hlen, if_pos rfl]
      obtain ⟨z4, j1, j2⟩ := put_ret (N := 300000000) (by decide) hs1 q b (sc := 4) (by omega) (by omega)
      rw [j1, Option.bind_some]
      rcases j2 with ⟨j2, _⟩ | ⟨j2, hq1, b1, b2, hz4⟩
      · rw [bif_t (by rw [eqI_f j2]; rfl)]
      · rw [bif_f (by rw [eqI_t j2]; rfl), hz4]
        have hs2 := keep_SOk (N := 300000000) (by decide) hs1 hq1 b 4
        have hkr : (keepS s1 q b 4).1 = r := by unfold keepS; split <;> exact hr1
        have hkl : (keepS s1 q b 4).2.1.length = k + 1 := by unfold keepS; split; exact hlen1; simpa using hlen1
        have hp2 : POk (keepS s1 q b 4).1 p := by rw [hkr]; exact hp'
        have hq2 : POk (keepS s1 q b 4).1 q := by rw [hkr]; exact hq
        rw [get_eq (by decide) hs2 hp2 a1 a2, Option.bind_some, hU, bif_f (eqI_f (by omega)), bif_f (eqI_f (by omega)), i3 (by omega), i6 (by omega)]
        have sp1 := sp.1
        have sq1 := sq.1
        rw [U_small (by omega)] at sp1 sq1
        rw [sp1, sq1]
        -- the entry of p's slot, afterwards
        have kept : (slotN (k + 1) p ≠ slotN (k + 1) q ∨ b < a) → entS (keepS s1 q b 4) p = (p, (a, (3, true))) := by
          intro h
          unfold keepS
          split
          · exact e1p
          · rename_i hn
            rcases h with h | h
            · rw [entS_set (by rw [hlen1]; exact sq.2), hlen1, if_neg (fun e => h e.symm)]
              exact e1p
            · by_cases hsl : slotN (k + 1) p = slotN (k + 1) q
              · exfalso
                apply hn
                have : entS s1 q = entS s1 p := by unfold entS; rw [hlen1, hsl]
                rw [this, e1p]
                exact ⟨rfl, h⟩
              · rw [entS_set (by rw [hlen1]; exact sq.2), hlen1, if_neg (fun e => hsl e.symm)]
                exact e1p
        by_cases hsl : slotN (k + 1) p = slotN (k + 1) q
        · rw [bif_f (by rw [eqI_t (by omega)]; rfl)]
          by_cases hba : b < a
          · rw [bif_t (ltI_t hba), kept (Or.inr hba), if_pos ⟨rfl, rfl, rfl⟩]
            rfl
          · rw [bif_f (ltI_f (by omega))]
            have e2q : entS (keepS s1 q b 4) q = (q, (b, (4, true))) := by
              unfold keepS
              have : entS s1 q = entS s1 p := by unfold entS; rw [hlen1, hsl]
              rw [this, e1p, if_neg (fun h => hba h.2), entS_set (by rw [hlen1]; exact sq.2), hlen1, if_pos rfl]
            -- looking up p changes no entry
            have fin : ∀ s3 : StoT, s3.1 = (keepS s1 q b 4).1 → s3.2.1 = (keepS s1 q b 4).2.1 → store_Store_Get' 300000000 s3 q b = some (4, (0, (s3.1, (s3.2.1, (s3.2.2.1, w64 (s3.2.2.2 + 1)))))) := by
              intro s3 f1 f2
              have hs3 : SOk s3 := ⟨by rw [f1]; exact hs2.r, by rw [f2]; exact hs2.n0, by rw [f2]; exact hs2.n1, fun e he h => by rw [f1]; exact hs2.es e (by rw [← f2]; exact he) h⟩
              have he : entS s3 q = entS (keepS s1 q b 4) q := by unfold entS; rw [f2]
              rw [get_eq (by decide) hs3 (by rw [f1]; exact hq2) b1 b2, he, e2q, if_pos ⟨rfl, rfl, rfl⟩]
            split
            · dsimp only
              rw [fin ((keepS s1 q b 4).1, ((keepS s1 q b 4).2.1, ((keepS s1 q b 4).2.2.1, w64 ((keepS s1 q b 4).2.2.2 + 1)))) rfl rfl, Option.bind_some]
              rfl
            · dsimp only
              rw [fin (keepS s1 q b 4) rfl rfl, Option.bind_some]
              rfl
        · rw [bif_t (by rw [eqI_f (by omega)]; rfl), kept (Or.inl hsl), if_pos ⟨rfl, rfl, rfl⟩]
          rfl
    · rw [bif_t (by rw [decide_eq_false hall]; rfl)]
end Go.Proofs.Ytnckilklmkpooaa.Am
