/- Arenas: a variable becomes a node; a node changes. -/
import Derived.Test.YtfihdjjilofklaaGreatAm3
set_option linter.unusedVariables false
set_option linter.unusedSimpArgs false
namespace Go.Proofs.YtfihdjjilofklaaGreat.Am
open Go
section
variable {g : Beg} {ρ : Nat → Value} {F : FS} {s : St} {a : Act} {w w' : World}
theorem nodup_get {l : List Nat} (h : l.Nodup) {i j b : Nat} (hi : l[i]? = some b) (hj : l[j]? = some b) : i = j := by
 obtain ⟨h1, h2⟩ := List.getElem?_eq_some_iff.1 hi
 obtain ⟨h3, h4⟩ := List.getElem?_eq_some_iff.1 hj
 rcases Nat.lt_trichotomy i j with q | q | q
 ·exact absurd (h2.trans h4.symm) (List.pairwise_iff_getElem.1 h i j h1 h3 q)
 ·exact q
 ·exact absurd (h4.trans h2.symm) (List.pairwise_iff_getElem.1 h j i h3 h1 q)
def FS.grow (F : FS) (bk : Nat) : FS := ⟨F.p, F.nu ++ [bk], fun i n => if i = F.nu.length then (if n = 0 then some (.slice none 0 0) else none) else F.ka i n⟩
theorem unNode_ok {ta tb : Ty} {l : List AC} {r : ta.den × List Int × tb.den} {N : Nat} {vs : List Value} (h : unNode ta tb l = some r) (hc : CRs w ρ F N l vs) : NC w F ta tb r (.slice none 0 0) vs ∧ r.2.1 = [] := by
 unfold unNode at h
 split at h <;> try cases h
 rename_i x l' h1
 split at h <;> cases h
 rename_i y h2
 obtain ⟨v1, v2, rfl, h3, h4⟩ := unflat_ok ta h1 hc
 cases h4 with
 | cons h5 h6 =>
  unfold CR at h5
  subst h5
  exact ⟨⟨v1, _, rfl, h3, unflatAll_ok tb h2 h6⟩, rfl⟩
theorem SX.push (h : SX g ρ F s a w) {k : Nat} {m' : List AO} {j : Int} (hp : pushA k s.mem = some (m', j)) :
  ∃ ρ' F', Mv w w F F' ∧ (∀ q, q < s.mem.length → ρ' q = ρ q) ∧ s.mem.length ≤ m'.length ∧ SX g ρ' F' ⟨s.tmps, m'⟩ a w ∧ 0 ≤ j ∧ ∃ bk, ρ k = .pointer (some ⟨bk, 0, none⟩) ∧ F'.nu[j.toNat]? = some bk := by
 unfold pushA at hp
 split at hp <;> try cases hp
 rename_i n hn
 obtain ⟨_, huniq⟩ := findA_ok hn
 split at hp <;> try cases hp
 rename_i T e ta tb recs T' l hmn hmk
 split at hp <;> try cases hp
 rename_i hT
 subst hT
 split at hp <;> cases hp
 rename_i r hr
 obtain ⟨ks, hρn, har⟩ := h.mr.obj _ _ hmn
 obtain ⟨bk, cs, hρk, hbk, hcr⟩ := h.mr.obj _ _ hmk
 obtain ⟨hnc, hr0⟩ := unNode_ok hr hcr
 have hln : live s.mem n := ⟨_, hmn, by simp⟩
 have hlk : live s.mem k := ⟨_, hmk, by simp⟩
 have hnk : n ≠ k := by intro e; subst e; rw [hmn] at hmk; cases hmk
 have hbkk : bk ∈ blk (ρ k) := by rw [hρk]; simp [blk, blk1]
 have hnn : ∀ b, b ∈ blk (ρ n) ↔ b ∈ F.nu ∨ ∃ v ∈ ks, b ∈ blk1 v := fun b => by rw [hρn]; exact mem_blkA
 have hbn : bk ∉ blk (ρ n) := fun hb => hnk (h.mr.inj n k bk hln hlk hb hbkk)
 have hle : F.le (F.grow bk) := by
  refine ⟨fun _ h => h, fun i b hb => ?_, fun i m v hv => ?_⟩
  ·show (F.nu ++ [bk])[i]? = some b
   rw [List.getElem?_append_left (List.getElem?_eq_some_iff.1 hb).1]
   exact hb
  ·show (if i = F.nu.length then (if m = 0 then some (.slice none 0 0) else none) else F.ka i m) = some v
   have : i ≠ F.nu.length := fun e => by rw [har.out i m (by rw [← har.nl, e]; exact Nat.le_refl _)] at hv; cases hv
   rw [if_neg this]
   exact hv
 have hm : Mv w w F (F.grow bk) := ⟨hle, fun _ _ => rfl⟩
 let v : Value := .agg (ptrs (F.grow bk).nu ++ (ks ++ [Value.slice none 0 0])).toArray
 have hv : ∀ b, b ∈ blk v ↔ b ∈ blk (ρ n) ∨ b = bk := fun b => by
  rw [hnn]
  show b ∈ blk (.agg (ptrs (F.nu ++ [bk]) ++ (ks ++ [Value.slice none 0 0])).toArray) ↔ _
  rw [mem_blkA]
  simp only [List.mem_append, List.mem_singleton]
  constructor
  ·rintro ((h1 | h1) | ⟨u, h1 | rfl, h2⟩)
   ·exact .inl (.inl h1)
   ·exact .inr h1
   ·exact .inl (.inr ⟨u, h1, h2⟩)
   ·simp [blk1] at h2
  ·rintro ((h1 | ⟨u, h1, h2⟩) | h1)
   ·exact .inl (.inl h1)
   ·exact .inr ⟨u, .inl h1, h2⟩
   ·exact .inl (.inr h1)
 have hne : ∀ q, q < s.mem.length → upd ρ s.mem.length v q = ρ q := fun q hq => upd_ne _ _ (by omega)
 have hl0 : ((s.mem.set k .gone).set n .gone).length = s.mem.length := by simp
 have hnl := live_lt hln
 have hkl := live_lt hlk
 have hget : ∀ q o, ((s.mem.set k .gone).set n .gone ++ [AO.arena T' e ta tb (recs ++ [r]) none])[q]? = some o → (q < s.mem.length ∧ (o = .gone ∨ (q ≠ n ∧ q ≠ k ∧ s.mem[q]? = some o))) ∨ (q = s.mem.length ∧ o = AO.arena T' e ta tb (recs ++ [r]) none) := by
  intro q o hq
  rcases Nat.lt_trichotomy q s.mem.length with h3 | h3 | h3
  ·rw [List.getElem?_append_left (by omega)] at hq
   refine .inl ⟨h3, ?_⟩
   by_cases e1 : q = n
   ·subst e1
    rw [List.getElem?_set_self (by simpa using h3)] at hq
    cases hq
    exact .inl rfl
   ·rw [List.getElem?_set_ne (fun e' => e1 e'.symm)] at hq
    by_cases e2 : q = k
    ·subst e2
     rw [List.getElem?_set_self h3] at hq
     cases hq
     exact .inl rfl
    ·rw [List.getElem?_set_ne (fun e' => e2 e'.symm)] at hq
     exact .inr ⟨e1, e2, hq⟩
  ·subst h3
   rw [← hl0, List.getElem?_append_right (Nat.le_refl _), Nat.sub_self] at hq
   simp at hq
   exact .inr ⟨rfl, hq.symm⟩
  ·rw [List.getElem?_eq_none (by simp; omega)] at hq
   cases hq
 have hlive : ∀ q, live ((s.mem.set k .gone).set n .gone ++ [AO.arena T' e ta tb (recs ++ [r]) none]) q → (q < s.mem.length ∧ live s.mem q ∧ q ≠ n ∧ q ≠ k) ∨ q = s.mem.length := by
  intro q ⟨o, h1, h2⟩
  rcases hget q o h1 with ⟨h3, h4 | ⟨h4, h5, h6⟩⟩ | ⟨h3, _⟩
  ·exact absurd h4 h2
  ·exact .inl ⟨h3, ⟨o, h6, h2⟩, h4, h5⟩
  ·exact .inr h3
 have hblk : ∀ q b, live ((s.mem.set k .gone).set n .gone ++ [AO.arena T' e ta tb (recs ++ [r]) none]) q → b ∈ blk (upd ρ s.mem.length v q) → (q < s.mem.length ∧ live s.mem q ∧ q ≠ n ∧ q ≠ k ∧ b ∈ blk (ρ q)) ∨ (q = s.mem.length ∧ (b ∈ blk (ρ n) ∨ b ∈ blk (ρ k))) := by
  intro q b hq h1
  rcases hlive q hq with ⟨h2, h3, h4, h5⟩ | h2
  ·rw [hne q h2] at h1
   exact .inl ⟨h2, h3, h4, h5, h1⟩
  ·subst h2
   rw [upd_same] at h1
   refine .inr ⟨rfl, ?_⟩
   rcases (hv b).1 h1 with h1 | rfl
   ·exact .inl h1
   ·exact .inr hbkk
 have hAR : AR w (F.grow bk) T' e ta tb (recs ++ [r]) none (ks ++ [Value.slice none 0 0]) := by
  refine ⟨by show (F.nu ++ [bk]).length = _; simp [har.nl], by simp [har.kl], fun i r' hr' => ?_, fun i m hi => ?_, ?_, ?_, ?_⟩
  ·rcases Nat.lt_or_ge i recs.length with hi | hi
   ·rw [List.getElem?_append_left hi] at hr'
    obtain ⟨bk', kv, g1, g2⟩ := har.node i r' hr'
    refine ⟨bk', kv, ?_, g2.mono hm (fun m => ?_) rfl (fun _ _ => rfl)⟩
    ·rw [List.getElem?_append_left (by rw [har.kl]; exact hi)]; exact g1
    ·show (if i = F.nu.length then _ else F.ka i m) = _
     rw [if_neg (by rw [har.nl]; omega)]
   ·rw [List.getElem?_append_right hi] at hr'
    obtain ⟨e1, e2⟩ : i = recs.length ∧ r' = r := by
     cases hd : i - recs.length with
     | zero => rw [hd] at hr'; simp at hr'; exact ⟨by omega, hr'.symm⟩
     | succ d => rw [hd] at hr'; simp at hr'
    subst e1
    subst e2
    have hka : ∀ m, (F.grow bk).ka recs.length m = if m = 0 then some (.slice none 0 0) else none := fun m => by
     show (if recs.length = F.nu.length then _ else _) = _
     rw [if_pos har.nl.symm]
    refine ⟨bk, .slice none 0 0, ?_, ?_, ⟨cs, .slice none 0 0, hbk, hnc.mono hm, ?_, ?_⟩, ?_, ?_, ?_⟩
    ·rw [← har.kl, List.getElem?_append_right (Nat.le_refl _), Nat.sub_self]; rfl
    ·show (F.nu ++ [bk])[recs.length]? = _
     rw [← har.nl, List.getElem?_append_right (Nat.le_refl _), Nat.sub_self]; rfl
    ·rw [hr0, hka]; rfl
    ·rw [hr0]; exact .inl ⟨rfl, rfl⟩
    ·rw [hr0, hka]; rfl
    ·rw [hr0]; exact .inl ⟨rfl, rfl⟩
    ·intro m hm'
     rw [hka, if_neg (by omega)]
  ·show (if i = F.nu.length then _ else F.ka i m) = none
   rw [List.length_append, List.length_singleton] at hi
   rw [if_neg (by rw [har.nl]; omega)]
   exact har.out i m (by omega)
  ·show (F.nu ++ [bk]).Nodup
   rw [List.nodup_append]
   refine ⟨har.nd, by simp, fun x hx y hy e => ?_⟩
   simp only [List.mem_singleton] at hy
   subst hy
   subst e
   exact hbn ((hnn _).2 (.inl hx))
  ·have hk : ∀ (i : Nat) (u : Value), (ks ++ [Value.slice none 0 0])[i]? = some u → ks[i]? = some u ∨ u = .slice none 0 0 := by
    intro i u hu
    rcases Nat.lt_or_ge i ks.length with hi | hi
    ·rw [List.getElem?_append_left hi] at hu; exact .inl hu
    ·rw [List.getElem?_append_right hi] at hu
     cases hd : i - ks.length with
     | zero => rw [hd] at hu; simp at hu; exact .inr hu.symm
     | succ d => rw [hd] at hu; simp at hu
   intro i j u v' hij hu hv' b h1 h2
   rcases hk i u hu with hu | rfl
   ·rcases hk j v' hv' with hv' | rfl
    ·exact har.kd i j u v' hij hu hv' b h1 h2
    ·simp [blk1] at h2
   ·simp [blk1] at h1
  ·intro b hb u hu hbu
   rcases List.mem_append.1 (show b ∈ F.nu ++ [bk] from hb) with hb | hb <;> rcases List.mem_append.1 hu with hu | hu
   ·exact har.sep b hb u hu hbu
   ·simp only [List.mem_singleton] at hu; subst hu; simp [blk1] at hbu
   ·simp only [List.mem_singleton] at hb; subst hb; exact hbn ((hnn _).2 (.inr ⟨u, hu, hbu⟩))
   ·simp only [List.mem_singleton] at hu; subst hu; simp [blk1] at hbu
 refine ⟨upd ρ s.mem.length v, F.grow bk, hm, hne, by simp, ⟨?_, ⟨?_, ?_, ?_, ?_⟩, ⟨h.gl.os, h.gl.tape, h.gl.output, h.gl.size, h.gl.keep, ?_, h.gl.fro.trans hle, h.gl.froB, ?_, fun q hq => by rw [hne q (Nat.lt_of_lt_of_le hq h.gl.len)]; exact h.gl.rho q hq⟩, h.defers, h.gb.mono hm⟩, Int.natCast_nonneg _, bk, hρk, ?_⟩
 ·exact h.tr.mono hm (fun x _ c _ n hn _ => hne n hn) (by simp)
 ·intro q o hq
  rw [List.length_append, List.length_singleton, hl0]
  rcases hget q o hq with ⟨h3, rfl | ⟨h4, h5, h6⟩⟩ | ⟨rfl, rfl⟩
  ·trivial
  ·rw [hne q h3]
   exact (h.mr.obj q o h6).mono hm (fun _ _ _ c _ k hk _ => hne k hk) (by omega) (fun _ _ => rfl) (.inl (huniq q o h4 h6))
  ·rw [upd_same]
   exact ⟨_, rfl, hAR⟩
 ·intro j k' b hj hk h1 h2
  rcases hblk j b hj h1 with ⟨_, l1, n1, q1, e1⟩ | ⟨e1, g1⟩ <;> rcases hblk k' b hk h2 with ⟨_, l2, n2, q2, e2⟩ | ⟨e2, g2⟩
  ·exact h.mr.inj j k' b l1 l2 e1 e2
  ·rcases g2 with g2 | g2
   ·exact absurd (h.mr.inj j n b l1 hln e1 g2) n1
   ·exact absurd (h.mr.inj j k b l1 hlk e1 g2) q1
  ·rcases g1 with g1 | g1
   ·exact absurd (h.mr.inj k' n b l2 hln e2 g1) n2
   ·exact absurd (h.mr.inj k' k b l2 hlk e2 g1) q2
  ·omega
 ·intro q b hq h1 hf
  rcases hblk q b hq h1 with ⟨_, l1, n1, q1, e1⟩ | ⟨e1, g1 | g1⟩
  ·exact h.mr.sep q b l1 e1 hf
  ·exact h.mr.sep n b hln g1 hf
  ·exact h.mr.sep k b hlk g1 hf
 ·exact fun b hf => h.mr.lt b hf
 ·rintro b ⟨q, hq, h1⟩
  rcases hblk q b hq h1 with ⟨_, l1, n1, q1, e1⟩ | ⟨e1, g1 | g1⟩
  ·exact h.gl.own b ⟨q, l1, e1⟩
  ·exact h.gl.own b ⟨n, hln, g1⟩
  ·exact h.gl.own b ⟨k, hlk, g1⟩
 ·have := h.gl.len
  simp
  omega
 ·show (F.nu ++ [bk])[(recs.length : Int).toNat]? = some bk
  rw [Int.toNat_natCast, ← har.nl, List.getElem?_append_right (Nat.le_refl _), Nat.sub_self]; rfl
theorem SX.setNode (h : SX g ρ F s a w) {n T e : Nat} {ta tb : Ty} {recs : List (ta.den × List Int × tb.den)} {pend pend' : Option (Int × List Int)} (hn : s.mem[n]? = some (.arena T e ta tb recs pend)) {i bk : Nat} (hb : F.nu[i]? = some bk)
  (hw : w.grownBy w' (some bk)) {r : ta.den × List Int × tb.den} (hp : ∀ j, j ≠ i → more pend' j = more pend j)
  (hnode : ∀ kv r0, recs[i]? = some r0 → Node w F T e ta tb r0 (more pend i) i bk kv → (∀ b, b ∈ blk1 kv → w'.heap[b]? = w.heap[b]?) → Mv w w' F F → Node w' F T e ta tb r (more pend' i) i bk kv) :
  SX g ρ F ⟨s.tmps, s.mem.set n (.arena T e ta tb (recs.set i r) pend')⟩ a w' := by
 have hln : live s.mem n := ⟨_, hn, by simp⟩
 obtain ⟨ks, hρ, har⟩ := h.mr.obj _ _ hn
 have hbn : bk ∈ blk (ρ n) := by rw [hρ]; exact mem_blkA.2 (.inl (List.mem_of_getElem? hb))
 have hsep : ∀ v ∈ ks, bk ∉ blk1 v := har.sep bk (List.mem_of_getElem? hb)
 have hm : Mv w w' F F := ⟨.refl F, fun b hf => hw.block b (h.mr.lt b hf) (fun e => h.mr.sep n bk hln hbn (by cases e; exact hf))⟩
 have hsize : ∀ b, b ∈ blk (ρ n) → b < w.heap.size := fun b hb => h.own_lt hln hb
 have hrow : ∀ v ∈ ks, ∀ b, b ∈ blk1 v → w'.heap[b]? = w.heap[b]? := fun v hv b hb' =>
  hw.block b (hsize b (by rw [hρ]; exact mem_blkA.2 (.inr ⟨v, hv, hb'⟩))) (fun e => by cases e; exact hsep v hv hb')
 refine h.setObj hln (ob := some bk) (fun b e => by cases e; exact hbn) hw ⟨ks, hρ, ?_⟩
 have hil : i < recs.length := by rw [← har.nl]; exact (List.getElem?_eq_some_iff.1 hb).1
 refine ⟨by rw [List.length_set]; exact har.nl, by rw [List.length_set]; exact har.kl, fun j r' hr' => ?_, fun j m hj => har.out j m (by rw [List.length_set] at hj; exact hj), har.nd, har.kd, har.sep⟩
 by_cases hji : j = i
 ·subst hji
  rw [List.getElem?_set_self hil] at hr'
  cases hr'
  obtain ⟨bk', kv, g1, g2⟩ := har.node j _ (List.getElem?_eq_getElem hil)
  have := g2.nu
  rw [hb] at this
  cases this
  exact ⟨bk, kv, g1, hnode kv _ (List.getElem?_eq_getElem hil) g2 (hrow kv (List.mem_of_getElem? g1)) hm⟩
 ·rw [List.getElem?_set_ne (fun e => hji e.symm)] at hr'
  obtain ⟨bk', kv, g1, g2⟩ := har.node j _ hr'
  refine ⟨bk', kv, g1, ?_⟩
  rw [hp j hji]
  refine g2.mono hm (fun _ => rfl) ?_ (hrow kv (List.mem_of_getElem? g1))
  refine hw.block bk' (hsize bk' (by rw [hρ]; exact mem_blkA.2 (.inl (List.mem_of_getElem? g2.nu)))) (fun e => ?_)
  cases e
  exact hji (nodup_get har.nd g2.nu hb)
end
end Go.Proofs.YtfihdjjilofklaaGreat.Am
