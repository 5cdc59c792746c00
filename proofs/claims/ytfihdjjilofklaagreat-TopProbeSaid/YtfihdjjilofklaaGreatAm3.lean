/- New objects, changed objects, objects that become immutable. -/
import Derived.Test.YtfihdjjilofklaaGreatAm2
set_option linter.unusedVariables false
set_option linter.unusedSimpArgs false
namespace Go.Proofs.YtfihdjjilofklaaGreat.Am
open Go
def upd (ρ : Nat → Value) (n : Nat) (v : Value) : Nat → Value := fun k => if k = n then v else ρ k
theorem upd_same (ρ : Nat → Value) (n : Nat) (v : Value) : upd ρ n v n = v := by simp [upd]
theorem upd_ne (ρ : Nat → Value) {n k : Nat} (v : Value) (h : k ≠ n) : upd ρ n v k = ρ k := by simp [upd, h]
theorem mem_blkA {b : Nat} {l : List Nat} {ks : List Value} : b ∈ blk (.agg (ptrs l ++ ks).toArray) ↔ b ∈ l ∨ ∃ v ∈ ks, b ∈ blk1 v := by
 have h : blk (.agg (ptrs l ++ ks).toArray) = ((ptrs l ++ ks).map blk1).flatten := by simp [blk]
 rw [h, List.map_append, List.flatten_append, List.mem_append]
 clear h
 refine or_congr ?_ ?_
 ·induction l with
  | nil => simp [ptrs]
  | cons a l ih =>
   have e : ((ptrs (a :: l)).map blk1).flatten = a :: ((ptrs l).map blk1).flatten := rfl
   rw [e, List.mem_cons, List.mem_cons, ih]
 ·simp only [List.mem_flatten, List.mem_map]
  constructor
  ·rintro ⟨_, ⟨v, h1, rfl⟩, h2⟩; exact ⟨v, h1, h2⟩
  ·rintro ⟨v, h1, h2⟩; exact ⟨_, ⟨v, h1, rfl⟩, h2⟩
theorem ownsRow.stay {w w' : World} {e sz n : Nat} {v : Value} {vs : List Value} (hb : ∀ b, b ∈ blk1 v → w'.heap[b]? = w.heap[b]?) (h : w.ownsRow 0 e sz v n vs) : w'.ownsRow 0 e sz v n vs := by
 refine ⟨h.1, ?_⟩
 rcases h.2 with h3 | ⟨g, cap, cur, rfl, h4, h5, h6⟩
 ·exact .inl h3
 ·exact .inr ⟨g, cap, cur, rfl, h4, by rw [hb g (by simp [blk1])]; exact h5, h6⟩
theorem NC.mono {w w' : World} {F F' : FS} (hm : Mv w w' F F') {a b : Ty} {r : a.den × List Int × b.den} {k : Value} {l : List Value} (h : NC w F a b r k l) : NC w' F' a b r k l := by
 obtain ⟨l1, l2, h1, h2, h3⟩ := h
 exact ⟨l1, l2, h1, RT.mono hm.le hm.same a h2, RT.mono hm.le hm.same b h3⟩
theorem KR.mono {w w' : World} {F F' : FS} (hm : Mv w w' F F') {e : Nat} {xs : List Int} {v : Value} (hb : ∀ b, b ∈ blk1 v → w'.heap[b]? = w.heap[b]?) (h : KR w F e xs v) : KR w' F' e xs v := by
 rcases h with h | ⟨h1, vs, h2, h3⟩
 ·exact .inl h
 ·exact .inr ⟨h1, vs, ownsRow.stay hb h2, h3.mono hm.le hm.same⟩
theorem Node.mono {w w' : World} {F F' : FS} (hm : Mv w w' F F') {T e : Nat} {a b : Ty} {r : a.den × List Int × b.den} {ys : List Int} {i bk : Nat} {kv : Value} (hk : ∀ n, F'.ka i n = F.ka i n) (h1 : w'.heap[bk]? = w.heap[bk]?) (hb : ∀ b, b ∈ blk1 kv → w'.heap[b]? = w.heap[b]?) (h : Node w F T e a b r ys i bk kv) : Node w' F' T e a b r ys i bk kv := by
 obtain ⟨cs, k0, g1, g2, g3, g4⟩ := h.cells
 exact ⟨hm.le.nu _ _ h.nu, ⟨cs, k0, by rw [h1]; exact g1, g2.mono hm, by rw [hk]; exact g3, g4⟩, by rw [hk]; exact h.now, h.row.mono hm hb, fun n hn => by rw [hk]; exact h.top n hn⟩
theorem AR.mono {w w' : World} {F F' : FS} (hm : Mv w w' F F') (hs : F.same F') {T e : Nat} {a b : Ty} {recs : List (a.den × List Int × b.den)} {pend : Option (Int × List Int)} {ks : List Value}
  (hb : ∀ b, (b ∈ F.nu ∨ ∃ v ∈ ks, b ∈ blk1 v) → w'.heap[b]? = w.heap[b]?) (h : AR w F T e a b recs pend ks) : AR w' F' T e a b recs pend ks := by
 refine ⟨by rw [hs.1]; exact h.nl, h.kl, fun i r hr => ?_, fun i n hi => by rw [hs.2]; exact h.out i n hi, by rw [hs.1]; exact h.nd, h.kd, fun b hb' => h.sep b (by rw [← hs.1]; exact hb')⟩
 obtain ⟨bk, kv, h1, h2⟩ := h.node i r hr
 exact ⟨bk, kv, h1, h2.mono hm (fun n => by rw [hs.2]) (hb bk (.inl (List.mem_of_getElem? h2.nu))) (fun b hb' => hb b (.inr ⟨kv, List.mem_of_getElem? h1, hb'⟩))⟩
theorem ObjR.mono {w w' : World} {ρ ρ' : Nat → Value} {F F' : FS} {N N' : Nat} {o : AO} {v : Value} (hm : Mv w w' F F') (hρ : ∀ T l, o = .var T l → ∀ c ∈ l, ∀ n, n < N → c.nm = some n → ρ' n = ρ n) (hN : N ≤ N')
  (hb : ∀ b, b ∈ blk v → w'.heap[b]? = w.heap[b]?) (h : ObjR w ρ F N o v) (hA : isArena o = false ∨ F.same F' := by exact .inr ⟨rfl, rfl⟩) : ObjR w' ρ' F' N' o v := by
 cases o with
 | var T l =>
  obtain ⟨b, vs, rfl, h1, h2⟩ := h
  exact ⟨b, vs, rfl, by rw [hb b (by simp [blk, blk1])]; exact h1, h2.mono hm (hρ T l rfl) hN⟩
 | row e t xs =>
  obtain ⟨vs, h1, h2⟩ := h
  refine ⟨vs, ⟨h1.1, ?_⟩, h2.mono hm.le hm.same⟩
  rcases h1.2 with h3 | ⟨g, cap, cur, rfl, h4, h5, h6⟩
  ·exact .inl h3
  ·exact .inr ⟨g, cap, cur, rfl, h4, by rw [hb g (by simp [blk, blk1])]; exact h5, h6⟩
 | mapo ka va kt vt xs =>
  obtain ⟨b, es, clock, rfl, h1, h2⟩ := h
  exact ⟨b, es, clock, rfl, by rw [hb b (by simp [blk, blk1])]; exact h1, h2⟩
 | arena T e a b recs pend =>
  obtain ⟨ks, rfl, h1⟩ := h
  rcases hA with hA | hA
  ·cases hA
  ·exact ⟨ks, by rw [hA.1], h1.mono hm hA (fun b hb' => hb b (mem_blkA.2 hb'))⟩
 | gone => trivial
theorem ObjR.stay {w : World} {ρ ρ' : Nat → Value} {F : FS} {N N' : Nat} {o : AO} {v : Value} (ho : ∀ T l, o ≠ .var T l) (h : ObjR w ρ F N o v) : ObjR w ρ' F N' o v := by
 cases o with
 | var T l => exact absurd rfl (ho T l)
 | row e t xs => exact h
 | mapo ka va kt vt xs => exact h
 | arena T e a b recs pend => exact h
 | gone => trivial
theorem live_lt {m : List AO} {n : Nat} (h : live m n) : n < m.length := by
 obtain ⟨o, h, _⟩ := h
 exact (List.getElem?_eq_some_iff.1 h).1
theorem live_set {m : List AO} {n k : Nat} (h : live (m.set n .gone) k) : live m k ∧ k ≠ n := by
 obtain ⟨q, h1, h2⟩ := h
 by_cases hk : k = n
 ·subst hk
  by_cases hl : k < m.length
  ·rw [List.getElem?_set_self hl] at h1
   cases h1
   exact absurd rfl h2
  ·rw [List.getElem?_eq_none (by simp; omega)] at h1
   cases h1
 ·rw [List.getElem?_set_ne (fun e => hk e.symm)] at h1
  exact ⟨⟨q, h1, h2⟩, hk⟩
theorem obj_blk_lt {w : World} {ρ : Nat → Value} {F : FS} {N b : Nat} {o : AO} {v : Value} (h : ObjR w ρ F N o v) (ho : o ≠ .gone) (hb : b ∈ blk v) : b < w.heap.size := by
 cases o with
 | var T l =>
  obtain ⟨b', vs, rfl, h1, h2⟩ := h
  simp only [blk, blk1, List.mem_singleton] at hb
  subst hb
  exact (Array.getElem?_eq_some_iff.1 h1).1
 | row e t xs =>
  obtain ⟨vs, h1, h2⟩ := h
  rcases h1.2 with ⟨rfl, _⟩ | ⟨g, cap, cur, rfl, h4, h5, h6⟩
  ·simp [blk, blk1] at hb
  ·simp only [blk, blk1, List.mem_singleton] at hb
   subst hb
   exact (Array.getElem?_eq_some_iff.1 h5).1
 | mapo ka va kt vt xs =>
  obtain ⟨b', es, clock, rfl, h1, h2⟩ := h
  simp only [blk, blk1, List.mem_singleton] at hb
  subst hb
  exact (Array.getElem?_eq_some_iff.1 h1).1
 | arena T e a b' recs pend =>
  obtain ⟨ks, rfl, h1⟩ := h
  rcases mem_blkA.1 hb with hb | ⟨v, hv, hb⟩
  ·obtain ⟨i, hi⟩ := List.mem_iff_getElem?.1 hb
   have hl : i < recs.length := by rw [← h1.nl]; exact (List.getElem?_eq_some_iff.1 hi).1
   obtain ⟨bk, kv, g1, g2⟩ := h1.node i _ (List.getElem?_eq_getElem hl)
   have := g2.nu
   rw [hi] at this
   cases this
   obtain ⟨cs, k0, g3, _⟩ := g2.cells
   exact (Array.getElem?_eq_some_iff.1 g3).1
  ·obtain ⟨i, hi⟩ := List.mem_iff_getElem?.1 hv
   have hl : i < recs.length := by rw [← h1.kl]; exact (List.getElem?_eq_some_iff.1 hi).1
   obtain ⟨bk, kv, g1, g2⟩ := h1.node i _ (List.getElem?_eq_getElem hl)
   rw [hi] at g1
   cases g1
   rcases g2.row with ⟨_, rfl⟩ | ⟨_, vs, g3, _⟩
   ·simp [blk1] at hb
   ·rcases g3.2 with ⟨rfl, _⟩ | ⟨g, cap, cur, rfl, h4, h5, h6⟩
    ·simp [blk1] at hb
    ·simp only [blk1, List.mem_singleton] at hb
     subst hb
     exact (Array.getElem?_eq_some_iff.1 h5).1
 | gone => exact absurd rfl ho
section
variable {g : Beg} {ρ : Nat → Value} {F : FS} {s : St} {a : Act} {w w' : World}
theorem SX.own_lt (h : SX g ρ F s a w) {n b : Nat} (hl : live s.mem n) (hb : b ∈ blk (ρ n)) : b < w.heap.size := by
 obtain ⟨o, h1, h2⟩ := hl
 exact obj_blk_lt (h.mr.obj n o h1) h2 hb
theorem Mv.grown (hw : w.grownBy w' none) (hF : ∀ b, F b → b < w.heap.size) : Mv w w' F F :=
 ⟨.refl F, fun b hb => hw.block b (hF b hb) (by simp)⟩
theorem SX.newObj (h : SX g ρ F s a w) (hw : w.grownBy w' none) {o : AO} {v : Value} (hb : ∀ b, b ∈ blk v → w.heap.size ≤ b)
  (ho : ObjR w' (upd ρ s.mem.length v) F (s.mem.length + 1) o v) : SX g (upd ρ s.mem.length v) F ⟨s.tmps, s.mem ++ [o]⟩ a w' := by
 have hm : Mv w w' F F := Mv.grown hw h.mr.lt
 have hne : ∀ k, k < s.mem.length → upd ρ s.mem.length v k = ρ k := fun k hk => upd_ne _ _ (by omega)
 have hlive : ∀ n, live (s.mem ++ [o]) n → n < s.mem.length ∧ live s.mem n ∨ n = s.mem.length := by
  intro n ⟨q, h1, h2⟩
  rcases Nat.lt_trichotomy n s.mem.length with h3 | h3 | h3
  ·rw [List.getElem?_append_left h3] at h1
   exact .inl ⟨h3, q, h1, h2⟩
  ·exact .inr h3
  ·rw [List.getElem?_eq_none (by simp; omega)] at h1
   cases h1
 have hblk : ∀ n b, live (s.mem ++ [o]) n → b ∈ blk (upd ρ s.mem.length v n) → (n < s.mem.length ∧ live s.mem n ∧ b ∈ blk (ρ n) ∧ b < w.heap.size) ∨ (n = s.mem.length ∧ w.heap.size ≤ b) := by
  intro n b hn hb'
  rcases hlive n hn with ⟨h1, h2⟩ | h1
  ·rw [hne n h1] at hb'
   exact .inl ⟨h1, h2, hb', h.own_lt h2 hb'⟩
  ·subst h1
   rw [upd_same] at hb'
   exact .inr ⟨rfl, hb b hb'⟩
 refine ⟨?_, ⟨?_, ?_, ?_, ?_⟩, ⟨?_, ?_, ?_, ?_, ?_, ?_, h.gl.fro, h.gl.froB, by have := h.gl.len; simp; omega, fun n hn => by rw [hne n (Nat.lt_of_lt_of_le hn h.gl.len)]; exact h.gl.rho n hn⟩, h.defers, h.gb.mono hm⟩
 ·exact h.tr.mono hm (fun x _ c _ n hn _ => hne n hn) (by simp)
 ·intro n q hq
  rw [List.length_append, List.length_singleton]
  rcases Nat.lt_trichotomy n s.mem.length with h3 | h3 | h3
  ·rw [List.getElem?_append_left h3] at hq
   rw [hne n h3]
   cases hg : q with
   | gone => trivial
   | _ =>
    rw [← hg]
    have hl : live s.mem n := ⟨q, hq, by rw [hg]; simp⟩
    exact (h.mr.obj n q hq).mono hm (fun _ _ _ c _ k hk _ => hne k hk) (by omega) (fun b hb' => hw.block b (h.own_lt hl hb') (by simp))
  ·subst h3
   simp at hq
   subst hq
   rw [upd_same]
   exact ho
  ·rw [List.getElem?_eq_none (by simp; omega)] at hq
   cases hq
 ·intro n k b hn hk h1 h2
  rcases hblk n b hn h1 with ⟨_, l1, e1, g1⟩ | ⟨e1, g1⟩ <;> rcases hblk k b hk h2 with ⟨_, l2, e2, g2⟩ | ⟨e2, g2⟩
  ·exact h.mr.inj n k b l1 l2 e1 e2
  ·omega
  ·omega
  ·omega
 ·intro n b hn h1 hf
  have := h.mr.lt b hf
  rcases hblk n b hn h1 with ⟨_, l1, e1, g1⟩ | ⟨e1, g1⟩
  ·exact h.mr.sep n b l1 e1 hf
  ·omega
 ·intro b hf
  exact Nat.lt_of_lt_of_le (h.mr.lt b hf) hw.size
 ·exact hw.os.trans h.gl.os
 ·exact hw.tape.trans h.gl.tape
 ·exact hw.output.trans h.gl.output
 ·exact Nat.le_trans h.gl.size hw.size
 ·intro b h1 h2
  rw [hw.block b (Nat.lt_of_lt_of_le h1 h.gl.size) (by simp)]
  exact h.gl.keep b h1 h2
 ·rintro b ⟨n, hn, h1⟩
  rcases hblk n b hn h1 with ⟨_, l1, e1, g1⟩ | ⟨e1, g1⟩
  ·exact h.gl.own b ⟨n, l1, e1⟩
  ·exact .inr (Nat.le_trans h.gl.size g1)
theorem SX.setObj (h : SX g ρ F s a w) {n : Nat} (hn : live s.mem n) {ob : Option Nat} (hob : ∀ b, ob = some b → b ∈ blk (ρ n)) (hw : w.grownBy w' ob) {o : AO}
  (ho : ObjR w' ρ F s.mem.length o (ρ n)) : SX g ρ F ⟨s.tmps, s.mem.set n o⟩ a w' := by
 have hnF : ∀ b, F b → some b ≠ ob := fun b hf e => h.mr.sep n b hn (hob b e.symm) hf
 have hm : Mv w w' F F := ⟨.refl F, fun b hf => hw.block b (h.mr.lt b hf) (hnF b hf)⟩
 have hlen := live_lt hn
 have hlive : ∀ k, live (s.mem.set n o) k → live s.mem k := by
  intro k ⟨q, h1, h2⟩
  by_cases hk : k = n
  ·subst hk; exact hn
  ·rw [List.getElem?_set_ne (fun e => hk e.symm)] at h1
   exact ⟨q, h1, h2⟩
 refine ⟨?_, ⟨?_, ?_, ?_, ?_⟩, ⟨?_, ?_, ?_, ?_, ?_, ?_, h.gl.fro, h.gl.froB, by simpa using h.gl.len, h.gl.rho⟩, h.defers, h.gb.mono hm⟩
 ·exact h.tr.mono hm (fun _ _ _ _ _ _ _ => rfl) (by simp)
 ·intro k q hq
  rw [List.length_set]
  by_cases e : k = n
  ·subst e
   rw [List.getElem?_set_self hlen] at hq
   cases hq
   exact ho
  ·rw [List.getElem?_set_ne (fun e' => e e'.symm)] at hq
   cases hg : q with
   | gone => trivial
   | _ =>
    rw [← hg]
    have hl : live s.mem k := ⟨q, hq, by rw [hg]; simp⟩
    exact (h.mr.obj k q hq).mono hm (fun _ _ _ _ _ _ _ _ => rfl) (Nat.le_refl _) (fun b hb' => hw.block b (h.own_lt hl hb') (fun e' => e (h.mr.inj k n b hl hn hb' (hob b e'.symm))))
 ·intro j k b hj hk h1 h2
  exact h.mr.inj j k b (hlive j hj) (hlive k hk) h1 h2
 ·intro k b hk h1 hf
  exact h.mr.sep k b (hlive k hk) h1 hf
 ·intro b hf
  exact Nat.lt_of_lt_of_le (h.mr.lt b hf) hw.size
 ·exact hw.os.trans h.gl.os
 ·exact hw.tape.trans h.gl.tape
 ·exact hw.output.trans h.gl.output
 ·exact Nat.le_trans h.gl.size hw.size
 ·intro b h1 h2
  rw [hw.block b (Nat.lt_of_lt_of_le h1 h.gl.size) ?_]
  ·exact h.gl.keep b h1 h2
  ·intro e
   rcases h.gl.own b ⟨n, hn, hob b e.symm⟩ with h3 | h3
   ·exact h2 h3
   ·omega
 ·rintro b ⟨k, hk, h1⟩
  exact h.gl.own b ⟨k, hlive k hk, h1⟩
theorem SX.renewF (h : SX g ρ F s a w) {n : Nat} (hn : live s.mem n) {ob : Option Nat} (hob : ∀ b, ob = some b → b ∈ blk (ρ n)) (hw : w.grownBy w' ob) {o : AO} {v : Value} (hb : ∀ b, b ∈ blk v → b ∈ blk (ρ n) ∨ w.heap.size ≤ b)
  {F' : FS} (hF : F.le F') (hFp : ∀ b, F' b → F b) (hA : ∀ q o, q ≠ n → s.mem[q]? = some o → isArena o = false ∨ F.same F') (ho : ObjR w' (upd ρ s.mem.length v) F' (s.mem.length + 1) o v) : SX g (upd ρ s.mem.length v) F' ⟨s.tmps, s.mem.set n .gone ++ [o]⟩ a w' := by
 have hnF : ∀ b, F b → some b ≠ ob := fun b hf e => h.mr.sep n b hn (hob b e.symm) hf
 have hm : Mv w w' F F' := ⟨hF, fun b hf => hw.block b (h.mr.lt b hf) (hnF b hf)⟩
 have hlen := live_lt hn
 have hl0 : (s.mem.set n .gone).length = s.mem.length := by simp
 have hne : ∀ k, k < s.mem.length → upd ρ s.mem.length v k = ρ k := fun k hk => upd_ne _ _ (by omega)
 have hget : ∀ k q, (s.mem.set n .gone ++ [o])[k]? = some q → (k < s.mem.length ∧ ((k = n ∧ q = .gone) ∨ (k ≠ n ∧ s.mem[k]? = some q))) ∨ (k = s.mem.length ∧ q = o) := by
  intro k q hq
  rcases Nat.lt_trichotomy k s.mem.length with h3 | h3 | h3
  ·rw [List.getElem?_append_left (by omega)] at hq
   refine .inl ⟨h3, ?_⟩
   by_cases e : k = n
   ·subst e
    rw [List.getElem?_set_self hlen] at hq
    cases hq
    exact .inl ⟨rfl, rfl⟩
   ·rw [List.getElem?_set_ne (fun e' => e e'.symm)] at hq
    exact .inr ⟨e, hq⟩
  ·subst h3
   rw [← hl0, List.getElem?_append_right (Nat.le_refl _), Nat.sub_self] at hq
   simp at hq
   exact .inr ⟨rfl, hq.symm⟩
  ·rw [List.getElem?_eq_none (by simp; omega)] at hq
   cases hq
 have hlive : ∀ k, live (s.mem.set n .gone ++ [o]) k → (k < s.mem.length ∧ live s.mem k ∧ k ≠ n) ∨ k = s.mem.length := by
  intro k ⟨q, h1, h2⟩
  rcases hget k q h1 with ⟨h3, ⟨_, h4⟩ | ⟨h4, h5⟩⟩ | ⟨h3, _⟩
  ·exact absurd h4 h2
  ·exact .inl ⟨h3, ⟨q, h5, h2⟩, h4⟩
  ·exact .inr h3
 have hblk : ∀ k b, live (s.mem.set n .gone ++ [o]) k → b ∈ blk (upd ρ s.mem.length v k) → (k < s.mem.length ∧ live s.mem k ∧ k ≠ n ∧ b ∈ blk (ρ k)) ∨ (k = s.mem.length ∧ (b ∈ blk (ρ n) ∨ w.heap.size ≤ b)) := by
  intro k b hk h1
  rcases hlive k hk with ⟨h2, h3, h4⟩ | h2
  ·rw [hne k h2] at h1
   exact .inl ⟨h2, h3, h4, h1⟩
  ·subst h2
   rw [upd_same] at h1
   exact .inr ⟨rfl, hb b h1⟩
 refine ⟨?_, ⟨?_, ?_, ?_, ?_⟩, ⟨?_, ?_, ?_, ?_, ?_, ?_, h.gl.fro.trans hF, fun b hb => h.gl.froB b (hFp b hb), by have := h.gl.len; simp; omega, fun k hk => by rw [hne k (Nat.lt_of_lt_of_le hk h.gl.len)]; exact h.gl.rho k hk⟩, h.defers, h.gb.mono hm⟩
 ·exact h.tr.mono hm (fun x _ c _ n hn _ => hne n hn) (by simp)
 ·intro k q hq
  rw [List.length_append, List.length_singleton, hl0]
  rcases hget k q hq with ⟨h3, ⟨_, rfl⟩ | ⟨h4, h5⟩⟩ | ⟨rfl, rfl⟩
  ·trivial
  ·rw [hne k h3]
   cases hg : q with
   | gone => trivial
   | _ =>
    rw [← hg]
    have hl : live s.mem k := ⟨q, h5, by rw [hg]; simp⟩
    exact (h.mr.obj k q h5).mono hm (fun _ _ _ c _ k hk _ => hne k hk) (by omega) (fun b hb' => hw.block b (h.own_lt hl hb') (fun e' => h4 (h.mr.inj k n b hl hn hb' (hob b e'.symm)))) (hA k q h4 h5)
  ·rw [upd_same]
   exact ho
 ·intro j k b hj hk h1 h2
  rcases hblk j b hj h1 with ⟨_, l1, n1, e1⟩ | ⟨e1, g1⟩ <;> rcases hblk k b hk h2 with ⟨_, l2, n2, e2⟩ | ⟨e2, g2⟩
  ·exact h.mr.inj j k b l1 l2 e1 e2
  ·rcases g2 with g2 | g2
   ·exact absurd (h.mr.inj j n b l1 hn e1 g2) n1
   ·have := h.own_lt l1 e1; omega
  ·rcases g1 with g1 | g1
   ·exact absurd (h.mr.inj k n b l2 hn e2 g1) n2
   ·have := h.own_lt l2 e2; omega
  ·omega
 ·intro k b hk h1 hf
  have hf := hFp b hf
  rcases hblk k b hk h1 with ⟨_, l1, n1, e1⟩ | ⟨e1, g1 | g1⟩
  ·exact h.mr.sep k b l1 e1 hf
  ·exact h.mr.sep n b hn g1 hf
  ·have := h.mr.lt b hf; omega
 ·intro b hf
  exact Nat.lt_of_lt_of_le (h.mr.lt b (hFp b hf)) hw.size
 ·exact hw.os.trans h.gl.os
 ·exact hw.tape.trans h.gl.tape
 ·exact hw.output.trans h.gl.output
 ·exact Nat.le_trans h.gl.size hw.size
 ·intro b h1 h2
  rw [hw.block b (Nat.lt_of_lt_of_le h1 h.gl.size) ?_]
  ·exact h.gl.keep b h1 h2
  ·intro e
   rcases h.gl.own b ⟨n, hn, hob b e.symm⟩ with h3 | h3
   ·exact h2 h3
   ·omega
 ·rintro b ⟨k, hk, h1⟩
  rcases hblk k b hk h1 with ⟨_, l1, n1, e1⟩ | ⟨e1, g1 | g1⟩
  ·exact h.gl.own b ⟨k, l1, e1⟩
  ·exact h.gl.own b ⟨n, hn, g1⟩
  ·exact .inr (Nat.le_trans h.gl.size g1)
theorem SX.renew (h : SX g ρ F s a w) {n : Nat} (hn : live s.mem n) {ob : Option Nat} (hob : ∀ b, ob = some b → b ∈ blk (ρ n)) (hw : w.grownBy w' ob) {o : AO} {v : Value} (hb : ∀ b, b ∈ blk v → b ∈ blk (ρ n) ∨ w.heap.size ≤ b)
  (ho : ObjR w' (upd ρ s.mem.length v) F (s.mem.length + 1) o v) : SX g (upd ρ s.mem.length v) F ⟨s.tmps, s.mem.set n .gone ++ [o]⟩ a w' :=
 h.renewF hn hob hw hb (.refl F) (fun _ h => h) (fun _ _ _ _ => .inr ⟨rfl, rfl⟩) ho
theorem SX.freeze (h : SX g ρ F s a w) {n : Nat} (hn : live s.mem n) : SX g ρ (F.plus fun b => b ∈ blk (ρ n)) ⟨s.tmps, s.mem.set n .gone⟩ a w := by
 have hm : Mv w w F (F.plus fun b => b ∈ blk (ρ n)) := ⟨.plus F _, fun _ _ => rfl⟩
 have hlen := live_lt hn
 have hlive : ∀ k, live (s.mem.set n .gone) k → live s.mem k ∧ k ≠ n := by
  intro k ⟨q, h1, h2⟩
  by_cases hk : k = n
  ·subst hk
   rw [List.getElem?_set_self hlen] at h1
   cases h1
   exact absurd rfl h2
  ·rw [List.getElem?_set_ne (fun e => hk e.symm)] at h1
   exact ⟨⟨q, h1, h2⟩, hk⟩
 refine ⟨?_, ⟨?_, ?_, ?_, ?_⟩, ⟨h.gl.os, h.gl.tape, h.gl.output, h.gl.size, h.gl.keep, ?_, ?_, ?_, by simpa using h.gl.len, h.gl.rho⟩, h.defers, h.gb.mono hm⟩
 ·exact h.tr.mono hm (fun _ _ _ _ _ _ _ => rfl) (by simp)
 ·intro k q hq
  rw [List.length_set]
  by_cases e : k = n
  ·subst e
   rw [List.getElem?_set_self hlen] at hq
   cases hq
   trivial
  ·rw [List.getElem?_set_ne (fun e' => e e'.symm)] at hq
   exact (h.mr.obj k q hq).mono hm (fun _ _ _ _ _ _ _ _ => rfl) (Nat.le_refl _) (fun _ _ => rfl)
 ·intro j k b hj hk h1 h2
  exact h.mr.inj j k b (hlive j hj).1 (hlive k hk).1 h1 h2
 ·rintro k b hk h1 (hf | hf)
  ·exact h.mr.sep k b (hlive k hk).1 h1 hf
  ·exact (hlive k hk).2 (h.mr.inj k n b (hlive k hk).1 hn h1 hf)
 ·rintro b (hf | hf)
  ·exact h.mr.lt b hf
  ·exact h.own_lt hn hf
 ·rintro b ⟨k, hk, h1⟩
  exact h.gl.own b ⟨k, (hlive k hk).1, h1⟩
 ·exact h.gl.fro.trans (.plus F _)
 ·rintro b (hf | hf)
  ·exact h.gl.froB b hf
  ·exact .inr (h.gl.own b ⟨n, hn, hf⟩)
theorem row_RT {e : Nat} {t : Ty} {xs : List t.den} {v : Value} (h : ObjR w ρ F s.mem.length (.row e t xs) v) : RT w (F.plus fun b => b ∈ blk v) (.slice e t) xs [v] := by
 obtain ⟨vs, h1, h2⟩ := h
 have hm : F.le (F.plus fun b => b ∈ blk v) := .plus F _
 have key : ∀ ys : (Ty.slice e t).den, ys = xs → RT w (F.plus fun b => b ∈ blk v) (.slice e t) ys [v] := by
  intro ys hy
  subst hy
  unfold RT
  rcases h1.2 with ⟨rfl, h3⟩ | ⟨g, cap, cur, rfl, h4, h5, h6⟩
  ·exact ⟨none, 0, by rw [show len ys = 0 from h3], ⟨by rw [show len ys = 0 from h3]; exact Nat.le_refl _, fun _ => rfl⟩, .inl h3⟩
  ·refine ⟨_, cap, rfl, ⟨h6.1, fun h => by cases h⟩, .inr ⟨_, rfl, .inr (by simp [blk, blk1]), fun i x hx => ?_⟩⟩
   refine ⟨_, RT.mono hm (fun _ _ => rfl) t (h2.at i x hx), ?_⟩
   exact (cellsAt_row h1).sub _ _
 exact key xs rfl
theorem frz_ok : ∀ {l l' : List AC} {s : St} {m' : List AO} {F : FS} {vs : List Value}, frz s.mem l = some (l', m') → CRs w ρ F s.mem.length l vs → SX g ρ F s a w →
  ∃ F', Mv w w F F' ∧ SX g ρ F' ⟨s.tmps, m'⟩ a w ∧ CRs w ρ F' s.mem.length l' vs ∧ m'.length = s.mem.length
 | [], l', s, m', F, vs, h, hc, hs => by
  simp [frz] at h
  obtain ⟨rfl, rfl⟩ := h
  exact ⟨F, Mv.refl _ _, hs, hc, rfl⟩
 | c :: l, l', s, m', F, vs, h, hc, hs => by
  have plain : (∀ n, c ≠ .own n) → ∃ F', Mv w w F F' ∧ SX g ρ F' ⟨s.tmps, m'⟩ a w ∧ CRs w ρ F' s.mem.length l' vs ∧ m'.length = s.mem.length := by
   intro hne
   have h' : (match frz s.mem l with
    | some (l', m') => some (c :: l', m')
    | none => none) = some (l', m') := by
    cases c <;> first | exact absurd rfl (hne _) | exact h
   split at h'
   ·rename_i l1 m1 h1
    cases h'
    cases hc with
    | cons hc1 hc2 =>
     obtain ⟨F', h2, h3, h4, h5⟩ := frz_ok (s := s) h1 hc2 hs
     exact ⟨F', h2, h3, .cons (hc1.mono h2 (fun _ _ _ => rfl) (Nat.le_refl _)) h4, h5⟩
   ·cases h'
  cases c with
  | own n =>
   unfold frz at h
   split at h
   ·rename_i e t xs hx
    split at h
    ·rename_i l1 m1 h1
     cases h
     cases hc with
     | cons hc1 hc2 =>
      have hn : live s.mem n := ⟨_, hx, by simp⟩
      have hs1 := hs.freeze hn
      have hm : Mv w w F (F.plus fun b => b ∈ blk (ρ n)) := ⟨.plus F _, fun _ _ => rfl⟩
      obtain ⟨F', h2, h3, h4, h5⟩ := frz_ok (s := ⟨s.tmps, s.mem.set n .gone⟩) h1 (by rw [List.length_set]; exact CRs.mono hm (fun _ _ _ _ _ => rfl) (Nat.le_refl _) hc2) hs1
      refine ⟨F', hm.trans h2, h3, .cons ?_ (by rw [List.length_set] at h4; exact h4), by simpa using h5⟩
      rw [hc1.2.1]
      exact RT.mono h2.le h2.same _ (row_RT (s := s) (hs.mr.obj n _ hx))
    ·cases h
   ·cases h
  | _ => exact plain (by simp)
end
end Go.Proofs.YtfihdjjilofklaaGreat.Am
