/- Plain: a solver of games whose states are any data: what it answers, and how many states it looks at. -/
import Derived.Test.YtbnpbnghpbgjiaaLawRetn
set_option linter.unusedVariables false
set_option linter.unusedSimpArgs false
set_option linter.unusedSectionVars false
namespace Go.Proofs.Ytbnpbnghpbgjiaa.Am
open Go

/-! ### a map as a list -/
section
variable {S υ : Type} {eqf : S → S → Bool} (heq : ∀ a b, eqf a b = true ↔ a = b)
include heq
theorem eqf_f {a b : S} (h : a ≠ b) : eqf a b = false := by
  cases hc : eqf a b
  · rfl
  · exact absurd ((heq a b).1 hc) h
theorem mget_put (k : S) (v : υ) : ∀ xs : List (S × υ), mget eqf (mput eqf xs k v) k = some v
  | [] => by
    show (bif eqf k k then some v else none) = some v
    rw [(heq k k).2 rfl]; rfl
  | p :: xs => by
    by_cases h : p.1 = k
    · have e := (heq p.1 k).2 h
      show mget eqf (bif eqf p.1 k then (p.1, v) :: xs else p :: mput eqf xs k v) k = some v
      rw [e]
      show (bif eqf p.1 k then some v else _) = some v
      rw [e]; rfl
    · have e := eqf_f heq h
      show mget eqf (bif eqf p.1 k then (p.1, v) :: xs else p :: mput eqf xs k v) k = some v
      rw [e]
      show (bif eqf p.1 k then some p.2 else mget eqf (mput eqf xs k v) k) = some v
      rw [e]
      exact mget_put k v xs
theorem mget_put_ne {k q : S} (h : q ≠ k) (v : υ) : ∀ xs : List (S × υ), mget eqf (mput eqf xs k v) q = mget eqf xs q
  | [] => by
    show (bif eqf k q then some v else none) = none
    rw [eqf_f heq (fun e => h e.symm)]; rfl
  | p :: xs => by
    by_cases hp : p.1 = k
    · have e := (heq p.1 k).2 hp
      show mget eqf (bif eqf p.1 k then (p.1, v) :: xs else p :: mput eqf xs k v) q = mget eqf (p :: xs) q
      rw [e]
      have e2 : eqf p.1 q = false := eqf_f heq (fun e => h (by rw [← e, hp]))
      show (bif eqf p.1 q then some v else mget eqf xs q) = (bif eqf p.1 q then some p.2 else mget eqf xs q)
      rw [e2]; rfl
    · have e := eqf_f heq hp
      show mget eqf (bif eqf p.1 k then (p.1, v) :: xs else p :: mput eqf xs k v) q = mget eqf (p :: xs) q
      rw [e]
      show (bif eqf p.1 q then some p.2 else mget eqf (mput eqf xs k v) q) = (bif eqf p.1 q then some p.2 else mget eqf xs q)
      rw [mget_put_ne h v xs]
theorem mget_mem {k : S} {v : υ} : ∀ {xs : List (S × υ)}, mget eqf xs k = some v → k ∈ xs.map (·.1)
  | [], h => by cases h
  | p :: xs, h => by
    have h : (bif eqf p.1 k then some p.2 else mget eqf xs k) = some v := h
    cases e : eqf p.1 k with
    | true => exact List.mem_cons.2 (.inl ((heq p.1 k).1 e).symm)
    | false => rw [e] at h; exact List.mem_cons.2 (.inr (mget_mem h))
theorem mget_not {k : S} : ∀ {xs : List (S × υ)}, mget eqf xs k = none → k ∉ xs.map (·.1)
  | [], _ => by simp
  | p :: xs, h => by
    have h : (bif eqf p.1 k then some p.2 else mget eqf xs k) = none := h
    cases e : eqf p.1 k with
    | true => rw [e] at h; cases h
    | false =>
      rw [e] at h
      intro hm
      rcases List.mem_cons.1 hm with hm | hm
      · rw [(heq p.1 k).2 hm.symm] at e; cases e
      · exact mget_not h hm
theorem put_new {k : S} (v : υ) : ∀ {xs : List (S × υ)}, mget eqf xs k = none → mput eqf xs k v = xs ++ [(k, v)]
  | [], _ => rfl
  | p :: xs, h => by
    have h : (bif eqf p.1 k then some p.2 else mget eqf xs k) = none := h
    cases e : eqf p.1 k with
    | true => rw [e] at h; cases h
    | false =>
      rw [e] at h
      show (bif eqf p.1 k then (p.1, v) :: xs else p :: mput eqf xs k v) = _
      rw [e, put_new v h]; rfl
theorem put_old {k : S} (v : υ) : ∀ {xs : List (S × υ)} {u : υ}, mget eqf xs k = some u → (mput eqf xs k v).map (·.1) = xs.map (·.1)
  | [], _, h => by cases h
  | p :: xs, u, h => by
    have h : (bif eqf p.1 k then some p.2 else mget eqf xs k) = some u := h
    show (bif eqf p.1 k then (p.1, v) :: xs else p :: mput eqf xs k v).map (·.1) = _
    cases e : eqf p.1 k with
    | true => rfl
    | false =>
      rw [e] at h
      show p.1 :: (mput eqf xs k v).map (·.1) = _
      rw [put_old v h]; rfl
end

/-! ### the solver -/
section
variable {γ S : Type} (eqf : S → S → Bool) (okf : S → Bool) (d0 : S)
abbrev MapT (S : Type) := List (S × Int)
abbrev SolT (γ S : Type) := γ × (MapT S × (MapT S × (Int × Int)))
abbrev G0 (γ S : Type) := Int → Int → γ → Int → Int → List S → List Bool → MapT S → MapT S → Option (Int × SolT γ S)
abbrev G1 (γ S : Type) := Int → Int → Int → γ → Int → Int → List S → List Bool → MapT S → MapT S → Option (Int × SolT γ S)
abbrev G2 (γ S : Type) := Int → γ → Int → Int → List Bool → MapT S → MapT S → Option (Int × SolT γ S)
def gE (nxt : γ → S → Option (List S)) (r0 : G0 γ S) (x : SolT γ S) (s : S) : Option (Int × SolT γ S) :=
  chk (okf s) <|
  bif (mget eqf x.2.1 s).isSome then (some (((mget eqf x.2.1 s).getD (0 : Int)), x))
  else bif (!(eqI x.2.2.2.2 0)) then (some (((mget eqf x.2.1 s).getD (0 : Int)), x))
  else chk (okf s) <|
  bif (eqI ((mget eqf x.2.2.1 s).getD (0 : Int)) 1) then (some (0, (x.1, (x.2.1, (x.2.2.1, (x.2.2.2.1, 19))))))
  else bif (ltI (w64 (x.2.2.2.1 - 1)) 0) then (some (0, (x.1, (x.2.1, (x.2.2.1, ((w64 (x.2.2.2.1 - 1)), 17))))))
  else chk (okf s) <|
  (nxt x.1 s).bind fun y4 =>
  r0 (y4.length : Int) 0 x.1 (w64 (x.2.2.2.1 - 1)) x.2.2.2.2 y4 [] x.2.1 (mput eqf x.2.2.1 s 1)
def gS0 (self : SolT γ S → S → Option (Int × SolT γ S)) (r1 : G1 γ S) (r2 : G2 γ S) (s : S) : G0 γ S := fun t66 t67 x2 x3 x4 m3 met m5 m6 =>
  bif (ltI t67 t66) then (chk ((leI 0 t67) && (ltI t67 (m3.length : Int))) <|
    (self (x2, (m5, (m6, (x3, x4)))) (gD d0 m3 t67)).bind fun y5 =>
    bif (!(eqI y5.2.2.2.2.2 0)) then (some (0, y5.2))
    else r1 y5.1 t66 t67 y5.2.1 y5.2.2.2.2.1 y5.2.2.2.2.2 m3 met y5.2.2.1 y5.2.2.2.1)
  else chk (okf s) <|
  r2 0 x2 x3 x4 met m5 (mput eqf m6 s 0)
def gS1 (r0 : G0 γ S) (r1 : G1 γ S) : G1 γ S := fun n t66 t67 x2 x3 x4 m3 met m7 m8 =>
  bif (leI (met.length : Int) n) then (chk (capOk 1 (met.length + ([false] : List Bool).length)) <|
    r1 n t66 t67 x2 x3 x4 m3 (met ++ [false]) m7 m8)
  else chk ((leI 0 n) && (ltI n (met.length : Int))) <|
  r0 t66 (w64 (t67 + 1)) x2 x3 x4 m3 (met.set n.toNat true) m7 m8
def gS2 (r2 : G2 γ S) (s : S) : G2 γ S := fun out x2 x3 x4 met m5 m6 =>
  bif (ltI out (met.length : Int)) then (chk ((leI 0 out) && (ltI out (met.length : Int))) <|
    bif (gD false met out) then (r2 (w64 (out + 1)) x2 x3 x4 met m5 m6)
    else chk (okf s) <|
    some (out, (x2, ((mput eqf m5 s out), (m6, (x3, x4))))))
  else chk (okf s) <|
  some (out, (x2, ((mput eqf m5 s out), (m6, (x3, x4)))))
def gL (self : SolT γ S → S → Option (Int × SolT γ S)) (s : S) : Nat → G0 γ S × G1 γ S × G2 γ S
  | 0 => (fun _ _ _ _ _ _ _ _ _ => none, fun _ _ _ _ _ _ _ _ _ _ => none, fun _ _ _ _ _ _ _ => none)
  | n + 1 => (gS0 eqf okf d0 self (gL self s n).2.1 (gL self s n).2.2 s, gS1 (gL self s n).1 (gL self s n).2.1, gS2 eqf okf (gL self s n).2.2 s)
def gV (nxt : Nat → γ → S → Option (List S)) : Nat → SolT γ S → S → Option (Int × SolT γ S)
  | 0 => fun _ _ => none
  | N + 1 => fun x s => gE eqf okf (nxt N) (gL eqf okf d0 (gV nxt N) s N).1 x s
def gValue (nxt : Nat → γ → S → Option (List S)) (N : Nat) (g : γ) (s : S) (most : Int) : Option (Int × Int) :=
  bif (ltI most 1) then (some (0, 1))
  else bif (ltI 20000 most) then (some (0, 1))
  else (gV eqf okf d0 nxt N (g, ([], ([], (most, 0)))) s).bind fun y1 =>
  bif (!(eqI y1.2.2.2.2.2 0)) then (some (0, y1.2.2.2.2.2))
  else some (y1.1, 0)
end

/-! ### a game: its states, its moves, its values -/
structure Gm {γ S : Type} (okf : S → Bool) (nxt : Nat → γ → S → Option (List S)) (g : γ) (Good : S → Prop) (nx : S → List S) (gr rank : S → Nat) (B : Nat) : Prop where
  ok : ∀ s, Good s → okf s = true
  nxt : ∀ s N, Good s → B ≤ N → nxt N g s = some (nx s)
  good : ∀ s t, Good s → t ∈ nx s → Good t
  rk : ∀ s t, Good s → t ∈ nx s → rank t < rank s
  len : ∀ s, Good s → (nx s).length ≤ B
  ne : ∀ s t, Good s → t ∈ nx s → gr t ≠ gr s
  lt : ∀ s v, Good s → v < gr s → ∃ t ∈ nx s, gr t = v
  grB : ∀ s, Good s → gr s ≤ B
  Bs : B ≤ 100000

def Mt (met : List Bool) (P : Nat → Prop) : Prop := ∀ i : Nat, met.getD i false = true ↔ P i

section
variable {γ S : Type} {eqf : S → S → Bool} {okf : S → Bool} {d0 : S} {self : SolT γ S → S → Option (Int × SolT γ S)} {s : S} {B : Nat}
theorem gl1 (hB : B ≤ 100000) {v : Nat} (hv : v ≤ B) {P : Nat → Prop} {K : Nat} {Q : Int × SolT γ S → Prop} {t66 t67 : Int} {x2 : γ} {x3 x4 : Int} {m3 : List S} {m5 m6 : MapT S}
    (hE : ∀ (n : Nat) (met' : List Bool), K ≤ n → met'.length ≤ B + 1 → Mt met' (fun i => i = v ∨ P i) → Ret ((gL eqf okf d0 self s n).1 t66 (w64 (t67 + 1)) x2 x3 x4 m3 met' m5 m6) Q) :
    ∀ (k n : Nat) (met : List Bool), v + 1 - met.length ≤ k → K + k < n → met.length ≤ B + 1 → Mt met P → Ret ((gL eqf okf d0 self s n).2.1 (v : Int) t66 t67 x2 x3 x4 m3 met m5 m6) Q := by
  intro k
  induction k with
  | zero =>
    intro n met hk hn hm hP
    obtain ⟨n, rfl⟩ : ∃ m, n = m + 1 := ⟨n - 1, by omega⟩
    show Ret (gS1 _ _ _ _ _ _ _ _ _ _ _ _) Q
    unfold gS1
    rw [bif_f (leI_f (by omega)), chk_of (idx_ok (by omega)), Int.toNat_natCast]
    refine hE n _ (by omega) (by rw [List.length_set]; exact hm) fun i => ?_
    rw [List.getD_eq_getElem?_getD, List.getElem?_set]
    by_cases e : v = i
    · rw [if_pos e, if_pos (by omega)]
      exact ⟨fun _ => .inl e.symm, fun _ => rfl⟩
    · rw [if_neg e, ← List.getD_eq_getElem?_getD, hP i]
      exact ⟨fun h => .inr h, fun h => h.resolve_left fun e' => e e'.symm⟩
  | succ k ih =>
    intro n met hk hn hm hP
    obtain ⟨n, rfl⟩ : ∃ m, n = m + 1 := ⟨n - 1, by omega⟩
    by_cases c : met.length ≤ v
    · show Ret (gS1 _ _ _ _ _ _ _ _ _ _ _ _) Q
      unfold gS1
      rw [bif_t (leI_t (by omega)), chk_of (by unfold capOk; exact decide_eq_true (by simp only [List.length_singleton]; omega))]
      refine ih n (met ++ [false]) (by simp; omega) (by omega) (by simp; omega) fun i => ?_
      rw [← hP i, List.getD_eq_getElem?_getD, List.getD_eq_getElem?_getD]
      by_cases h1 : i < met.length
      · rw [List.getElem?_append_left h1]
      · rw [List.getElem?_append_right (by omega), List.getElem?_eq_none (l := met) (by omega)]
        cases hz : i - met.length with
        | zero => simp
        | succ q => simp
    · show Ret (gS1 _ _ _ _ _ _ _ _ _ _ _ _) Q
      unfold gS1
      rw [bif_f (leI_f (by omega)), chk_of (idx_ok (by omega)), Int.toNat_natCast]
      refine hE n _ (by omega) (by rw [List.length_set]; exact hm) fun i => ?_
      rw [List.getD_eq_getElem?_getD, List.getElem?_set]
      by_cases e : v = i
      · rw [if_pos e, if_pos (by omega)]
        exact ⟨fun _ => .inl e.symm, fun _ => rfl⟩
      · rw [if_neg e, ← List.getD_eq_getElem?_getD, hP i]
        exact ⟨fun h => .inr h, fun h => h.resolve_left fun e' => e e'.symm⟩
theorem gl2 (hok : okf s = true) {P : Nat → Prop} {x2 : γ} {x3 x4 : Int} {m5 m6 : MapT S} {met : List Bool} (hm : met.length ≤ 1000000) (hP : Mt met P) : ∀ (k o n : Nat), met.length - o ≤ k → k < n → (∀ i, i < o → P i) → o ≤ met.length →
    Ret ((gL eqf okf d0 self s n).2.2 (o : Int) x2 x3 x4 met m5 m6) fun y => ∃ out : Nat, y = ((out : Int), (x2, (mput eqf m5 s (out : Int), (m6, (x3, x4))))) ∧ ¬ P out ∧ ∀ i, i < out → P i := by
  intro k
  induction k with
  | zero =>
    intro o n hk hn hi ho
    obtain ⟨n, rfl⟩ : ∃ m, n = m + 1 := ⟨n - 1, by omega⟩
    show Ret (gS2 _ _ _ _ _ _ _ _ _ _ _) _
    unfold gS2
    rw [bif_f (ltI_f (by omega)), chk_of hok]
    refine Ret.ret ⟨o, rfl, fun h => ?_, hi⟩
    have := (hP o).2 h
    rw [List.getD_eq_getElem?_getD, List.getElem?_eq_none (by omega)] at this
    cases this
  | succ k ih =>
    intro o n hk hn hi ho
    obtain ⟨n, rfl⟩ : ∃ m, n = m + 1 := ⟨n - 1, by omega⟩
    show Ret (gS2 _ _ _ _ _ _ _ _ _ _ _) _
    unfold gS2
    by_cases c : o < met.length
    · rw [bif_t (ltI_t (by omega)), chk_of (idx_ok c), gD_nat']
      cases hb : met.getD o false with
      | true =>
        rw [cond_true, w64_id (by omega) (by omega), show ((o : Int) + 1) = ((o + 1 : Nat) : Int) by omega]
        exact ih (o + 1) n (by omega) (by omega) (fun i h => by
          by_cases e : i = o
          · rw [e]; exact (hP o).1 hb
          · exact hi i (by omega)) (by omega)
      | false =>
        rw [cond_false, chk_of hok]
        exact Ret.ret ⟨o, rfl, fun h => (by rw [(hP o).2 h] at hb; cases hb), hi⟩
    · rw [bif_f (ltI_f (by omega)), chk_of hok]
      refine Ret.ret ⟨o, rfl, fun h => ?_, hi⟩
      have := (hP o).2 h
      rw [List.getD_eq_getElem?_getD, List.getElem?_eq_none (by omega)] at this
      cases this
end

section
variable {γ S : Type} {eqf : S → S → Bool} (heq : ∀ a b, eqf a b = true ↔ a = b) {okf : S → Bool} {d0 : S} {nxt : Nat → γ → S → Option (List S)} {g : γ} {Good : S → Prop} {nx : S → List S} {gr rank : S → Nat} {B : Nat} (H : Gm okf nxt g Good nx gr rank B) {most : Int} (hmost : 0 ≤ most ∧ most ≤ 20000)

/-- what is true between two looks at states -/
structure Inv (eqf : S → S → Bool) (g : γ) (Good : S → Prop) (nx : S → List S) (gr : S → Nat) (most : Int) (x : SolT γ S) : Prop where
  g : x.1 = g
  e : x.2.2.2.2 = 0
  l0 : 0 ≤ x.2.2.2.1
  l : x.2.2.2.1 + (x.2.2.1.length : Int) = most
  nd : (x.2.2.1.map (·.1)).Nodup
  gd : ∀ k ∈ x.2.2.1.map (·.1), Good k
  dc : ∀ k v, mget eqf x.2.1 k = some v → v = (gr k : Int) ∧ mget eqf x.2.2.1 k = some 0 ∧ ∀ t ∈ nx k, (mget eqf x.2.1 t).isSome = true
  od : ∀ k, mget eqf x.2.2.1 k = some 0 → (mget eqf x.2.1 k).isSome = true
  o01 : ∀ k v, mget eqf x.2.2.1 k = some v → v = 0 ∨ v = 1
def VQ (eqf : S → S → Bool) (g : γ) (Good : S → Prop) (nx : S → List S) (gr : S → Nat) (most : Int) (x : SolT γ S) (s : S) (y : Int × SolT γ S) : Prop :=
  (Inv eqf g Good nx gr most y.2 ∧ y.1 = (gr s : Int) ∧ (mget eqf y.2.2.1 s).isSome = true ∧ (∀ t, (mget eqf x.2.1 t).isSome = true → (mget eqf y.2.2.1 t).isSome = true) ∧ ∀ t, mget eqf y.2.2.2.1 t = some 1 ↔ mget eqf x.2.2.1 t = some 1) ∨
  (y.2.2.2.2.2 = 17 ∧ ∃ l : List S, l.Nodup ∧ (∀ k ∈ l, Good k) ∧ (l.length : Int) = most + 1)
/-- .. and within the look at one of them -/
structure LInv (eqf : S → S → Bool) (g : γ) (Good : S → Prop) (nx : S → List S) (gr : S → Nat) (most : Int) (x0 : SolT γ S) (s : S) (j : Nat) (x3 : Int) (m5 m6 : MapT S) : Prop where
  inv : Inv eqf g Good nx gr most (g, (m5, (m6, (x3, 0))))
  s1 : mget eqf m6 s = some 1
  op : ∀ t, mget eqf m6 t = some 1 ↔ t = s ∨ mget eqf x0.2.2.1 t = some 1
  mono : ∀ t, (mget eqf x0.2.1 t).isSome = true → (mget eqf m5 t).isSome = true
  seen : ∀ t ∈ (nx s).take j, (mget eqf m5 t).isSome = true
include heq
omit heq in
theorem isSome_iff {υ : Type} {o : Option υ} (h : o ≠ none) : o.isSome = true := by
  cases o
  · exact absurd rfl h
  · rfl
include H
/-- the end of a look -/
theorem LInv.fin {x0 : SolT γ S} {s : S} (hs : Good s) (hx0 : mget eqf x0.2.2.1 s ≠ some 1) {x3 : Int} {m5 m6 : MapT S} (h : LInv eqf g Good nx gr most x0 s (nx s).length x3 m5 m6) {out : Nat} (ho : out = gr s) :
    VQ eqf g Good nx gr most x0 s ((out : Int), (g, (mput eqf m5 s (out : Int), (mput eqf m6 s 0, (x3, 0))))) := by
  have hi := h.inv
  have hkeys : (mput eqf m6 s 0).map (·.1) = m6.map (·.1) := put_old heq 0 h.s1
  have hmono : ∀ t, (mget eqf m5 t).isSome = true → (mget eqf (mput eqf m5 s (out : Int)) t).isSome = true := by
    intro t ht
    by_cases e : t = s
    · rw [e, mget_put heq]; rfl
    · rw [mget_put_ne heq e]; exact ht
  have hseen : ∀ t ∈ nx s, (mget eqf m5 t).isSome = true := by
    have := h.seen
    rw [List.take_of_length_le (Nat.le_refl _)] at this
    exact this
  refine .inl ⟨⟨rfl, rfl, hi.l0, ?_, ?_, ?_, ?_, ?_, ?_⟩, by rw [ho], by show (mget eqf (mput eqf m5 s _) s).isSome = true; rw [mget_put heq]; rfl, fun t ht => hmono t (h.mono t ht), fun t => ?_⟩
  · show x3 + ((mput eqf m6 s 0).length : Int) = most
    have h1 : (mput eqf m6 s 0).length = m6.length := by have := congrArg List.length hkeys; simpa using this
    rw [h1]; exact hi.l
  · show ((mput eqf m6 s 0).map (·.1)).Nodup
    rw [hkeys]; exact hi.nd
  · show ∀ k ∈ (mput eqf m6 s 0).map (·.1), Good k
    rw [hkeys]; exact hi.gd
  · intro k v hk
    have hk : mget eqf (mput eqf m5 s (out : Int)) k = some v := hk
    show v = (gr k : Int) ∧ mget eqf (mput eqf m6 s 0) k = some 0 ∧ ∀ t ∈ nx k, (mget eqf (mput eqf m5 s (out : Int)) t).isSome = true
    by_cases e : k = s
    · rw [e, mget_put heq] at hk
      cases hk
      rw [e, mget_put heq, ho]
      exact ⟨rfl, rfl, fun t ht => by have := hmono t (hseen t ht); rw [ho] at this; exact this⟩
    · rw [mget_put_ne heq e] at hk
      obtain ⟨h1, h2, h3⟩ := hi.dc k v hk
      exact ⟨h1, by rw [mget_put_ne heq e]; exact h2, fun t ht => hmono t (h3 t ht)⟩
  · intro k hk
    have hk : mget eqf (mput eqf m6 s 0) k = some 0 := hk
    show (mget eqf (mput eqf m5 s (out : Int)) k).isSome = true
    by_cases e : k = s
    · rw [e, mget_put heq]; rfl
    · rw [mget_put_ne heq e] at hk
      exact hmono k (hi.od k hk)
  · intro k v hk
    have hk : mget eqf (mput eqf m6 s 0) k = some v := hk
    by_cases e : k = s
    · rw [e, mget_put heq] at hk; cases hk; exact .inl rfl
    · rw [mget_put_ne heq e] at hk
      exact hi.o01 k v hk
  · show mget eqf (mput eqf m6 s 0) t = some 1 ↔ mget eqf x0.2.2.1 t = some 1
    by_cases e : t = s
    · rw [e, mget_put heq]
      exact ⟨fun h => by simp at h, fun h => absurd h hx0⟩
    · rw [mget_put_ne heq e, h.op t]
      exact ⟨fun h => h.resolve_left e, fun h => .inr h⟩

theorem gl0 {N : Nat} {x0 : SolT γ S} {s : S} (hs : Good s) (hx0 : mget eqf x0.2.2.1 s ≠ some 1)
    (ih : ∀ t ∈ nx s, ∀ x, Inv eqf g Good nx gr most x → (∀ u, mget eqf x.2.2.1 u = some 1 → rank t < rank u) → Ret (gV eqf okf d0 nxt N x t) (VQ eqf g Good nx gr most x t))
    (hrk : ∀ u, mget eqf x0.2.2.1 u = some 1 → rank s < rank u) :
    ∀ (k j n : Nat) (x3 : Int) (m5 m6 : MapT S) (met : List Bool), j + k = (nx s).length → (k + 1) * (B + 4) + (B + 3) < n → LInv eqf g Good nx gr most x0 s j x3 m5 m6 → met.length ≤ B + 1 → Mt met (fun i => ∃ t ∈ (nx s).take j, gr t = i) →
      Ret ((gL eqf okf d0 (gV eqf okf d0 nxt N) s n).1 ((nx s).length : Int) (j : Int) g x3 0 (nx s) met m5 m6) (VQ eqf g Good nx gr most x0 s) := by
  have hlen := H.len s hs
  have hB := H.Bs
  intro k
  induction k with
  | zero =>
    intro j n x3 m5 m6 met hk hn hL hm hP
    obtain ⟨n, rfl⟩ : ∃ m, n = m + 1 := ⟨n - 1, by omega⟩
    have hj : j = (nx s).length := by omega
    subst hj
    show Ret (gS0 _ _ _ _ _ _ _ _ _ _ _ _ _ _ _ _) _
    unfold gS0
    rw [bif_f (ltI_f (by omega)), chk_of (H.ok s hs)]
    rw [List.take_of_length_le (Nat.le_refl _)] at hP
    have := gl2 (eqf := eqf) (d0 := d0) (self := gV eqf okf d0 nxt N) (H.ok s hs) (x2 := g) (x3 := x3) (x4 := 0) (m5 := m5) (m6 := mput eqf m6 s 0) (met := met) (by omega) hP met.length 0 n (by omega) (by omega) (fun i h => by omega) (by omega)
    refine Ret.mono this ?_
    rintro y ⟨out, rfl, h1, h2⟩
    have ho : out = gr s := by
      rcases Nat.lt_trichotomy out (gr s) with h | h | h
      · exact absurd (H.lt s out hs h) (by rintro ⟨t, ht, e⟩; exact h1 ⟨t, ht, e⟩)
      · exact h
      · obtain ⟨t, ht, e⟩ := h2 _ h
        exact absurd e (H.ne s t hs ht)
    exact LInv.fin heq H hs hx0 hL ho
  | succ k ihk =>
    intro j n x3 m5 m6 met hk hn hL hm hP
    have hmul : (k + 1 + 1) * (B + 4) = (k + 1) * (B + 4) + (B + 4) := by rw [Nat.add_mul (k + 1) 1, Nat.one_mul]
    obtain ⟨n, rfl⟩ : ∃ m, n = m + 1 := ⟨n - 1, by omega⟩
    have hj : j < (nx s).length := by omega
    have htm : (nx s)[j] ∈ nx s := List.getElem_mem hj
    show Ret (gS0 _ _ _ _ _ _ _ _ _ _ _ _ _ _ _ _) _
    unfold gS0
    rw [bif_t (ltI_t (by omega)), chk_of (idx_ok hj), gD_nat hj]
    have hrt : ∀ u, mget eqf m6 u = some 1 → rank (nx s)[j] < rank u := by
      intro u hu
      have h0 := H.rk s _ hs htm
      rcases (hL.op u).1 hu with rfl | h
      · exact h0
      · exact Nat.lt_trans h0 (hrk u h)
    refine Ret.bnd (ih _ htm (g, (m5, (m6, (x3, 0)))) hL.inv hrt) ?_
    rintro ⟨v, g', m5', m6', x3', x4'⟩ (⟨hI, hv, hd, hmo, hop⟩ | ⟨he, hbad⟩)
    · have hg : g' = g := hI.g
      have h0 : x4' = 0 := hI.e
      have hv : v = (gr (nx s)[j] : Int) := hv
      subst hg h0 hv
      rw [bif_f (by rfl)]
      have hop : ∀ t, mget eqf m6' t = some 1 ↔ mget eqf m6 t = some 1 := hop
      have hmo : ∀ t, (mget eqf m5 t).isSome = true → (mget eqf m5' t).isSome = true := hmo
      have hd : (mget eqf m5' (nx s)[j]).isSome = true := hd
      have hL' : LInv eqf g' Good nx gr most x0 s (j + 1) x3' m5' m6' := ⟨hI, (hop s).2 hL.s1, fun t => (hop t).trans (hL.op t), fun t ht => hmo t (hL.mono t ht), fun t ht => by
        rw [List.take_add_one, List.getElem?_eq_getElem hj] at ht
        rcases List.mem_append.1 ht with ht | ht
        · exact hmo t (hL.seen t ht)
        · have : t = (nx s)[j] := by simpa using ht
          rw [this]; exact hd⟩
      refine gl1 (eqf := eqf) (okf := okf) (d0 := d0) (self := gV eqf okf d0 nxt N) (s := s) hB (H.grB _ (H.good s _ hs htm)) (P := fun i => ∃ t ∈ (nx s).take j, gr t = i) (K := (k + 1) * (B + 4) + (B + 3) + 1) (fun n met' hn' hm' hP' => ?_) (B + 1) n met (by have := H.grB _ (H.good s _ hs htm); omega) (by omega) hm hP
      rw [w64_id (by omega) (by omega), show ((j : Int) + 1) = ((j + 1 : Nat) : Int) by omega]
      refine ihk (j + 1) n x3' m5' m6' met' (by omega) (by omega) hL' hm' fun i => ?_
      rw [hP' i, List.take_add_one, List.getElem?_eq_getElem hj]
      constructor
      · rintro (rfl | ⟨t, ht, e⟩)
        · exact ⟨_, List.mem_append.2 (.inr (by simp)), rfl⟩
        · exact ⟨t, List.mem_append.2 (.inl ht), e⟩
      · rintro ⟨t, ht, e⟩
        rcases List.mem_append.1 ht with ht | ht
        · exact .inr ⟨t, ht, e⟩
        · have : t = (nx s)[j] := by simpa using ht
          exact .inl (by rw [← e, this])
    · have he : x4' = 17 := he
      subst he
      rw [bif_t (by rfl)]
      exact Ret.ret (.inr ⟨rfl, hbad⟩)
include hmost
/-- a look at a state -/
theorem gv_ok : ∀ (r : Nat) (s : S), Good s → rank s ≤ r → ∀ (N : Nat), r + ((B + 2) * (B + 4) + B) < N → ∀ x : SolT γ S, Inv eqf g Good nx gr most x → (∀ u, mget eqf x.2.2.1 u = some 1 → rank s < rank u) → Ret (gV eqf okf d0 nxt N x s) (VQ eqf g Good nx gr most x s) := by
  intro r
  induction r with
  | zero => 
    intro s hs hr N hN x hI hrk
    exact gv_step s hs N (by omega) x hI hrk fun t ht => absurd (H.rk s t hs ht) (by omega)
  | succ r ih =>
    intro s hs hr N hN x hI hrk
    exact gv_step s hs N (by omega) x hI hrk fun t ht N' hN' x' hI' hrk' => ih t (H.good s t hs ht) (by have := H.rk s t hs ht; omega) N' (by omega) x' hI' hrk'
where
  gv_step (s : S) (hs : Good s) (N : Nat) (hN : (B + 2) * (B + 4) + B < N) (x : SolT γ S) (hI : Inv eqf g Good nx gr most x) (hrk : ∀ u, mget eqf x.2.2.1 u = some 1 → rank s < rank u)
      (ih : ∀ t ∈ nx s, ∀ N', N ≤ N' + 1 → ∀ x, Inv eqf g Good nx gr most x → (∀ u, mget eqf x.2.2.1 u = some 1 → rank t < rank u) → Ret (gV eqf okf d0 nxt N' x t) (VQ eqf g Good nx gr most x t)) : Ret (gV eqf okf d0 nxt N x s) (VQ eqf g Good nx gr most x s) := by
    have hlen := H.len s hs
    have hB := H.Bs
    obtain ⟨N, rfl⟩ : ∃ m, N = m + 1 := ⟨N - 1, by omega⟩
    obtain ⟨g', m5, m6, x3, x4⟩ := x
    have hg : g' = g := hI.g
    have h4 : x4 = 0 := hI.e
    subst hg h4
    have hl0 : 0 ≤ x3 := hI.l0
    have hl : x3 + (m6.length : Int) = most := hI.l
    show Ret (gE _ _ _ _ _ _) _
    unfold gE
    rw [chk_of (H.ok s hs)]
    cases hd : mget eqf m5 s with
    | some v =>
      have hdc := hI.dc s v hd
      show Ret (some (v, (g', (m5, (m6, (x3, (0 : Int))))))) _
      refine Ret.ret (.inl ⟨hI, hdc.1, by show (mget eqf m5 s).isSome = true; rw [hd]; rfl, fun t ht => ht, fun t => Iff.rfl⟩)
    | none =>
      have hop : mget eqf m6 s = none := by
        cases ho : mget eqf m6 s with
        | none => rfl
        | some v =>
          exfalso
          rcases hI.o01 s v ho with rfl | rfl
          · have := hI.od s ho
            have hd' : mget eqf (g', (m5, (m6, (x3, (0 : Int))))).2.1 s = none := hd
            rw [hd'] at this
            cases this
          · exact Nat.lt_irrefl _ (hrk s ho)
      show Ret (bif (none : Option Int).isSome then some ((none : Option Int).getD 0, (g', (m5, (m6, (x3, (0 : Int)))))) else bif (!(eqI 0 0)) then some ((none : Option Int).getD 0, (g', (m5, (m6, (x3, (0 : Int)))))) else Am.chk (okf s) (bif (eqI ((mget eqf m6 s).getD (0 : Int)) 1) then some (0, (g', (m5, (m6, (x3, 19))))) else bif (ltI (w64 (x3 - 1)) 0) then some (0, (g', (m5, (m6, ((w64 (x3 - 1)), 17))))) else Am.chk (okf s) ((nxt N g' s).bind fun y4 => (gL eqf okf d0 (gV eqf okf d0 nxt N) s N).1 (y4.length : Int) 0 g' (w64 (x3 - 1)) 0 y4 [] m5 (mput eqf m6 s 1)))) _
      rw [hop, bif_f (by rfl), bif_f (by rfl), chk_of (H.ok s hs), bif_f (by rfl), w64_id (by omega) (by omega)]
      by_cases c : x3 - 1 < 0
      · rw [bif_t (ltI_t c)]
        refine Ret.ret (.inr ⟨rfl, m6.map (·.1) ++ [s], ?_, ?_, ?_⟩)
        · exact List.nodup_append.2 ⟨hI.nd, by simp, fun a ha b hb e => by
            have : b = s := by simpa using hb
            subst this
            subst e
            exact mget_not heq hop ha⟩
        · intro k hk
          rcases List.mem_append.1 hk with hk | hk
          · exact hI.gd k hk
          · have : k = s := by simpa using hk
            rw [this]; exact hs
        · rw [List.length_append, List.length_map, List.length_singleton]
          omega
      · have hmul : (B + 2) * (B + 4) = (B + 1) * (B + 4) + (B + 4) := by rw [Nat.add_mul (B + 1) 1, Nat.one_mul]
        have hle : ((nx s).length + 1) * (B + 4) ≤ (B + 1) * (B + 4) := Nat.mul_le_mul_right _ (by omega)
        rw [bif_f (ltI_f (by omega)), chk_of (H.ok s hs), H.nxt s N hs (by
          have : B ≤ (B + 2) * (B + 4) := Nat.le_trans (by omega) (Nat.le_mul_of_pos_right (B + 2) (by omega : 0 < B + 4))
          omega), Option.bind_some]
        have hputk : mput eqf m6 s 1 = m6 ++ [(s, 1)] := put_new heq 1 hop
        have hL : LInv eqf g' Good nx gr most (g', (m5, (m6, (x3, (0 : Int))))) s 0 (x3 - 1) m5 (mput eqf m6 s 1) := by
          refine ⟨⟨rfl, rfl, ?_, ?_, ?_, ?_, ?_, ?_, ?_⟩, mget_put heq s 1 m6, fun t => ?_, fun t ht => ht, fun t ht => by simp at ht⟩
          · show 0 ≤ x3 - 1; omega
          · show x3 - 1 + ((mput eqf m6 s 1).length : Int) = most
            rw [hputk, List.length_append, List.length_singleton]; omega
          · show ((mput eqf m6 s 1).map (·.1)).Nodup
            rw [hputk, List.map_append]
            exact List.nodup_append.2 ⟨hI.nd, by simp, fun a ha b hb e => by
              have : b = s := by simpa using hb
              subst this
              subst e
              exact mget_not heq hop ha⟩
          · show ∀ k ∈ (mput eqf m6 s 1).map (·.1), Good k
            rw [hputk, List.map_append]
            intro k hk
            rcases List.mem_append.1 hk with hk | hk
            · exact hI.gd k hk
            · have : k = s := by simpa using hk
              rw [this]; exact hs
          · intro k v hk
            have hk : mget eqf m5 k = some v := hk
            obtain ⟨h1, h2, h3⟩ := hI.dc k v hk
            have hne : k ≠ s := fun e => by rw [e, hd] at hk; cases hk
            exact ⟨h1, by show mget eqf (mput eqf m6 s 1) k = some 0; rw [mget_put_ne heq hne]; exact h2, h3⟩
          · intro k hk
            have hk : mget eqf (mput eqf m6 s 1) k = some 0 := hk
            by_cases e : k = s
            · rw [e, mget_put heq] at hk; simp at hk
            · rw [mget_put_ne heq e] at hk
              exact hI.od k hk
          · intro k v hk
            have hk : mget eqf (mput eqf m6 s 1) k = some v := hk
            by_cases e : k = s
            · rw [e, mget_put heq] at hk; cases hk; exact .inr rfl
            · rw [mget_put_ne heq e] at hk
              exact hI.o01 k v hk
          · by_cases e : t = s
            · rw [e, mget_put heq]; exact ⟨fun _ => .inl rfl, fun _ => rfl⟩
            · rw [mget_put_ne heq e]
              exact ⟨fun h => .inr h, fun h => h.resolve_left e⟩
        refine gl0 heq H hs (x0 := (g', (m5, (m6, (x3, (0 : Int)))))) (by show mget eqf m6 s ≠ some 1; rw [hop]; simp) (fun t ht x hx hr => ih t ht N (by omega) x hx hr) hrk (nx s).length 0 N (x3 - 1) m5 (mput eqf m6 s 1) [] (by omega) (by omega) hL (by simp) fun i => ?_
        simp
/-- the value of a state: by what is left of the budget -/
theorem gvalue_ok {s : S} (hs : Good s) (h1 : 1 ≤ most) {N : Nat} (hN : rank s + ((B + 2) * (B + 4) + B) < N) :
    (gValue eqf okf d0 nxt N g s most = some ((gr s : Int), 0) ∧ ∃ D : List S, (D.length : Int) ≤ most ∧ s ∈ D ∧ ∀ k ∈ D, ∀ t ∈ nx k, t ∈ D) ∨
    (gValue eqf okf d0 nxt N g s most = some (0, 17) ∧ ∃ l : List S, l.Nodup ∧ (∀ k ∈ l, Good k) ∧ (l.length : Int) = most + 1) := by
  unfold gValue
  rw [bif_f (ltI_f h1), bif_f (ltI_f hmost.2)]
  obtain ⟨⟨v, x⟩, hy, hq⟩ := gv_ok heq H hmost (d0 := d0) (rank s) s hs (Nat.le_refl _) N hN (g, ([], ([], (most, 0)))) ⟨rfl, rfl, hmost.1, by simp, by simp, by simp, fun k v h => (by cases h), fun k h => (by cases h), fun k v h => (by cases h)⟩ (fun u hu => by cases hu)
  rw [hy, Option.bind_some]
  rcases hq with ⟨hI, hv, hd, _, _⟩ | ⟨he, hbad⟩
  · left
    have he : x.2.2.2.2 = 0 := hI.e
    have hv : v = (gr s : Int) := hv
    refine ⟨by rw [bif_f (by show (!(eqI x.2.2.2.2 0)) = false; rw [he]; rfl), hv], x.2.2.1.map (·.1), ?_, ?_, ?_⟩
    · have h2 : x.2.2.2.1 + (x.2.2.1.length : Int) = most := hI.l
      have h3 : 0 ≤ x.2.2.2.1 := hI.l0
      rw [List.length_map]
      omega
    · obtain ⟨w, hw⟩ := Option.isSome_iff_exists.1 hd
      exact mget_mem heq (hI.dc s w hw).2.1
    · intro k hk t ht
      have h2 : (mget eqf x.2.1 k).isSome = true := by
        cases ho : mget eqf x.2.2.1 k with
        | none => exact absurd hk (mget_not heq ho)
        | some v =>
          rcases hI.o01 k v ho with rfl | rfl
          · exact hI.od k ho
          · have hop := (‹∀ t, mget eqf (v, x).2.2.2.1 t = some 1 ↔ _› k).1 ho
            cases hop
      obtain ⟨w, hw⟩ := Option.isSome_iff_exists.1 h2
      obtain ⟨w2, hw2⟩ := Option.isSome_iff_exists.1 ((hI.dc k w hw).2.2 t ht)
      exact mget_mem heq (hI.dc t w2 hw2).2.1
  · right
    have he : x.2.2.2.2 = 17 := he
    refine ⟨by rw [bif_t (by show (!(eqI x.2.2.2.2 0)) = true; rw [he]; rfl)]; show some ((0 : Int), x.2.2.2.2) = _; rw [he], hbad⟩
end
end Go.Proofs.Ytbnpbnghpbgjiaa.Am
