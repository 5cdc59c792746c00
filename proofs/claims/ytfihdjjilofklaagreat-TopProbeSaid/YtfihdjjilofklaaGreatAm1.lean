/- What an abstract state says of a world and a frame: relations, and how they persist. -/
import Derived.Test.YtfihdjjilofklaaGreatAm0
import Derived.Laws.Slices
import Derived.Maps.OwnIn
import Derived.DeepKeys5
set_option linter.unusedVariables false
set_option linter.unusedSimpArgs false
namespace Go.Proofs.YtfihdjjilofklaaGreat.Am
open Go
def cellsAt (w : World) (a : Addr) (vs : List Value) : Prop := ∀ j v, vs[j]? = some v → w.cell? (a.add j) = some v
theorem Addr.add_add (a : Addr) (m n : Nat) : (a.add m).add n = a.add (m + n) := by
 unfold Addr.add
 by_cases h : m = 0
 ·subst h; simp
 ·by_cases h' : n = 0
  ·subst h'; simp
  ·simp [h, h', Nat.add_assoc]
theorem Addr.add_zero' (a : Addr) : a.add 0 = a := by simp [Addr.add]
@[simp] theorem Addr.add_block (a : Addr) (m : Nat) : (a.add m).block = a.block := by unfold Addr.add; split <;> rfl
theorem Addr.add_plain (g o j : Nat) : (⟨g, o, none⟩ : Addr).add j = ⟨g, o + j, none⟩ := by unfold Addr.add; split <;> simp_all
theorem cell_same {w w' : World} {a : Addr} (h : w'.heap[a.block]? = w.heap[a.block]?) : w'.cell? a = w.cell? a := by simp [World.cell?, h]
theorem cellsAt.mono {w w' : World} {a : Addr} {vs : List Value} (h : cellsAt w a vs) (hw : w'.heap[a.block]? = w.heap[a.block]?) : cellsAt w' a vs := fun j v hj => by
 rw [cell_same (by simpa using hw)]
 exact h j v hj
abbrev nth {α : Type} (l : List α) (i : Nat) : Option α := l[i]?
abbrev len {α : Type} (l : List α) : Nat := l.length
structure FS where
 p : Nat → Prop
 nu : List Nat
 ka : Nat → Nat → Option Value
instance : CoeFun FS (fun _ => Nat → Prop) := ⟨FS.p⟩
structure FS.le (F F' : FS) : Prop where
 p : ∀ b, F b → F' b
 nu : ∀ (i b : Nat), F.nu[i]? = some b → F'.nu[i]? = some b
 ka : ∀ (i n : Nat) (v : Value), F.ka i n = some v → F'.ka i n = some v
theorem FS.le.refl (F : FS) : F.le F := ⟨fun _ h => h, fun _ _ h => h, fun _ _ _ h => h⟩
theorem FS.le.trans {F F1 F2 : FS} (h : F.le F1) (k : F1.le F2) : F.le F2 := ⟨fun b hb => k.p b (h.p b hb), fun i b hb => k.nu i b (h.nu i b hb), fun i n v hv => k.ka i n v (h.ka i n v hv)⟩
def FS.plus (F : FS) (q : Nat → Prop) : FS := ⟨fun b => F b ∨ q b, F.nu, F.ka⟩
theorem FS.le.plus (F : FS) (q : Nat → Prop) : F.le (F.plus q) := ⟨fun _ h => .inl h, fun _ _ h => h, fun _ _ _ h => h⟩
def FS.same (F F' : FS) : Prop := F'.nu = F.nu ∧ F'.ka = F.ka
theorem FS.same.refl (F : FS) : F.same F := ⟨rfl, rfl⟩
theorem FS.same.trans {F F1 F2 : FS} (h : F.same F1) (k : F1.same F2) : F.same F2 := ⟨k.1.trans h.1, k.2.trans h.2⟩
def NR (F : FS) (i : Int) (v : Value) : Prop := (i < 0 ∧ v = .pointer none) ∨ (0 ≤ i ∧ ∃ b, F.nu[i.toNat]? = some b ∧ v = .pointer (some ⟨b, 0, none⟩))
theorem NR.mono {F F' : FS} (h : F.le F') {i : Int} {v : Value} (k : NR F i v) : NR F' i v := k.imp id fun ⟨h1, b, h2, h3⟩ => ⟨h1, b, h.nu _ _ h2, h3⟩
def RT (w : World) (F : FS) : (t : Ty) → t.den → List Value → Prop
 | .int k, x, l => l = [.int k x]
 | .bool, x, l => l = [.bool x]
 | .str, x, l => l = [.string x]
 | .slice e t, xs, l => ∃ a c, l = [.slice a (len (α := t.den) xs) c] ∧ (len (α := t.den) xs ≤ c ∧ (a = none → c = 0)) ∧ (len (α := t.den) xs = 0 ∨ ∃ ad, a = some ad ∧ F ad.block ∧ ∀ i x, nth (α := t.den) xs i = some x → ∃ vs, RT w F t x vs ∧ cellsAt w (ad.add (i * t.size)) vs)
 | .prod a b, x, l => ∃ l1 l2, l = l1 ++ l2 ∧ RT w F a x.1 l1 ∧ RT w F b x.2 l2
 | .unit, _, l => l = []
 | .ifc T t, x, l => ∃ vs : Array Value, l = [.iface T (.agg vs)] ∧ RT w F t x vs.toList
 | .nod, i, l => ∃ v, l = [v] ∧ NR F i v
theorem RT.len : ∀ {w : World} {F : FS} (t : Ty) {x : t.den} {l : List Value}, RT w F t x l → l.length = t.size
 | _, _, .int k, x, l, h => by unfold RT at h; subst h; rfl
 | _, _, .bool, x, l, h => by unfold RT at h; subst h; rfl
 | _, _, .str, x, l, h => by unfold RT at h; subst h; rfl
 | _, _, .slice e t, xs, l, h => by unfold RT at h; obtain ⟨a, c, rfl, _⟩ := h; rfl
 | _, _, .prod a b, x, l, h => by
  unfold RT at h
  obtain ⟨l1, l2, rfl, h1, h2⟩ := h
  simp [Ty.size, RT.len a h1, RT.len b h2]
 | _, _, .unit, _, l, h => by unfold RT at h; subst h; rfl
 | _, _, .ifc T t, x, l, h => by unfold RT at h; obtain ⟨vs, rfl, _⟩ := h; rfl
 | _, _, .nod, x, l, h => by unfold RT at h; obtain ⟨v, rfl, _⟩ := h; rfl
theorem RT.one : ∀ {w : World} {F : FS} (t : Ty) {x : t.den} {l : List Value}, RT w F t x l → ∀ v ∈ l, v.oneCell' = true
 | _, _, .int k, x, l, h => by unfold RT at h; subst h; simp [Value.oneCell']
 | _, _, .bool, x, l, h => by unfold RT at h; subst h; simp [Value.oneCell']
 | _, _, .str, x, l, h => by unfold RT at h; subst h; simp [Value.oneCell']
 | _, _, .slice e t, xs, l, h => by unfold RT at h; obtain ⟨a, c, rfl, _⟩ := h; simp [Value.oneCell']
 | _, _, .prod a b, x, l, h => by
  unfold RT at h
  obtain ⟨l1, l2, rfl, h1, h2⟩ := h
  intro v hv
  rcases List.mem_append.1 hv with hv | hv
  ·exact RT.one a h1 v hv
  ·exact RT.one b h2 v hv
 | _, _, .unit, _, l, h => by unfold RT at h; subst h; simp
 | _, _, .ifc T t, x, l, h => by unfold RT at h; obtain ⟨vs, rfl, _⟩ := h; simp [Value.oneCell']
 | _, _, .nod, x, l, h => by unfold RT at h; obtain ⟨v, rfl, ⟨_, rfl⟩ | ⟨_, b, _, rfl⟩⟩ := h <;> simp [Value.oneCell']
theorem RT.mono {w w' : World} {F F' : FS} (hF : F.le F') (hw : ∀ b, F b → w'.heap[b]? = w.heap[b]?) : ∀ (t : Ty) {x : t.den} {l : List Value}, RT w F t x l → RT w' F' t x l
 | .int k, x, l, h => by unfold RT at h ⊢; exact h
 | .bool, x, l, h => by unfold RT at h ⊢; exact h
 | .str, x, l, h => by unfold RT at h ⊢; exact h
 | .slice e t, xs, l, h => by
  unfold RT at h ⊢
  obtain ⟨a, c, hl, hcap, h⟩ := h
  refine ⟨a, c, hl, hcap, ?_⟩
  rcases h with h | ⟨ad, ha, hf, h⟩
  ·exact .inl h
  ·refine .inr ⟨ad, ha, hF.p _ hf, fun i x hx => ?_⟩
   obtain ⟨vs, h1, h2⟩ := h i x hx
   exact ⟨vs, RT.mono hF hw t h1, h2.mono (by simpa using hw _ hf)⟩
 | .prod a b, x, l, h => by
  unfold RT at h ⊢
  obtain ⟨l1, l2, rfl, h1, h2⟩ := h
  exact ⟨l1, l2, rfl, RT.mono hF hw a h1, RT.mono hF hw b h2⟩
 | .unit, _, l, h => by unfold RT at h ⊢; exact h
 | .ifc T t, x, l, h => by
  unfold RT at h ⊢
  obtain ⟨vs, hl, h1⟩ := h
  exact ⟨vs, hl, RT.mono hF hw t h1⟩
 | .nod, x, l, h => by
  unfold RT at h ⊢
  obtain ⟨v, hl, h1⟩ := h
  exact ⟨v, hl, h1.mono hF⟩
theorem RT.nu {w : World} {F F' : FS} (hF : ∀ b, F b → F' b) : ∀ (t : Ty) {x : t.den} {l : List Value}, t.nodB = false → RT w F t x l → RT w F' t x l
 | .int k, x, l, _, h => by unfold RT at h ⊢; exact h
 | .bool, x, l, _, h => by unfold RT at h ⊢; exact h
 | .str, x, l, _, h => by unfold RT at h ⊢; exact h
 | .slice e t, x, l, hn, h => by
  unfold RT at h ⊢
  obtain ⟨a, c, hl, hcap, h⟩ := h
  refine ⟨a, c, hl, hcap, ?_⟩
  rcases h with h | ⟨ad, ha, hf, h⟩
  ·exact .inl h
  ·refine .inr ⟨ad, ha, hF _ hf, fun i x hx => ?_⟩
   obtain ⟨vs, h1, h2⟩ := h i x hx
   exact ⟨vs, RT.nu hF t (by simpa [Ty.nodB] using hn) h1, h2⟩
 | .prod a b, x, l, hn, h => by
  simp only [Ty.nodB, Bool.or_eq_false_iff] at hn
  unfold RT at h ⊢
  obtain ⟨l1, l2, rfl, h1, h2⟩ := h
  exact ⟨l1, l2, rfl, RT.nu hF a hn.1 h1, RT.nu hF b hn.2 h2⟩
 | .unit, x, l, _, h => by unfold RT at h ⊢; exact h
 | .ifc T t, x, l, hn, h => by
  unfold RT at h ⊢
  obtain ⟨vs, hl, h1⟩ := h
  exact ⟨vs, hl, RT.nu hF t (by simpa [Ty.nodB] using hn) h1⟩
 | .nod, x, l, hn, h => by simp [Ty.nodB] at hn
theorem dropA {α : Type} (l r : List α) (k : Nat) : (l ++ r).drop (l.length + k) = r.drop k := by
 induction l with
 | nil => simp
 | cons a l ih => rw [List.length_cons, List.cons_append, show l.length + 1 + k = (l.length + k) + 1 by omega, List.drop_succ_cons, ih]
theorem takeA {α : Type} (l r : List α) (k : Nat) : (l ++ r).take (l.length + k) = l ++ r.take k := by
 induction l with
 | nil => simp
 | cons a l ih => rw [List.length_cons, List.cons_append, show l.length + 1 + k = (l.length + k) + 1 by omega, List.take_succ_cons, ih]; rfl
inductive RTL (w : World) (F : FS) (t : Ty) : List t.den → List Value → Prop
 | nil : RTL w F t [] []
 | cons {x : t.den} {xs : List t.den} {l r : List Value} : RT w F t x l → RTL w F t xs r → RTL w F t (x :: xs) (l ++ r)
theorem RTL.len {w : World} {F : FS} {t : Ty} {xs : List t.den} {l : List Value} (h : RTL w F t xs l) : l.length = xs.length * t.size := by
 induction h with
 | nil => simp
 | cons h _ ih => simp [RT.len t h, ih, Nat.add_mul, Nat.add_comm]
theorem RTL.one {w : World} {F : FS} {t : Ty} {xs : List t.den} {l : List Value} (h : RTL w F t xs l) : ∀ v ∈ l, v.oneCell' = true := by
 induction h with
 | nil => simp
 | cons h _ ih => 
  intro v hv
  rcases List.mem_append.1 hv with hv | hv
  ·exact RT.one t h v hv
  ·exact ih v hv
theorem RTL.nu {w : World} {F F' : FS} (hF : ∀ b, F b → F' b) {t : Ty} (hn : t.nodB = false) {xs : List t.den} {l : List Value} (h : RTL w F t xs l) : RTL w F' t xs l := by
 induction h with
 | nil => exact .nil
 | cons h _ ih => exact .cons (RT.nu hF t hn h) ih
theorem RTL.mono {w w' : World} {F F' : FS} (hF : F.le F') (hw : ∀ b, F b → w'.heap[b]? = w.heap[b]?) {t : Ty} {xs : List t.den} {l : List Value} (h : RTL w F t xs l) : RTL w' F' t xs l := by
 induction h with
 | nil => exact .nil
 | cons h _ ih => exact .cons (RT.mono hF hw t h) ih
theorem RTL.append {w : World} {F : FS} {t : Ty} {xs ys : List t.den} {l r : List Value} (h : RTL w F t xs l) (k : RTL w F t ys r) : RTL w F t (xs ++ ys) (l ++ r) := by
 induction h with
 | nil => exact k
 | cons h _ ih => rw [List.append_assoc, List.cons_append]; exact .cons h ih
theorem RTL.at {w : World} {F : FS} {t : Ty} {xs : List t.den} {l : List Value} (h : RTL w F t xs l) : ∀ i x, xs[i]? = some x → RT w F t x ((l.drop (i * t.size)).take t.size) := by
 induction h with
 | nil => intro i x h; simp at h
 | @cons y ys l r h _ ih =>
  intro i x hx
  have hl := RT.len t h
  cases i with
  | zero =>
   simp at hx
   subst hx
   simp only [Nat.zero_mul, List.drop_zero]
   rw [List.take_append_of_le_length (by omega), ← hl, List.take_length]
   exact h
  | succ i =>
   have := ih i x (by simpa using hx)
   have e : (i + 1) * t.size = l.length + i * t.size := by rw [hl, Nat.add_mul]; omega
   rw [e, dropA]
   exact this
theorem RTL.take {w : World} {F : FS} {t : Ty} {xs : List t.den} {l : List Value} (h : RTL w F t xs l) : ∀ n, RTL w F t (xs.take n) (l.take (n * t.size)) := by
 induction h with
 | nil => intro n; simp; exact .nil
 | @cons y ys l r h _ ih =>
  intro n
  have hl := RT.len t h
  cases n with
  | zero => simp; exact .nil
  | succ n =>
   have e : (n + 1) * t.size = l.length + n * t.size := by rw [hl, Nat.add_mul]; omega
   rw [e, takeA, List.take_succ_cons]
   exact .cons h (ih n)
theorem RTL.set {w : World} {F : FS} {t : Ty} {xs : List t.den} {l : List Value} (h : RTL w F t xs l) : ∀ i (x : t.den) vs, i < xs.length → RT w F t x vs → RTL w F t (xs.set i x) (l.take (i * t.size) ++ vs ++ l.drop (i * t.size + t.size)) := by
 induction h with
 | nil => intro i x vs h; simp at h
 | @cons y ys l r h hr ih =>
  intro i x vs hi hx
  have hl := RT.len t h
  cases i with
  | zero =>
   simp only [Nat.zero_mul, List.take_zero, List.nil_append, Nat.zero_add, List.set_cons_zero]
   rw [← hl, List.drop_left]
   exact .cons hx hr
  | succ i =>
   have e : (i + 1) * t.size = l.length + i * t.size := by rw [hl, Nat.add_mul]; omega
   have := ih i x vs (by simpa using hi) hx
   rw [e, takeA, Nat.add_assoc, dropA, List.set_cons_succ, List.append_assoc, List.append_assoc]
   refine .cons h ?_
   rw [← List.append_assoc]
   exact this
def CR (w : World) (ρ : Nat → Value) (F : FS) (N : Nat) : AC → Value → Prop
 | .any, v => v.oneCell' = true
 | .int k n, v => v = .int k n
 | .bool b, v => v = .bool b
 | .str s, v => v = .string s
 | .nilS, v => v = .slice none 0 0
 | .fro e t xs, v => RT w F (.slice e t) xs [v]
 | .frn e t xs, v => RT w F (.slice e t) xs [v] ∧ ∃ a l c, v = .slice (some a) l c
 | .own n, v => n < N ∧ v = ρ n ∧ v.oneCell' = true
 | .vw n lo sz, v => n < N ∧ 0 ≤ lo ∧ ∃ a l c, ρ n = .slice a l c ∧ lo.toNat ≤ l ∧ l ≤ c ∧ v = sliced a lo.toNat l c sz
 | .vwh n lo hi sz, v => n < N ∧ 0 ≤ lo ∧ lo ≤ hi ∧ ∃ a l c, ρ n = .slice a l c ∧ hi.toNat ≤ l ∧ l ≤ c ∧ v = sliced a lo.toNat hi.toNat c sz
 | .ptr n off, v => n < N ∧ ∃ b, ρ n = .pointer (some ⟨b, 0, none⟩) ∧ v = .pointer (some ⟨b, off, none⟩)
 | .fp t x off, v => ∃ ad vs, v = .pointer (some (ad.add off)) ∧ F ad.block ∧ RT w F t x vs ∧ cellsAt w ad vs
 | .ep n i sz off, v => n < N ∧ ∃ g len cap, ρ n = .slice (some ⟨g, 0, none⟩) len cap ∧ i.toNat < len ∧ v = .pointer (some ⟨g, i.toNat * sz + off, none⟩)
 | .fn f, v => v = .func (.func f) #[] #[]
 | .clo f n, v => n < N ∧ ∃ b, ρ n = .pointer (some ⟨b, 0, none⟩) ∧ v = .func (.func f) #[] #[.pointer (some ⟨b, 0, none⟩)]
 | .cfr f t x, v => ∃ ad vs, v = .func (.func f) #[] #[.pointer (some ad)] ∧ F ad.block ∧ RT w F t x vs ∧ cellsAt w ad vs
 | .nilP, v => v = .pointer none
 | .nilI, v => v = .nilIface
 | .nilF, v => v = .nilFunc
 | .nilM, v => v = .map none
 | .ifc T t x, v => RT w F (.ifc T t) x [v]
 | .nr i, v => NR F i v
 | .np i off, v => 0 ≤ i ∧ ∃ b, F.nu[i.toNat]? = some b ∧ v = .pointer (some ⟨b, off, none⟩)
 | .kd i n, v => 0 ≤ i ∧ 0 ≤ n ∧ F.ka i.toNat n.toNat = some v ∧ ((n = 0 ∧ v = .slice none 0 0) ∨ (0 < n ∧ ∃ b c, v = .slice (some ⟨b, 0, none⟩) n.toNat c))
 | .ke i n j, v => (0 ≤ i ∧ 0 ≤ j ∧ j < n) ∧ ∃ b l c, F.ka i.toNat n.toNat = some (.slice (some ⟨b, 0, none⟩) l c) ∧ v = .pointer (some ⟨b, j.toNat, none⟩)
theorem CR.one {w : World} {ρ : Nat → Value} {F : FS} {N : Nat} {c : AC} {v : Value} (h : CR w ρ F N c v) : v.oneCell' = true := by
 cases c with
 | fro e t xs => exact RT.one _ h v (by simp)
 | frn e t xs => obtain ⟨_, a, l, c, rfl⟩ := h; rfl
 | vw n lo sz => obtain ⟨_, _, a, l, c, _, _, _, rfl⟩ := h; rfl
 | vwh n lo hi sz => obtain ⟨_, _, _, a, l, c, _, _, _, rfl⟩ := h; rfl
 | any => exact h
 | own n => exact h.2.2
 | ptr n off => obtain ⟨_, b, _, rfl⟩ := h; rfl
 | clo f n => obtain ⟨_, b, _, rfl⟩ := h; rfl
 | ep n i s off => obtain ⟨_, b, _, _, _, _, rfl⟩ := h; rfl
 | fp t x off => obtain ⟨_, b, rfl, _⟩ := h; rfl
 | cfr f t x => obtain ⟨_, b, rfl, _⟩ := h; rfl
 | ifc T t x => exact RT.one _ h v (by simp)
 | nr i => rcases h with ⟨_, rfl⟩ | ⟨_, b, _, rfl⟩ <;> rfl
 | np i off => obtain ⟨_, b, _, rfl⟩ := h; rfl
 | kd i n => obtain ⟨_, _, _, ⟨_, rfl⟩ | ⟨_, b, c, rfl⟩⟩ := h <;> rfl
 | ke i n j => obtain ⟨_, b, l, c, _, rfl⟩ := h; rfl
 | _ => unfold CR at h; subst h; rfl
structure Mv (w w' : World) (F F' : FS) : Prop where
 le : F.le F'
 same : ∀ b, F b → w'.heap[b]? = w.heap[b]?
theorem Mv.sub {w w' : World} {F F' : FS} (h : Mv w w' F F') : ∀ b, F b → F' b := h.le.p
theorem Mv.refl (w : World) (F : FS) : Mv w w F F := ⟨.refl F, fun _ _ => rfl⟩
theorem Mv.trans {w w1 w2 : World} {F F1 F2 : FS} (h : Mv w w1 F F1) (k : Mv w1 w2 F1 F2) : Mv w w2 F F2 :=
 ⟨h.le.trans k.le, fun b hb => (k.same b (h.sub b hb)).trans (h.same b hb)⟩
theorem CR.mono {w w' : World} {ρ ρ' : Nat → Value} {F F' : FS} {N N' : Nat} {c : AC} {v : Value} (hm : Mv w w' F F') (hρ : ∀ n, n < N → c.nm = some n → ρ' n = ρ n) (hN : N ≤ N') (h : CR w ρ F N c v) : CR w' ρ' F' N' c v := by
 cases c with
 | fro e t xs => exact RT.mono hm.le hm.same _ h
 | frn e t xs => exact ⟨RT.mono hm.le hm.same _ h.1, h.2⟩
 | ifc T t x => exact RT.mono hm.le hm.same _ h
 | vw n lo sz => obtain ⟨h1, h0, a, l, c, h2, h3⟩ := h; exact ⟨Nat.lt_of_lt_of_le h1 hN, h0, a, l, c, by rw [hρ n h1 rfl]; exact h2, h3⟩
 | vwh n lo hi sz => obtain ⟨h1, h0, h9, a, l, c, h2, h3⟩ := h; exact ⟨Nat.lt_of_lt_of_le h1 hN, h0, h9, a, l, c, by rw [hρ n h1 rfl]; exact h2, h3⟩
 | own n => exact ⟨Nat.lt_of_lt_of_le h.1 hN, by rw [hρ n h.1 rfl]; exact h.2.1, h.2.2⟩
 | ptr n off => obtain ⟨h1, b, h2, h3⟩ := h; exact ⟨Nat.lt_of_lt_of_le h1 hN, b, by rw [hρ n h1 rfl]; exact h2, h3⟩
 | clo f n => obtain ⟨h1, b, h2, h3⟩ := h; exact ⟨Nat.lt_of_lt_of_le h1 hN, b, by rw [hρ n h1 rfl]; exact h2, h3⟩
 | ep n i s off => obtain ⟨h1, b, l, c, h2, h3⟩ := h; exact ⟨Nat.lt_of_lt_of_le h1 hN, b, l, c, by rw [hρ n h1 rfl]; exact h2, h3⟩
 | fp t x off => obtain ⟨ad, vs, h1, h2, h3, h4⟩ := h; exact ⟨ad, vs, h1, hm.sub _ h2, RT.mono hm.le hm.same t h3, h4.mono (hm.same _ h2)⟩
 | cfr f t x => obtain ⟨ad, vs, h1, h2, h3, h4⟩ := h; exact ⟨ad, vs, h1, hm.sub _ h2, RT.mono hm.le hm.same t h3, h4.mono (hm.same _ h2)⟩
 | nr i => exact NR.mono hm.le h
 | np i off => obtain ⟨h1, b, h2, h3⟩ := h; exact ⟨h1, b, hm.le.nu _ _ h2, h3⟩
 | kd i n => obtain ⟨h1, h2, h3, h4⟩ := h; exact ⟨h1, h2, hm.le.ka _ _ _ h3, h4⟩
 | ke i n j => obtain ⟨h1, b, l, c, h2, h3⟩ := h; exact ⟨h1, b, l, c, hm.le.ka _ _ _ h2, h3⟩
 | _ => exact h
def Glob (w : World) (F : FS) : Prop := ∀ h p, globT h = some p → p.1.nodB = false ∧ F h ∧ ∃ vs, RT w F p.1 p.2 vs ∧ cellsAt w ⟨h, 0, none⟩ vs
theorem Glob.mono {w w' : World} {F F' : FS} (hm : Mv w w' F F') (h : Glob w F) : Glob w' F' := fun i p hp =>
 let ⟨h0, h1, vs, h2, h3⟩ := h i p hp
 ⟨h0, hm.sub _ h1, vs, RT.mono hm.le hm.same _ h2, h3.mono (hm.same _ h1)⟩
inductive F2 {α β : Type} (R : α → β → Prop) : List α → List β → Prop
 | nil : F2 R [] []
 | cons {a : α} {b : β} {l : List α} {r : List β} : R a b → F2 R l r → F2 R (a :: l) (b :: r)
def CRs (w : World) (ρ : Nat → Value) (F : FS) (N : Nat) (l : List AC) (vs : List Value) : Prop := F2 (CR w ρ F N) l vs
theorem F2.length {α β : Type} {R : α → β → Prop} {l : List α} {r : List β} (h : F2 R l r) : l.length = r.length := by
 induction h with
 | nil => rfl
 | cons _ _ ih => simp [ih]
theorem F2.get {α β : Type} {R : α → β → Prop} {l : List α} {r : List β} (h : F2 R l r) : ∀ (i : Nat) (a : α), l[i]? = some a → ∃ b, r[i]? = some b ∧ R a b := by
 induction h with
 | nil => intro i a h; simp at h
 | cons h _ ih =>
  intro i a hi
  cases i with
  | zero => simp at hi; subst hi; exact ⟨_, by simp, h⟩
  | succ i => exact ih i a (by simpa using hi)
theorem F2.imp {α β : Type} {R R' : α → β → Prop} {l : List α} {r : List β} (h : F2 R l r) (k : ∀ a b, a ∈ l → R a b → R' a b) : F2 R' l r := by
 induction h with
 | nil => exact .nil
 | cons h _ ih => exact .cons (k _ _ (by simp) h) (ih fun a b ha => k a b (by simp [ha]))
theorem F2.append {α β : Type} {R : α → β → Prop} {l l' : List α} {r r' : List β} (h : F2 R l r) (k : F2 R l' r') : F2 R (l ++ l') (r ++ r') := by
 induction h with
 | nil => exact k
 | cons h _ ih => exact .cons h ih
theorem F2.drop {α β : Type} {R : α → β → Prop} {l : List α} {r : List β} (h : F2 R l r) : ∀ n, F2 R (l.drop n) (r.drop n) := by
 induction h with
 | nil => intro n; simp; exact .nil
 | cons h hr ih =>
  intro n
  cases n with
  | zero => exact .cons h hr
  | succ n => exact ih n
theorem F2.take {α β : Type} {R : α → β → Prop} {l : List α} {r : List β} (h : F2 R l r) : ∀ n, F2 R (l.take n) (r.take n) := by
 induction h with
 | nil => intro n; simp; exact .nil
 | cons h hr ih =>
  intro n
  cases n with
  | zero => exact .nil
  | succ n => exact .cons h (ih n)
theorem F2.set {α β : Type} {R : α → β → Prop} {l : List α} {r : List β} (h : F2 R l r) (a : α) (b : β) (hab : R a b) : ∀ n, F2 R (l.set n a) (r.set n b) := by
 induction h with
 | nil => intro n; simp; exact .nil
 | cons h hr ih =>
  intro n
  cases n with
  | zero => exact .cons hab hr
  | succ n => exact .cons h (ih n)
theorem F2.map {α β γ : Type} {R : α → β → Prop} {R' : γ → β → Prop} (f : α → γ) {l : List α} {r : List β} (h : F2 R l r) (k : ∀ a b, R a b → R' (f a) b) : F2 R' (l.map f) r := by
 induction h with
 | nil => exact .nil
 | cons h _ ih => exact .cons (k _ _ h) ih
theorem CRs.mono {w w' : World} {ρ ρ' : Nat → Value} {F F' : FS} {N N' : Nat} {l : List AC} {vs : List Value} (hm : Mv w w' F F') (hρ : ∀ c ∈ l, ∀ n, n < N → c.nm = some n → ρ' n = ρ n) (hN : N ≤ N') (h : CRs w ρ F N l vs) : CRs w' ρ' F' N' l vs :=
 F2.imp h fun c v hc hv => hv.mono hm (hρ c hc) hN
theorem CRs.one {w : World} {ρ : Nat → Value} {F : FS} {N : Nat} {l : List AC} {vs : List Value} (h : CRs w ρ F N l vs) : ∀ v ∈ vs, v.oneCell' = true := by
 induction h with
 | nil => simp
 | cons h _ ih =>
  intro v hv
  rcases List.mem_cons.1 hv with rfl | hv
  ·exact h.one
  ·exact ih v hv
def VRb (w : World) (ρ : Nat → Value) (F : FS) (N : Nat) : Bool → List AC → Value → Prop
 | true, l, v => ∃ vs, v = .agg vs ∧ CRs w ρ F N l vs.toList
 | false, [.any], _ => True
 | false, [c], v => CR w ρ F N c v
 | false, _, _ => True
def VR (w : World) (ρ : Nat → Value) (F : FS) (N : Nat) : AV → Value → Prop
 | .one c, v => VRb w ρ F N false [c] v
 | .agg l, v => VRb w ρ F N true l v
 | .tup l, v => ∃ vs, v = .tuple vs ∧ F2 (fun p v => VRb w ρ F N p.1 p.2 v) l vs.toList
theorem VRb.mono {w w' : World} {ρ ρ' : Nat → Value} {F F' : FS} {N N' : Nat} {b : Bool} {l : List AC} {v : Value} (hm : Mv w w' F F') (hρ : ∀ c ∈ l, ∀ n, n < N → c.nm = some n → ρ' n = ρ n) (hN : N ≤ N') (h : VRb w ρ F N b l v) : VRb w' ρ' F' N' b l v := by
 cases b with
 | true => obtain ⟨vs, rfl, h⟩ := h; exact ⟨vs, rfl, h.mono hm hρ hN⟩
 | false =>
  match l, h with
  | [], _ => trivial
  | [c], h =>
   by_cases hc : c = .any
   ·subst hc; trivial
   ·have h' : CR w ρ F N c v := by cases c <;> first | exact absurd rfl hc | exact h
    have := h'.mono hm (hρ c (by simp)) hN
    cases c <;> first | exact absurd rfl hc | exact this
  | c :: d :: r, _ => cases c <;> trivial
def AV.acs : AV → List AC
 | .one c => [c]
 | .agg l => l
 | .tup l => (l.map fun p => p.2).flatten
theorem VR.mono {w w' : World} {ρ ρ' : Nat → Value} {F F' : FS} {N N' : Nat} {x : AV} {v : Value} (hm : Mv w w' F F') (hρ : ∀ c ∈ x.acs, ∀ n, n < N → c.nm = some n → ρ' n = ρ n) (hN : N ≤ N') (h : VR w ρ F N x v) : VR w' ρ' F' N' x v := by
 cases x with
 | one c => exact VRb.mono (l := [c]) hm hρ hN h
 | agg l => exact VRb.mono (b := true) (l := l) hm hρ hN h
 | tup l =>
  obtain ⟨vs, rfl, h⟩ := h
  refine ⟨vs, rfl, F2.imp h fun p v hp hv => VRb.mono hm (fun c hc => hρ c ?_) hN hv⟩
  simp only [AV.acs, List.mem_flatten, List.mem_map]
  exact ⟨p.2, ⟨p, hp, rfl⟩, hc⟩
theorem VR.of_CR {w : World} {ρ : Nat → Value} {F : FS} {N : Nat} {c : AC} {v : Value} (h : CR w ρ F N c v) : VR w ρ F N (.one c) v := by
 cases c <;> first | trivial | exact h
theorem VR.CR {w : World} {ρ : Nat → Value} {F : FS} {N : Nat} {c : AC} {v : Value} (h : VR w ρ F N (.one c) v) (hc : c ≠ .any) : CR w ρ F N c v := by
 cases c <;> first | exact absurd rfl hc | exact h
def blk1 : Value → List Nat
 | .pointer (some a) => [a.block]
 | .slice (some a) _ _ => [a.block]
 | .map (some b) => [b]
 | _ => []
def blk : Value → List Nat
 | .agg vs => (vs.toList.map blk1).flatten
 | v => blk1 v
def cellsV : (t : Ty) → t.den → List Value
 | .int k, x => [.int k x]
 | .bool, x => [.bool x]
 | .str, x => [.string x]
 | .prod a b, x => cellsV a x.1 ++ cellsV b x.2
 | .unit, _ => []
 | .slice _ _, _ => []
 | .ifc _ _, _ => []
 | .nod, _ => []
def vOf (ag : Bool) (t : Ty) (x : t.den) : Value := match ag with
 | true => .agg (cellsV t x).toArray
 | false => match cellsV t x with
  | [v] => v
  | _ => .nilFunc
def ER (ka va : Bool) (kt vt : Ty) (p : kt.den × vt.den) (e : MapEntry) : Prop := okKey kt p.1 = true ∧ e.key = vOf ka kt p.1 ∧ e.val = vOf va vt p.2
def NC (w : World) (F : FS) (a b : Ty) (r : a.den × List Int × b.den) (k : Value) (l : List Value) : Prop := ∃ l1 l2, l = l1 ++ k :: l2 ∧ RT w F a r.1 l1 ∧ RT w F b r.2.2 l2
def KR (w : World) (F : FS) (e : Nat) (xs : List Int) (v : Value) : Prop :=
 (xs = [] ∧ v = .slice none 0 0) ∨ (xs ≠ [] ∧ ∃ vs, w.ownsRow 0 e 1 v xs.length vs ∧ RTL w F .nod xs vs)
def more (pend : Option (Int × List Int)) (i : Nat) : List Int := match pend with
 | some (j, ys) => if j.toNat = i then ys else []
 | none => []
def KV (n : Nat) (v : Value) : Prop := (n = 0 ∧ v = .slice none 0 0) ∨ (0 < n ∧ ∃ b c, v = .slice (some ⟨b, 0, none⟩) n c)
structure Node (w : World) (F : FS) (T e : Nat) (a b : Ty) (r : a.den × List Int × b.den) (ys : List Int) (i : Nat) (bk : Nat) (kv : Value) : Prop where
 nu : F.nu[i]? = some bk
 cells : ∃ cs k0, w.heap[bk]? = some (.cells cs T (0, 0)) ∧ NC w F a b r k0 cs.toList ∧ F.ka i r.2.1.length = some k0 ∧ KV r.2.1.length k0
 now : F.ka i (r.2.1 ++ ys).length = some kv
 row : KR w F e (r.2.1 ++ ys) kv
 top : ∀ n, (r.2.1 ++ ys).length < n → F.ka i n = none
structure AR (w : World) (F : FS) (T e : Nat) (a b : Ty) (recs : List (a.den × List Int × b.den)) (pend : Option (Int × List Int)) (ks : List Value) : Prop where
 nl : F.nu.length = recs.length
 kl : ks.length = recs.length
 node : ∀ i r, recs[i]? = some r → ∃ bk kv, ks[i]? = some kv ∧ Node w F T e a b r (more pend i) i bk kv
 out : ∀ i n, recs.length ≤ i → F.ka i n = none
 nd : F.nu.Nodup
 kd : ∀ (i j : Nat) (u v : Value), i ≠ j → ks[i]? = some u → ks[j]? = some v → ∀ b, b ∈ blk1 u → b ∉ blk1 v
 sep : ∀ b, b ∈ F.nu → ∀ v ∈ ks, b ∉ blk1 v
def ptrs (l : List Nat) : List Value := l.map fun b => .pointer (some ⟨b, 0, none⟩)
def ObjR (w : World) (ρ : Nat → Value) (F : FS) (N : Nat) : AO → Value → Prop
 | .var T l, v => ∃ b vs, v = .pointer (some ⟨b, 0, none⟩) ∧ w.heap[b]? = some (.cells vs T (0, 0)) ∧ CRs w ρ F N l vs.toList
 | .row e t xs, v => ∃ vs, w.ownsRow 0 e t.size v xs.length vs ∧ RTL w F t xs vs
 | .mapo ka va kt vt xs, v => ∃ b es clock, v = .map (some b) ∧ w.heap[b]? = some (.map es clock) ∧ F2 (ER ka va kt vt) xs es.toList ∧ xs.Pairwise fun p q => p.1 ≠ q.1
 | .arena T e a b recs pend, v => ∃ ks, v = .agg (ptrs F.nu ++ ks).toArray ∧ AR w F T e a b recs pend ks
 | .gone, _ => True
def live (m : List AO) (n : Nat) : Prop := ∃ o, m[n]? = some o ∧ o ≠ .gone
structure MR (w : World) (ρ : Nat → Value) (F : FS) (m : List AO) : Prop where
 obj : ∀ n o, m[n]? = some o → ObjR w ρ F m.length o (ρ n)
 inj : ∀ n k b, live m n → live m k → b ∈ blk (ρ n) → b ∈ blk (ρ k) → n = k
 sep : ∀ n b, live m n → b ∈ blk (ρ n) → ¬ F b
 lt : ∀ b, F b → b < w.heap.size
def Own (ρ : Nat → Value) (m : List AO) (b : Nat) : Prop := ∃ n, live m n ∧ b ∈ blk (ρ n)
structure Beg where
 w : World
 ρ : Nat → Value
 F : FS
 m : List AO
 ds : List Deferred
 O : Nat → Prop
structure Gl (g : Beg) (w : World) (ρ : Nat → Value) (F : FS) (m : List AO) : Prop where
 os : w.os = g.w.os
 tape : w.tape = g.w.tape
 output : w.output = g.w.output
 size : g.w.heap.size ≤ w.heap.size
 keep : ∀ b, b < g.w.heap.size → ¬ g.O b → w.heap[b]? = g.w.heap[b]?
 own : ∀ b, Own ρ m b → g.O b ∨ g.w.heap.size ≤ b
 fro : g.F.le F
 froB : ∀ b, F b → g.F b ∨ g.O b ∨ g.w.heap.size ≤ b
 len : g.m.length ≤ m.length
 rho : ∀ n, n < g.m.length → ρ n = g.ρ n
def TR (w : World) (ρ : Nat → Value) (F : FS) (N : Nat) (l : List AV) (a : Array Value) : Prop := F2 (VR w ρ F N) l a.toList
theorem TR.mono {w w' : World} {ρ ρ' : Nat → Value} {F F' : FS} {N N' : Nat} {l : List AV} {a : Array Value} (hm : Mv w w' F F') (hρ : ∀ x ∈ l, ∀ c ∈ x.acs, ∀ n, n < N → c.nm = some n → ρ' n = ρ n) (hN : N ≤ N') (h : TR w ρ F N l a) : TR w' ρ' F' N' l a :=
 F2.imp h fun x v hx hv => hv.mono hm (hρ x hx) hN
structure SX (g : Beg) (ρ : Nat → Value) (F : FS) (s : St) (a : Act) (w : World) : Prop where
 tr : TR w ρ F s.mem.length s.tmps a.tmps
 mr : MR w ρ F s.mem
 gl : Gl g w ρ F s.mem
 defers : a.defers = g.ds
 gb : Glob w F
def SR (g : Beg) (s : St) (a : Act) (w : World) : Prop := ∃ ρ F, SX g ρ F s a w
theorem SX.put {g : Beg} {ρ : Nat → Value} {F : FS} {s : St} {a : Act} {w : World} (h : SX g ρ F s a w) (d : Option Nat) {x : AV} {v : Value} (hv : VR w ρ F s.mem.length x v) : SX g ρ F (s.put d x) (a.put d v) w := by
 cases d with
 | none => exact h
 | some t =>
  refine ⟨?_, h.mr, h.gl, h.defers, h.gb⟩
  show F2 _ _ (a.tmps.setIfInBounds t v).toList
  rw [Array.toList_setIfInBounds]
  exact F2.set h.tr _ _ hv t
theorem VR_const {w : World} {ρ : Nat → Value} {F : FS} {N : Nat} (v : Value) : VR w ρ F N (ofConst v) v := by
 unfold ofConst
 split <;> first | trivial | rfl
theorem SX.ev {g : Beg} {ρ : Nat → Value} {F : FS} {s : St} {a : Act} {w : World} (h : SX g ρ F s a w) (x : Operand) : VR w ρ F s.mem.length (s.ev x) (a.eval x) := by
 cases x with
 | tmp t =>
  show VR _ _ _ _ (s.tmps.getD t (.one .any)) (a.tmps.getD t undef)
  rw [List.getD_eq_getElem?_getD]
  cases hx : s.tmps[t]? with
  | none => trivial
  | some x =>
   obtain ⟨v, hv, hxv⟩ := F2.get h.tr t x hx
   have : a.tmps.getD t undef = v := by rw [Array.getD_eq_getD_getElem?, ← Array.getElem?_toList, hv]; rfl
   rw [this]
   exact hxv
 | const v => exact VR_const v
 | global i =>
  show VR _ _ _ _ (match globT i with | some p => .one (.fp p.1 p.2 0) | none => .one .any) _
  split
  ·rename_i p hp
   obtain ⟨_, h1, vs, h2, h3⟩ := h.gb i p hp
   exact ⟨⟨i, 0, none⟩, vs, rfl, h1, h2, h3⟩
  ·trivial
 | func f => rfl
def Ext (w w' : World) : Prop := w.heap.size ≤ w'.heap.size ∧ ∀ b, b < w.heap.size → w'.heap[b]? = w.heap[b]?
theorem Ext.of_grown {w w' : World} (h : w.grownBy w' none) : Ext w w' := ⟨h.size, fun b hb => h.block b hb (fun e => by cases e)⟩
theorem Ext.refl (w : World) : Ext w w := ⟨Nat.le_refl _, fun _ _ => rfl⟩
theorem Ext.trans {a b c : World} (h : Ext a b) (k : Ext b c) : Ext a c := ⟨Nat.le_trans h.1 k.1, fun i hi => (k.2 i (Nat.lt_of_lt_of_le hi h.1)).trans (h.2 i hi)⟩
def Rd (o : Oper) (a : Act) (w w' : World) : Prop := ∀ T x ad, o.op = .load T x → a.eval x = .pointer (some ad) → ad.block < w.heap.size → w'.heap[ad.block]? = w.heap[ad.block]?
theorem Rd.refl (o : Oper) (a : Act) (w : World) : Rd o a w w := fun _ _ _ _ _ _ => rfl
def StS (o : Oper) (a : Act) (w w' : World) : Prop := ∀ T x y, o.op = .store T x y → ∃ ad, a.eval x = .pointer (some ad) ∧ w.heap.size ≤ w'.heap.size ∧ ∀ b, b ≠ ad.block → w'.heap[b]? = w.heap[b]?
def ApS (o : Oper) (a : Act) (w w' : World) : Prop := ∀ c x, o.op = .call c → c.callee = .builtin .append → c.args[0]? = some x → w.heap.size ≤ w'.heap.size ∧ ∀ b, b < w.heap.size → (a.eval x).ownBlock ≠ some b → w'.heap[b]? = w.heap[b]?
def St1 (o : Oper) (a : Act) (w w' : World) : Prop := StS o a w w' ∧ ApS o a w w'
theorem ApS.no {o : Oper} {a : Act} {w w' : World} (h : ∀ c, o.op = .call c → c.callee ≠ .builtin .append) : ApS o a w w' := fun c _ e1 e2 => absurd e2 (h c e1)
theorem StS.no {o : Oper} {a : Act} {w w' : World} (h : ∀ T x y, o.op ≠ .store T x y) : StS o a w w' := fun T x y e => absurd e (h T x y)
theorem St1.no {o : Oper} {a : Act} {w w' : World} (h : ∀ T x y, o.op ≠ .store T x y) (h2 : ∀ c, o.op = .call c → c.callee ≠ .builtin .append) : St1 o a w w' := ⟨.no h, .no h2⟩
theorem St1.store {o : Oper} {a : Act} {w w' : World} {T : Nat} {p q : Operand} (ho : o.op = .store T p q) (h : StS o a w w') : St1 o a w w' := ⟨h, .no fun c e => by rw [ho] at e; cases e⟩
theorem St1.app {o : Oper} {a : Act} {w w' : World} {c : Call} (ho : o.op = .call c) (h : ApS o a w w') : St1 o a w w' := ⟨.no fun T x y e => (by rw [ho] at e; cases e), h⟩
def Goes {R : Type} (P : Program) (g : Beg) (κ : St → Option R) (r : R) (o : Oper) (a : Act) (w : World) : Prop :=
 ∀ (K : Act → World → Prop) (Q : Exit → Act → World → Prop), (∀ s' a' w', κ s' = some r → SR g s' a' w' → (growOp o = true → (∀ f, o.op ≠ .call f) → Ext w w') → St1 o a w w' → K a' w') → o.wp P a w K Q
section
variable {R : Type} {P : Program} {g : Beg} {ρ : Nat → Value} {F : FS} {s : St} {a : Act} {w : World} {κ : St → Option R} {r : R} {o : Oper}
theorem goes_new {w' : World} {v : Value} {x : AV} (hrun : (execOp a.eval o).run P w = .ok (.value v) w') (hs : SX g ρ F s a w') (hv : VR w' ρ F s.mem.length x v) (h : κ (s.put o.dst x) = some r) (he : growOp o = true → (∀ f, o.op ≠ .call f) → Ext w w') (hst : ∀ T x y, o.op ≠ .store T x y := by intro T x y; simp [*]) (hap : ∀ c, o.op = .call c → c.callee ≠ .builtin .append := by intro c' e'; rw [ho] at e'; first | cases e' | (cases e'; first | (simp [*]; done) | (simp_all; done) | (rw [hc]; simp; done) | (rw [hf]; simp; done))) : Goes P g κ r o a w := by
 intro K Q hK
 unfold Oper.wp
 rw [hrun]
 exact hK _ _ _ h ⟨ρ, F, hs.put o.dst hv⟩ he (.no hst hap)
theorem goes_app {w' : World} {v : Value} {x : AV} {c : Call} (hrun : (execOp a.eval o).run P w = .ok (.value v) w') (hs : SX g ρ F s a w') (hv : VR w' ρ F s.mem.length x v) (h : κ (s.put o.dst x) = some r) (he : growOp o = true → (∀ f, o.op ≠ .call f) → Ext w w') (ho : o.op = .call c) (hap : ApS o a w w') : Goes P g κ r o a w := by
 intro K Q hK
 unfold Oper.wp
 rw [hrun]
 exact hK _ _ _ h ⟨ρ, F, hs.put o.dst hv⟩ he (.app ho hap)
theorem goes_skip {w' : World} (hd : o.dst = none) (hrun : (execOp a.eval o).run P w = .ok .skip w') (hs : SX g ρ F s a w') (h : κ s = some r) (he : growOp o = true → (∀ f, o.op ≠ .call f) → Ext w w') (hst : St1 o a w w') : Goes P g κ r o a w := by
 intro K Q hK
 unfold Oper.wp
 rw [hrun]
 have : a.put o.dst undef = a := by rw [hd]; rfl
 show K (a.put o.dst undef) w'
 rw [this]
 exact hK _ _ _ h ⟨ρ, F, hs⟩ he hst
end
def QG {R : Type} (P : Program) (w : World) (ρ : Nat → Value) (F : FS) (s : St) (κ : St → Option R) (r : R) (o : Oper) (a : Act) : Prop :=
 ∃ x v, κ (s.put o.dst x) = some r ∧ VR w ρ F s.mem.length x v ∧ ∀ w' : World, (freeOp o = true ∨ Rd o a w w') → (execOp a.eval o).run P w' = .ok (.value v) w'
section
variable {R : Type} {P : Program} {g : Beg} {ρ : Nat → Value} {F : FS} {s : St} {a : Act} {w : World} {κ : St → Option R} {r : R} {o : Oper}
theorem qg {v : Value} {x : AV} (hrun : ∀ w' : World, (freeOp o = true ∨ Rd o a w w') → (execOp a.eval o).run P w' = .ok (.value v) w') (hv : VR w ρ F s.mem.length x v) (h : κ (s.put o.dst x) = some r) : QG P w ρ F s κ r o a :=
 ⟨x, v, h, hv, hrun⟩
theorem QG.goes (hq : QG P w ρ F s κ r o a) (hs : SX g ρ F s a w) (hst : ∀ T x y, o.op ≠ .store T x y := by intro T x y; simp [*]) (hap : ∀ c, o.op = .call c → c.callee ≠ .builtin .append := by intro c' e'; rw [ho] at e'; first | cases e' | (cases e'; first | (simp [*]; done) | (simp_all; done) | (rw [hc]; simp; done) | (rw [hf]; simp; done))) : Goes P g κ r o a w := by
 obtain ⟨x, v, h1, h2, h3⟩ := hq
 exact goes_new (h3 w (.inr (Rd.refl o a w))) hs h2 h1 (fun _ _ => Ext.refl w) hst hap
end
def AC.ofV : Value → AC
 | .int k n => .int k n
 | .bool b => .bool b
 | .string s => .str s
 | .slice none 0 0 => .nilS
 | .pointer none => .nilP
 | .nilIface => .nilI
 | .nilFunc => .nilF
 | .map none => .nilM
 | _ => .any
theorem CR_ofV {w : World} {ρ : Nat → Value} {F : FS} {N : Nat} {v : Value} (h : AC.ofV v ≠ .any) : CR w ρ F N (AC.ofV v) v := by
 revert h
 unfold AC.ofV
 split <;> intro h <;> first | rfl | exact absurd rfl h
def TD.of : TypeDesc → TD
 | .int k => .int k
 | .bool => .bool
 | .string => .str
 | .struct fs => .struct (fs.toList.map fun f => (f.offset, f.type))
 | .array n e => .array n e
 | .slice e => .slice e
 | .pointer e => .ptr e
 | .map k e => .map k e
 | .interface _ => .iface
 | _ => .other
def zcells : Ty → List AC
 | .int k => [.int k 0]
 | .bool => [.bool false]
 | .str => [.str ⟨#[]⟩]
 | .slice _ _ => [.nilS]
 | .prod a b => zcells a ++ zcells b
 | .unit => []
 | .ifc _ _ => [.any]
 | .nod => [.nilP]
def TD.refs : TD → List Nat
 | .struct fs => fs.map (·.2)
 | .array _ e => [e]
 | .slice e => [e]
 | .map k e => [k, e]
 | _ => []
def TIof (P : Program) (T : Nat) : Option (TD × Nat × Nat × Option (List AC)) :=
 match P.info? T, P.underlying T with
 | some i, some d => some (TD.of d, i.size, i.bytes, i.zero.map fun z => z.cells.toList.map AC.ofV)
 | _, _ => none
def isAny : AC → Bool
 | .any => true
 | _ => false
def methB (P : Program) (T : Nat) (nm : String) (g : Nat) : Bool := match P.info? T with
 | some i => match i.methods.find? (·.name == nm) with
  | some m => m.path.isEmpty && (match m.func with
   | some (f, false) => Nat.beq f g
   | _ => false)
  | none => false
 | none => false
structure TIok (P : Program) (tt : Tab) (T : Nat) (i : TI) : Prop where
 of : TIof P T = some (i.d, i.size, i.bytes, some i.zero)
 noAny : i.zero.all (fun c => !isAny c) = true
 ty : ∀ t, i.ty = some t → t.size = i.size ∧ zcells t = i.zero
 refs : ∀ e ∈ i.d.refs, ∃ j, tt e = some j
 len : i.zero.length = i.size
 key : ∀ ka kt, i.key = some (ka, kt) → kt.keyB = true ∧ (ka || Nat.beq kt.size 1) = true ∧ Maps.Keyed P T ∧ (∀ x : kt.den, okKey kt x = true → ∃ l, keyOf P T (vOf ka kt x) = some l) ∧ (P.info? T).bind (·.zero) = some (vOf ka kt kt.dflt)
 meth : ∀ nm f t, i.meth = some (nm, f, t) → methB P T nm f = true ∧ ∃ fs, P.underlying T = some (.struct fs)
 eqb : i.eq = true → P.stoodInHeld T = false ∧ P.eqGuardType P.depth T = false ∧ ∀ fs, P.underlying T = some (.struct fs) → fs.toList.all (fun f => f.name != "_") = true
def TabOk (P : Program) (tt : Tab) : Prop := ∀ T i, tt T = some i → TIok P tt T i
end Go.Proofs.YtfihdjjilofklaaGreat.Am
