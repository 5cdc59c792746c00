/- What lies in memory of one's own: typed trees of rows and variables, taken apart and put together. -/
import Derived.Test.YtfihdjjilofklaaGreatAm10
set_option linter.unusedVariables false
set_option linter.unusedSimpArgs false
namespace Go.Proofs.YtfihdjjilofklaaGreat.Am
open Go
inductive HT where
 | d (t : Ty)
 | own (e : Nat) (t : Ty)
 | ptr (T : Nat) (h : HT)
 | opt (T : Nat) (h : HT)
 | prod (a b : HT)
 | unit
 | mp (ka va : Bool) (kt vt : Ty)
 | nd (T e : Nat) (a b : Ty)
 | nilS
 | clo (g T : Nat) (h : HT)
def HT.den : HT → Type
 | .d t => t.den
 | .own _ t => List t.den
 | .ptr _ h => h.den
 | .clo _ _ h => h.den
 | .opt _ h => Option h.den
 | .prod a b => a.den × b.den
 | .unit => Unit
 | .mp _ _ kt vt => List (kt.den × vt.den)
 | .nd _ _ a b => List (a.den × List Int × b.den) × Int
 | .nilS => Unit
def HT.size : HT → Nat
 | .d t => t.size
 | .own _ _ => 1
 | .ptr _ _ => 1
 | .clo _ _ _ => 1
 | .opt _ _ => 1
 | .prod a b => a.size + b.size
 | .unit => 0
 | .mp _ _ _ _ => 1
 | .nd _ _ _ _ => 1
 | .nilS => 1
def HT.arB : HT → Bool
 | .ptr _ h => h.arB
 | .clo _ _ h => h.arB
 | .opt _ h => h.arB
 | .prod a b => a.arB || b.arB
 | .nd _ _ _ _ => true
 | _ => false
def HT.nodB : HT → Bool
 | .d t => t.nodB
 | .own _ t => t.nodB
 | .ptr _ h => h.nodB
 | .clo _ _ h => h.nodB
 | .opt _ h => h.nodB
 | .prod a b => a.nodB || b.nodB
 | .nd _ _ _ _ => true
 | _ => false
def prodU : List HT → HT
 | [] => .unit
 | h :: l => .prod h (prodU l)
def HT.flatB : HT → Bool
 | .d t => t.flatB
 | .own _ t => t.flatB
 | .ptr _ h => h.flatB
 | .clo _ _ h => h.flatB
 | .opt _ h => h.flatB
 | .prod a b => a.flatB && b.flatB
 | .unit => true
 | .mp _ _ _ _ => true
 | .nd _ _ _ _ => false
 | .nilS => true
def enc : (h : HT) → h.den → Nat → List AC × List AO
 | .d t, x, _ => (flat t x, [])
 | .own e t, x, n => ([.own n], [.row e t x])
 | .ptr T h, x, n => ([.ptr n 0], .var T (enc h x (n + 1)).1 :: (enc h x (n + 1)).2)
 | .clo g T h, x, n => ([.clo g n], .var T (enc h x (n + 1)).1 :: (enc h x (n + 1)).2)
 | .opt T h, x, n => match x with
  | none => ([.nilP], [])
  | some y => ([.ptr n 0], .var T (enc h y (n + 1)).1 :: (enc h y (n + 1)).2)
 | .prod a b, x, n => ((enc a x.1 n).1 ++ (enc b x.2 (n + (enc a x.1 n).2.length)).1, (enc a x.1 n).2 ++ (enc b x.2 (n + (enc a x.1 n).2.length)).2)
 | .unit, _, _ => ([], [])
 | .mp ka va kt vt, x, n => ([.own n], [.mapo ka va kt vt x])
 | .nd T e a b, x, n => ([.nr x.2], [.arena T e a b x.1 none])
 | .nilS, x, n => ([.nilS], [])
def oCase {α R : Type} (x : Option α) (f : Option R) (g : α → Option R) : Option R := match x with
 | none => f
 | some a => g a
def encK {R : Type} : (h : HT) → h.den → Nat → (List AC → List AO → Option R) → Option R
 | .d t, x, n, κ => κ (flat t x) []
 | .own e t, x, n, κ => κ [.own n] [.row e t x]
 | .ptr T h, x, n, κ => κ (enc (.ptr T h) x n).1 (enc (.ptr T h) x n).2
 | .clo g T h, x, n, κ => κ (enc (.clo g T h) x n).1 (enc (.clo g T h) x n).2
 | .opt T h, x, n, κ => oCase x (κ [.nilP] []) fun y => κ (enc (.ptr T h) y n).1 (enc (.ptr T h) y n).2
 | .prod a b, x, n, κ => encK a x.1 n fun l1 o1 => encK b x.2 (n + o1.length) fun l2 o2 => κ (l1 ++ l2) (o1 ++ o2)
 | .unit, _, _, κ => κ [] []
 | .mp ka va kt vt, x, n, κ => κ [.own n] [.mapo ka va kt vt x]
 | .nd T e a b, x, n, κ => κ [.nr x.2] [.arena T e a b x.1 none]
 | .nilS, x, n, κ => κ [.nilS] []
def nodI : AC → Option Int
 | .nr i => some i
 | .np i off => match off with
  | 0 => some i
  | _ => none
 | _ => none
def hdec : (h : HT) → List AC → List AO → Option (h.den × List AC × List AO)
 | .d t, l, m => match unflat t l with
  | some (x, r) => some (x, r, m)
  | none => none
 | .own e t, l, m => match l with
  | .own n :: r => match m[n]? with
   | some (.row e' t' xs) => if h : e' = e ∧ t' = t then some (h.2 ▸ xs, r, m.set n .gone) else none
   | _ => none
  | .nilS :: r => some ([], r, m)
  | _ => none
 | .ptr T h, l, m => match l with
  | .ptr n off :: r => match m[n]? with
   | some (.var T' cs) => if T' = T ∧ off = 0 then (match hdec h cs (m.set n .gone) with
    | some (x, [], m') => some (x, r, m')
    | _ => none) else none
   | _ => none
  | _ => none
 | .clo g T h, l, m => match l with
  | .clo g' n :: r => match m[n]? with
   | some (.var T' cs) => if T' = T ∧ g' = g then (match hdec h cs (m.set n .gone) with
    | some (x, [], m') => some (x, r, m')
    | _ => none) else none
   | _ => none
  | _ => none
 | .opt T h, l, m => match l with
  | .nilP :: r => some (none, r, m)
  | .ptr n off :: r => match m[n]? with
   | some (.var T' cs) => if T' = T ∧ off = 0 then (match hdec h cs (m.set n .gone) with
    | some (x, [], m') => some (some x, r, m')
    | _ => none) else none
   | _ => none
  | _ => none
 | .prod a b, l, m => match hdec a l m with
  | some (x, r, m1) => match hdec b r m1 with
   | some (y, r', m2) => some ((x, y), r', m2)
   | none => none
  | none => none
 | .unit, l, m => some ((), l, m)
 | .mp ka va kt vt, l, m => match l with
  | .own n :: r => match m[n]? with
   | some (.mapo ka' va' kt' vt' xs) => if h : (ka' = ka ∧ va' = va) ∧ kt' = kt ∧ vt' = vt then some (h.2.1 ▸ h.2.2 ▸ xs, r, m.set n .gone) else none
   | _ => none
  | _ => none
 | .nd T e a b, l, m => match l with
  | c :: r => match nodI c, findA m with
   | some i, some n => match m[n]? with
    | some (.arena T' e' a' b' recs none) => if h : (T' = T ∧ e' = e) ∧ a' = a ∧ b' = b then some ((h.2.1 ▸ h.2.2 ▸ recs, i), r, m.set n .gone) else none
    | _ => none
   | _, _ => none
  | _ => none
 | .nilS, l, m => match l with
  | .nilS :: r => some ((), r, m)
  | _ => none
def brw (m : List AO) : AC → AC
 | .own n => match m[n]? with
  | some (.row e t xs) => .fro e t xs
  | _ => .own n
 | c => c
def AV.isAgg : AV → Bool
 | .agg _ => true
 | _ => false
def AV.flatCells : AV → List AC
 | .one c => [c]
 | .agg l => l
 | .tup l => (l.map fun p => p.2).flatten
def AV.shape : AV → List (Bool × Nat)
 | .one _ => [(false, 1)]
 | .agg l => [(true, l.length)]
 | .tup l => l.map fun p => (p.1, p.2.length)
def split : List (Bool × Nat) → List AC → List (Bool × List AC)
 | [], _ => []
 | (b, n) :: r, l => (b, l.take n) :: split r (l.drop n)
def mkRes (sh : List (Bool × Nat)) (l : List AC) : AV := match sh with
 | [(b, _)] => AV.ofComp (b, l)
 | sh => .tup (split sh l)
def sameShape : List (Bool × Nat) → List (Bool × Nat) → Bool
 | [], [] => true
 | (b, n) :: l, (c, m) :: r => ((b == c && Nat.beq n m) && (b || Nat.beq n 1)) && sameShape l r
 | _, _ => false
def notSingle : AV → Bool
 | .tup [_] => false
 | _ => true
def HR (w : World) (F : FS) : (h : HT) → h.den → List Value → List Value → Prop
 | .d t, x, vs, us => RT w F t x vs ∧ us = []
 | .own e t, x, vs, us => ∃ v, vs = [v] ∧ us = [v] ∧ ObjR w (fun _ => .nilFunc) F 0 (.row e t x) v
 | .ptr T h, x, vs, us => ∃ b cs us', vs = [.pointer (some ⟨b, 0, none⟩)] ∧ us = .pointer (some ⟨b, 0, none⟩) :: us' ∧ w.heap[b]? = some (.cells cs T (0, 0)) ∧ HR w F h x cs.toList us'
 | .clo g T h, x, vs, us => ∃ b cs us', vs = [.func (.func g) #[] #[.pointer (some ⟨b, 0, none⟩)]] ∧ us = .pointer (some ⟨b, 0, none⟩) :: us' ∧ w.heap[b]? = some (.cells cs T (0, 0)) ∧ HR w F h x cs.toList us'
 | .opt T h, x, vs, us => (x = none ∧ vs = [.pointer none] ∧ us = []) ∨ ∃ y b cs us', x = some y ∧ vs = [.pointer (some ⟨b, 0, none⟩)] ∧ us = .pointer (some ⟨b, 0, none⟩) :: us' ∧ w.heap[b]? = some (.cells cs T (0, 0)) ∧ HR w F h y cs.toList us'
 | .prod a b, x, vs, us => ∃ v1 v2 u1 u2, vs = v1 ++ v2 ∧ us = u1 ++ u2 ∧ HR w F a x.1 v1 u1 ∧ HR w F b x.2 v2 u2
 | .unit, _, vs, us => vs = [] ∧ us = []
 | .mp ka va kt vt, x, vs, us => ∃ v, vs = [v] ∧ us = [v] ∧ ObjR w (fun _ => .nilFunc) F 0 (.mapo ka va kt vt x) v
 | .nd T e a b, x, vs, us => ∃ v u, vs = [v] ∧ us = [u] ∧ NR F x.2 v ∧ ObjR w (fun _ => .nilFunc) F 0 (.arena T e a b x.1 none) u
 | .nilS, _, vs, us => vs = [.slice none 0 0] ∧ us = []
section
variable {w : World} {ρ : Nat → Value} {F : FS} {N : Nat}
theorem RT_any {F2 : FS} : ∀ (t : Ty) {x : t.den} {l : List Value}, t.flatB = true → RT w F t x l → RT w F2 t x l
 | .int k, x, l, _, h => by unfold RT at h ⊢; exact h
 | .bool, x, l, _, h => by unfold RT at h ⊢; exact h
 | .str, x, l, _, h => by unfold RT at h ⊢; exact h
 | .slice e t, x, l, hf, h => by simp [Ty.flatB] at hf
 | .prod a b, x, l, hf, h => by
  simp only [Ty.flatB, Bool.and_eq_true] at hf
  unfold RT at h ⊢
  obtain ⟨l1, l2, rfl, h1, h2⟩ := h
  exact ⟨l1, l2, rfl, RT_any a hf.1 h1, RT_any b hf.2 h2⟩
 | .unit, _, l, _, h => by unfold RT at h ⊢; exact h
 | .ifc T t, x, l, hf, h => by
  simp only [Ty.flatB] at hf
  unfold RT at h ⊢
  obtain ⟨vs, hl, h1⟩ := h
  exact ⟨vs, hl, RT_any t hf h1⟩
 | .nod, x, l, hf, h => by simp [Ty.flatB] at hf
theorem RTL_any {F2 : FS} {t : Ty} {xs : List t.den} {l : List Value} (hf : t.flatB = true) (h : RTL w F t xs l) : RTL w F2 t xs l := by
 induction h with
 | nil => exact .nil
 | cons h _ ih => exact .cons (RT_any t hf h) ih
theorem HR.mono {w w' : World} {F F' : FS} (hm : Mv w w' F F') : ∀ (h : HT) {x : h.den} {vs us : List Value}, (h.arB = false ∨ F.same F') → (∀ u ∈ us, ∀ b, b ∈ blk u → w'.heap[b]? = w.heap[b]?) → HR w F h x vs us → HR w' F' h x vs us
 | .d t, x, vs, us, hA, _, h => by unfold HR at h ⊢; exact ⟨RT.mono hm.le hm.same t h.1, h.2⟩
 | .own e t, x, vs, us, hA, hb, h => by
  unfold HR at h ⊢
  obtain ⟨v, rfl, rfl, h⟩ := h
  exact ⟨v, rfl, rfl, h.mono hm (fun _ _ h => by cases h) (Nat.le_refl _) (hb v (by simp)) (.inl rfl)⟩
 | .ptr T h, x, vs, us, hA, hb, hh => by
  unfold HR at hh ⊢
  obtain ⟨b, cs, us', rfl, rfl, h1, h2⟩ := hh
  exact ⟨b, cs, us', rfl, rfl, by rw [hb (.pointer (some ⟨b, 0, none⟩)) (by simp) b (by simp [blk, blk1])]; exact h1, HR.mono hm h hA (fun u hu => hb u (by simp [hu])) h2⟩
 | .clo g T h, x, vs, us, hA, hb, hh => by
  unfold HR at hh ⊢
  obtain ⟨b, cs, us', rfl, rfl, h1, h2⟩ := hh
  exact ⟨b, cs, us', rfl, rfl, by rw [hb (.pointer (some ⟨b, 0, none⟩)) (by simp) b (by simp [blk, blk1])]; exact h1, HR.mono hm h hA (fun u hu => hb u (by simp [hu])) h2⟩
 | .opt T h, x, vs, us, hA, hb, hh => by
  unfold HR at hh ⊢
  rcases hh with hh | ⟨y, b, cs, us', h0, rfl, rfl, h1, h2⟩
  ·exact .inl hh
  ·exact .inr ⟨y, b, cs, us', h0, rfl, rfl, by rw [hb (.pointer (some ⟨b, 0, none⟩)) (by simp) b (by simp [blk, blk1])]; exact h1, HR.mono hm h hA (fun u hu => hb u (by simp [hu])) h2⟩
 | .prod a b, x, vs, us, hA, hb, hh => by
  unfold HR at hh ⊢
  obtain ⟨v1, v2, u1, u2, rfl, rfl, h1, h2⟩ := hh
  exact ⟨v1, v2, u1, u2, rfl, rfl, HR.mono hm a (hA.imp (fun h => by simp only [HT.arB, Bool.or_eq_false_iff] at h; exact h.1) id) (fun u hu => hb u (by simp [hu])) h1, HR.mono hm b (hA.imp (fun h => by simp only [HT.arB, Bool.or_eq_false_iff] at h; exact h.2) id) (fun u hu => hb u (by simp [hu])) h2⟩
 | .unit, x, vs, us, hA, _, h => by unfold HR at h ⊢; exact h
 | .mp ka va kt vt, x, vs, us, hA, hb, h => by
  unfold HR at h ⊢
  obtain ⟨v, rfl, rfl, h⟩ := h
  exact ⟨v, rfl, rfl, h.mono hm (fun _ _ h => by cases h) (Nat.le_refl _) (hb v (by simp)) (.inl rfl)⟩
 | .nd T e a b, x, vs, us, hA, hb, h => by
  unfold HR at h ⊢
  obtain ⟨v, u, rfl, rfl, h1, h⟩ := h
  exact ⟨v, u, rfl, rfl, h1.mono hm.le, h.mono hm (fun _ _ h => by cases h) (Nat.le_refl _) (hb u (by simp)) (.inr (hA.resolve_left (by simp [HT.arB])))⟩
 | .nilS, x, vs, us, hA, _, h => by unfold HR at h ⊢; exact h
theorem HR.nu {F' : FS} (hF : ∀ b, F b → F' b) : ∀ (h : HT) {x : h.den} {vs us : List Value}, h.nodB = false → HR w F h x vs us → HR w F' h x vs us
 | .d t, x, vs, us, hn, h => by unfold HR at h ⊢; exact ⟨RT.nu hF t hn h.1, h.2⟩
 | .own e t, x, vs, us, hn, h => by
  unfold HR at h ⊢
  obtain ⟨v, rfl, rfl, cs, h1, h2⟩ := h
  exact ⟨v, rfl, rfl, cs, h1, RTL.nu hF hn h2⟩
 | .ptr T h, x, vs, us, hn, hh => by
  unfold HR at hh ⊢
  obtain ⟨b, cs, us', rfl, rfl, h1, h2⟩ := hh
  exact ⟨b, cs, us', rfl, rfl, h1, HR.nu hF h hn h2⟩
 | .clo g T h, x, vs, us, hn, hh => by
  unfold HR at hh ⊢
  obtain ⟨b, cs, us', rfl, rfl, h1, h2⟩ := hh
  exact ⟨b, cs, us', rfl, rfl, h1, HR.nu hF h hn h2⟩
 | .opt T h, x, vs, us, hn, hh => by
  unfold HR at hh ⊢
  rcases hh with hh | ⟨y, b, cs, us', h0, rfl, rfl, h1, h2⟩
  ·exact .inl hh
  ·exact .inr ⟨y, b, cs, us', h0, rfl, rfl, h1, HR.nu hF h hn h2⟩
 | .prod a b, x, vs, us, hn, hh => by
  simp only [HT.nodB, Bool.or_eq_false_iff] at hn
  unfold HR at hh ⊢
  obtain ⟨v1, v2, u1, u2, rfl, rfl, h1, h2⟩ := hh
  exact ⟨v1, v2, u1, u2, rfl, rfl, HR.nu hF a hn.1 h1, HR.nu hF b hn.2 h2⟩
 | .unit, x, vs, us, _, h => by unfold HR at h ⊢; exact h
 | .mp ka va kt vt, x, vs, us, hn, h => by unfold HR at h ⊢; exact h
 | .nd T e a b, x, vs, us, hn, h => by simp [HT.nodB] at hn
 | .nilS, x, vs, us, _, h => by unfold HR at h ⊢; exact h
theorem HR.any {F2 : FS} : ∀ (h : HT) {x : h.den} {vs us : List Value}, h.flatB = true → HR w F h x vs us → HR w F2 h x vs us
 | .d t, x, vs, us, hf, h => by unfold HR at h ⊢; exact ⟨RT_any t hf h.1, h.2⟩
 | .own e t, x, vs, us, hf, h => by
  unfold HR at h ⊢
  obtain ⟨v, rfl, rfl, cs, h1, h2⟩ := h
  exact ⟨v, rfl, rfl, cs, h1, RTL_any hf h2⟩
 | .ptr T h, x, vs, us, hf, hh => by
  unfold HR at hh ⊢
  obtain ⟨b, cs, us', rfl, rfl, h1, h2⟩ := hh
  exact ⟨b, cs, us', rfl, rfl, h1, HR.any h hf h2⟩
 | .clo g T h, x, vs, us, hf, hh => by
  unfold HR at hh ⊢
  obtain ⟨b, cs, us', rfl, rfl, h1, h2⟩ := hh
  exact ⟨b, cs, us', rfl, rfl, h1, HR.any h hf h2⟩
 | .opt T h, x, vs, us, hf, hh => by
  unfold HR at hh ⊢
  rcases hh with hh | ⟨y, b, cs, us', h0, rfl, rfl, h1, h2⟩
  ·exact .inl hh
  ·exact .inr ⟨y, b, cs, us', h0, rfl, rfl, h1, HR.any h hf h2⟩
 | .prod a b, x, vs, us, hf, hh => by
  simp only [HT.flatB, Bool.and_eq_true] at hf
  unfold HR at hh ⊢
  obtain ⟨v1, v2, u1, u2, rfl, rfl, h1, h2⟩ := hh
  exact ⟨v1, v2, u1, u2, rfl, rfl, HR.any a hf.1 h1, HR.any b hf.2 h2⟩
 | .unit, x, vs, us, _, h => by unfold HR at h ⊢; exact h
 | .mp ka va kt vt, x, vs, us, hf, h => by unfold HR at h ⊢; exact h
 | .nd T e a b, x, vs, us, hf, h => by simp [HT.flatB] at hf
 | .nilS, x, vs, us, hf, h => by unfold HR at h ⊢; exact h
structure Bag (w : World) (ρ : Nat → Value) (F : FS) (m : List AO) (us : List Value) : Prop where
 mr : MR w ρ F m
 inj : us.Pairwise fun u v => ∀ b, b ∈ blk u → b ∉ blk v
 sep : ∀ u ∈ us, ∀ b, b ∈ blk u → ¬ F b
 off : ∀ n u b, live m n → u ∈ us → b ∈ blk (ρ n) → b ∉ blk u
 lt : ∀ u ∈ us, ∀ b, b ∈ blk u → b < w.heap.size
theorem Bag.perm {m : List AO} {us us' : List Value} (h : Bag w ρ F m us) (hp : us.Perm us') : Bag w ρ F m us' :=
 ⟨h.mr, (hp.pairwise_iff (fun {a b} hab c h1 h2 => hab c h2 h1)).1 h.inj, fun u hu => h.sep u (hp.mem_iff.2 hu), fun n u b hn hu => h.off n u b hn (hp.mem_iff.2 hu), fun u hu => h.lt u (hp.mem_iff.2 hu)⟩
theorem MR.gone {m : List AO} (h : MR w ρ F m) (n : Nat) : MR w ρ F (m.set n .gone) := by
 have hl : (m.set n .gone).length = m.length := by simp
 refine ⟨?_, ?_, ?_, h.lt⟩
 ·intro k o ho
  rw [hl]
  rw [List.getElem?_set] at ho
  split at ho
  ·split at ho
   ·cases ho; trivial
   ·cases ho
  ·exact h.obj k o ho
 ·intro j k b hj hk
  exact h.inj j k b (live_set hj).1 (live_set hk).1
 ·intro j b hj
  exact h.sep j b (live_set hj).1
theorem Bag.out {m : List AO} {us : List Value} (h : Bag w ρ F m us) {n : Nat} {o : AO} (hn : m[n]? = some o) (ho : o ≠ .gone) : Bag w ρ F (m.set n .gone) (us ++ [ρ n]) := by
 have hl : live m n := ⟨o, hn, ho⟩
 refine ⟨h.mr.gone n, ?_, ?_, ?_, ?_⟩
 ·rw [List.pairwise_append]
  refine ⟨h.inj, List.pairwise_singleton .., fun u hu v hv b h1 h2 => ?_⟩
  simp only [List.mem_singleton] at hv
  subst hv
  exact h.off n u b hl hu h2 h1
 ·intro u hu b hb
  rcases List.mem_append.1 hu with hu | hu
  ·exact h.sep u hu b hb
  ·simp only [List.mem_singleton] at hu
   subst hu
   exact h.mr.sep n b hl hb
 ·intro k u b hk hu h1 h2
  obtain ⟨k1, k2⟩ := live_set hk
  rcases List.mem_append.1 hu with hu | hu
  ·exact h.off k u b k1 hu h1 h2
  ·simp only [List.mem_singleton] at hu
   subst hu
   exact k2 (h.mr.inj k n b k1 hl h1 h2)
 ·intro u hu b hb
  rcases List.mem_append.1 hu with hu | hu
  ·exact h.lt u hu b hb
  ·simp only [List.mem_singleton] at hu
   subst hu
   exact obj_blk_lt (h.mr.obj n o hn) ho hb
theorem Bag.push {m : List AO} {us : List Value} (h : Bag w ρ F m us) (v : Value) : Bag w (upd ρ m.length v) F (m ++ [.gone]) us := by
 have hne : ∀ k, k < m.length → upd ρ m.length v k = ρ k := fun k hk => upd_ne _ _ (by omega)
 have hlive : ∀ k, live (m ++ [AO.gone]) k → k < m.length ∧ live m k := by
  intro k ⟨q, h1, h2⟩
  by_cases hk : k < m.length
  ·rw [List.getElem?_append_left hk] at h1
   exact ⟨hk, q, h1, h2⟩
  ·rw [List.getElem?_append_right (by omega)] at h1
   cases hj : k - m.length with
   | zero => rw [hj] at h1; simp at h1; exact absurd h1.symm h2
   | succ j => rw [hj] at h1; simp at h1
 have hmv : Mv w w F F := Mv.refl w F
 refine ⟨⟨?_, ?_, ?_, h.mr.lt⟩, h.inj, h.sep, ?_, h.lt⟩
 ·intro k o ho
  rw [List.length_append, List.length_singleton]
  by_cases hk : k < m.length
  ·rw [List.getElem?_append_left hk] at ho
   rw [hne k hk]
   exact (h.mr.obj k o ho).mono hmv (fun _ _ _ c _ j hj _ => hne j hj) (by omega) (fun _ _ => rfl)
  ·rw [List.getElem?_append_right (by omega)] at ho
   cases hj : k - m.length with
   | zero => rw [hj] at ho; simp at ho; subst ho; trivial
   | succ j => rw [hj] at ho; simp at ho
 ·intro j k b hj hk h1 h2
  obtain ⟨a1, a2⟩ := hlive j hj
  obtain ⟨b1, b2⟩ := hlive k hk
  rw [hne j a1] at h1
  rw [hne k b1] at h2
  exact h.mr.inj j k b a2 b2 h1 h2
 ·intro k b hk h1
  obtain ⟨a1, a2⟩ := hlive k hk
  rw [hne k a1] at h1
  exact h.mr.sep k b a2 h1
 ·intro k u b hk hu h1
  obtain ⟨a1, a2⟩ := hlive k hk
  rw [hne k a1] at h1
  exact h.off k u b a2 hu h1
theorem Bag.fill {m : List AO} {us : List Value} {n : Nat} {o : AO} (h : Bag w ρ F m (ρ n :: us)) (hn : m[n]? = some .gone) (ho : ObjR w ρ F m.length o (ρ n)) : Bag w ρ F (m.set n o) us := by
 have hlt : n < m.length := (List.getElem?_eq_some_iff.1 hn).1
 have hlive : ∀ k, live (m.set n o) k → (k = n) ∨ (k ≠ n ∧ live m k) := by
  intro k ⟨q, h1, h2⟩
  by_cases e : k = n
  ·exact .inl e
  ·rw [List.getElem?_set_ne (fun e' => e e'.symm)] at h1
   exact .inr ⟨e, q, h1, h2⟩
 have hi := List.pairwise_cons.1 h.inj
 refine ⟨⟨?_, ?_, ?_, h.mr.lt⟩, hi.2, fun u hu => h.sep u (by simp [hu]), ?_, fun u hu => h.lt u (by simp [hu])⟩
 ·intro k q hq
  rw [List.length_set]
  by_cases e : k = n
  ·subst e
   rw [List.getElem?_set_self hlt] at hq
   cases hq
   exact ho
  ·rw [List.getElem?_set_ne (fun e' => e e'.symm)] at hq
   exact h.mr.obj k q hq
 ·intro j k b hj hk h1 h2
  rcases hlive j hj with rfl | ⟨e1, l1⟩ <;> rcases hlive k hk with rfl | ⟨e2, l2⟩
  ·rfl
  ·exact absurd h1 (h.off k _ b l2 (by simp) h2)
  ·exact absurd h2 (h.off j _ b l1 (by simp) h1)
  ·exact h.mr.inj j k b l1 l2 h1 h2
 ·intro k b hk h1 hf
  rcases hlive k hk with rfl | ⟨e1, l1⟩
  ·exact h.sep _ (by simp) b h1 hf
  ·exact h.mr.sep k b l1 h1 hf
 ·intro k u b hk hu h1
  rcases hlive k hk with rfl | ⟨e1, l1⟩
  ·exact hi.1 u hu b h1
  ·exact h.off k u b l1 (by simp [hu]) h1
theorem Own.out {m : List AO} {n b : Nat} (h : Own ρ (m.set n .gone) b) : Own ρ m b := by
 obtain ⟨k, h1, h2⟩ := h
 exact ⟨k, (live_set h1).1, h2⟩
theorem hdec_ok : ∀ (h : HT) {l r : List AC} {m m1 : List AO} {x : h.den} {vs us0 : List Value}, hdec h l m = some (x, r, m1) → Bag w ρ F m us0 → CRs w ρ F m.length l vs →
  ∃ v1 v2 us1, vs = v1 ++ v2 ∧ CRs w ρ F m.length r v2 ∧ HR w F h x v1 us1 ∧ Bag w ρ F m1 (us0 ++ us1) ∧ m1.length = m.length ∧ (∀ b, Own ρ m1 b → Own ρ m b) ∧ ∀ u ∈ us1, ∀ b, b ∈ blk u → Own ρ m b
 | .d t, l, r, m, m1, x, vs, us0, h, hb, hc => by
  unfold hdec at h
  split at h <;> cases h
  rename_i h1
  obtain ⟨v1, v2, rfl, h2, h3⟩ := unflat_ok t h1 hc
  exact ⟨v1, v2, [], rfl, h3, ⟨h2, rfl⟩, by rw [List.append_nil]; exact hb, rfl, fun _ h => h, fun u hu => by cases hu⟩
 | .own e t, l, r, m, m1, x, vs, us0, h, hb, hc => by
  unfold hdec at h
  split at h
  ·rename_i n r'
   split at h <;> try cases h
   rename_i e' t' xs hx
   split at h <;> cases h
   rename_i hk
   obtain ⟨rfl, rfl⟩ := hk
   cases hc with
   | @cons _ v _ v2 h1 h2 =>
    obtain ⟨k1, k2, k3⟩ := h1
    refine ⟨[v], v2, [v], rfl, h2, ⟨v, rfl, rfl, ?_⟩, ?_, by simp, fun b hb' => hb'.out, ?_⟩
    ·rw [k2]
     exact hb.mr.obj n _ hx
    ·rw [k2]
     exact hb.out hx (by simp)
    ·intro u hu b hb'
     simp only [List.mem_singleton] at hu
     subst hu
     rw [k2] at hb'
     exact ⟨n, ⟨_, hx, by simp⟩, hb'⟩
  ·cases h
   cases hc with
   | @cons _ v _ v2 h1 h2 =>
    have hv : v = .slice none 0 0 := h1
    subst hv
    refine ⟨[_], v2, [_], rfl, h2, ⟨_, rfl, rfl, [], World.ownsRow_nil w 0 e t.size, .nil⟩, ?_, rfl, fun _ h => h, fun u hu b hb' => by simp only [List.mem_singleton] at hu; subst hu; simp [blk, blk1] at hb'⟩
    refine ⟨hb.mr, ?_, ?_, ?_, ?_⟩
    ·rw [List.pairwise_append]
     exact ⟨hb.inj, List.pairwise_singleton .., fun u hu v hv b h1 h2 => by simp only [List.mem_singleton] at hv; subst hv; simp [blk, blk1] at h2⟩
    ·intro u hu b hb'
     rcases List.mem_append.1 hu with hu | hu
     ·exact hb.sep u hu b hb'
     ·simp only [List.mem_singleton] at hu; subst hu; simp [blk, blk1] at hb'
    ·intro k u b hk hu h1 h2
     rcases List.mem_append.1 hu with hu | hu
     ·exact hb.off k u b hk hu h1 h2
     ·simp only [List.mem_singleton] at hu; subst hu; simp [blk, blk1] at h2
    ·intro u hu b hb'
     rcases List.mem_append.1 hu with hu | hu
     ·exact hb.lt u hu b hb'
     ·simp only [List.mem_singleton] at hu; subst hu; simp [blk, blk1] at hb'
  ·cases h
 | .ptr T h, l, r, m, m1, x, vs, us0, hh, hb, hc => by
  unfold hdec at hh
  split at hh <;> try cases hh
  rename_i n off r'
  split at hh <;> try cases hh
  rename_i T' cs hx
  split at hh
  case isFalse => cases hh
  rename_i hk
  obtain ⟨rfl, rfl⟩ := hk
  split at hh <;> cases hh
  rename_i h1
  cases hc with
  | @cons _ v _ v2 h2 h3 =>
   obtain ⟨k1, b, k2, rfl⟩ := h2
   obtain ⟨b', us, g1, g2, g3⟩ := hb.mr.obj n _ hx
   rw [k2] at g1
   cases g1
   have hb1 := hb.out hx (by simp)
   obtain ⟨w1, w2, us1, e1, e2, e3, e4, e5, e6, e7⟩ := hdec_ok h h1 hb1 (by rw [List.length_set]; exact g3)
   cases e2
   rw [List.append_nil] at e1
   subst e1
   refine ⟨[_], v2, .pointer (some ⟨b, 0, none⟩) :: us1, rfl, h3, ⟨b, us, us1, rfl, rfl, g2, e3⟩, ?_, by rw [e5]; simp, fun b hb' => (e6 b hb').out, ?_⟩
   ·rw [k2] at e4
    simpa using e4
   ·intro u hu b2 hb'
    rcases List.mem_cons.1 hu with rfl | hu
    ·exact ⟨n, ⟨_, hx, by simp⟩, by rw [k2]; exact hb'⟩
    ·exact (e7 u hu b2 hb').out
 | .clo g T h, l, r, m, m1, x, vs, us0, hh, hb, hc => by
  unfold hdec at hh
  split at hh <;> try cases hh
  rename_i g' n r'
  split at hh <;> try cases hh
  rename_i T' cs hx
  split at hh
  case isFalse => cases hh
  rename_i hk
  obtain ⟨rfl, rfl⟩ := hk
  split at hh <;> cases hh
  rename_i h1
  cases hc with
  | @cons _ v _ v2 h2 h3 =>
   obtain ⟨k1, b, k2, rfl⟩ := h2
   obtain ⟨b', us, g1, g2, g3⟩ := hb.mr.obj n _ hx
   rw [k2] at g1
   cases g1
   have hb1 := hb.out hx (by simp)
   obtain ⟨w1, w2, us1, e1, e2, e3, e4, e5, e6, e7⟩ := hdec_ok h h1 hb1 (by rw [List.length_set]; exact g3)
   cases e2
   rw [List.append_nil] at e1
   subst e1
   refine ⟨[_], v2, .pointer (some ⟨b, 0, none⟩) :: us1, rfl, h3, ⟨b, us, us1, rfl, rfl, g2, e3⟩, ?_, by rw [e5]; simp, fun b hb' => (e6 b hb').out, ?_⟩
   ·rw [k2] at e4
    simpa using e4
   ·intro u hu b2 hb'
    rcases List.mem_cons.1 hu with rfl | hu
    ·exact ⟨n, ⟨_, hx, by simp⟩, by rw [k2]; exact hb'⟩
    ·exact (e7 u hu b2 hb').out
 | .opt T h, l, r, m, m1, x, vs, us0, hh, hb, hc => by
  unfold hdec at hh
  split at hh
  ·cases hh
   cases hc with
   | @cons _ v _ v2 h1 h2 =>
    have hv : v = .pointer none := h1
    subst hv
    exact ⟨[_], v2, [], rfl, h2, .inl ⟨rfl, rfl, rfl⟩, by rw [List.append_nil]; exact hb, rfl, fun _ h => h, fun u hu => by cases hu⟩
  ·rename_i n off r'
   split at hh <;> try cases hh
   rename_i T' cs hx
   split at hh
   case isFalse => cases hh
   rename_i hk
   obtain ⟨rfl, rfl⟩ := hk
   split at hh <;> cases hh
   rename_i h1
   cases hc with
   | @cons _ v _ v2 h2 h3 =>
    obtain ⟨k1, b, k2, rfl⟩ := h2
    obtain ⟨b', us, g1, g2, g3⟩ := hb.mr.obj n _ hx
    rw [k2] at g1
    cases g1
    have hb1 := hb.out hx (by simp)
    obtain ⟨w1, w2, us1, e1, e2, e3, e4, e5, e6, e7⟩ := hdec_ok h h1 hb1 (by rw [List.length_set]; exact g3)
    cases e2
    rw [List.append_nil] at e1
    subst e1
    refine ⟨[_], v2, .pointer (some ⟨b, 0, none⟩) :: us1, rfl, h3, .inr ⟨_, b, us, us1, rfl, rfl, rfl, g2, e3⟩, ?_, by rw [e5]; simp, fun b hb' => (e6 b hb').out, ?_⟩
    ·rw [k2] at e4
     simpa using e4
    ·intro u hu b2 hb'
     rcases List.mem_cons.1 hu with rfl | hu
     ·exact ⟨n, ⟨_, hx, by simp⟩, by rw [k2]; exact hb'⟩
     ·exact (e7 u hu b2 hb').out
  ·cases hh
 | .prod a b, l, r, m, m1, x, vs, us0, h, hb, hc => by
  unfold hdec at h
  split at h
  case h_2 => cases h
  rename_i y r1 m2 h1
  split at h
  case h_2 => cases h
  rename_i z r2 m3 h2
  cases h
  obtain ⟨v1, v2, us1, rfl, e2, e3, e4, e5, e6, e7⟩ := hdec_ok a h1 hb hc
  obtain ⟨v3, v4, us2, rfl, f2, f3, f4, f5, f6, f7⟩ := hdec_ok b h2 e4 (by rw [e5]; exact e2)
  refine ⟨v1 ++ v3, v4, us1 ++ us2, by simp, by rw [e5] at f2; exact f2, ⟨v1, v3, us1, us2, rfl, rfl, e3, f3⟩, by rw [← List.append_assoc]; exact f4, by rw [f5, e5], fun b hb' => e6 b (f6 b hb'), fun u hu b hb' => ?_⟩
  rcases List.mem_append.1 hu with hu | hu
  ·exact e7 u hu b hb'
  ·exact e6 b (f7 u hu b hb')
 | .unit, l, r, m, m1, x, vs, us0, h, hb, hc => by
  unfold hdec at h
  cases h
  exact ⟨[], vs, [], rfl, hc, ⟨rfl, rfl⟩, by rw [List.append_nil]; exact hb, rfl, fun _ h => h, fun u hu => by cases hu⟩
 | .mp ka va kt vt, l, r, m, m1, x, vs, us0, h, hb, hc => by
  unfold hdec at h
  split at h
  ·rename_i n r'
   split at h <;> try cases h
   rename_i ka' va' kt' vt' xs hx
   split at h <;> cases h
   rename_i hk
   obtain ⟨⟨rfl, rfl⟩, rfl, rfl⟩ := hk
   cases hc with
   | @cons _ v _ v2 h1 h2 =>
    obtain ⟨k1, k2, k3⟩ := h1
    refine ⟨[v], v2, [v], rfl, h2, ⟨v, rfl, rfl, ?_⟩, ?_, by simp, fun b hb' => hb'.out, ?_⟩
    ·rw [k2]
     exact hb.mr.obj n _ hx
    ·rw [k2]
     exact hb.out hx (by simp)
    ·intro u hu b hb'
     simp only [List.mem_singleton] at hu
     subst hu
     rw [k2] at hb'
     exact ⟨n, ⟨_, hx, by simp⟩, hb'⟩
  ·cases h
 | .nd T e a b, l, r, m, m1, x, vs, us0, h, hb, hc => by
  unfold hdec at h
  split at h <;> try cases h
  rename_i c r'
  split at h <;> try cases h
  rename_i i n hi hn
  split at h <;> try cases h
  rename_i T' e' a' b' recs hx
  split at h <;> cases h
  rename_i hk
  obtain ⟨⟨rfl, rfl⟩, rfl, rfl⟩ := hk
  cases hc with
  | @cons _ v _ v2 h1 h2 =>
   have hv : NR F i v := by
    unfold nodI at hi
    split at hi
    ·cases hi; exact h1
    ·split at hi <;> cases hi
     obtain ⟨g1, bk, g2, g3⟩ := h1
     exact .inr ⟨g1, bk, g2, g3⟩
    ·cases hi
   refine ⟨[v], v2, [ρ n], rfl, h2, ⟨v, ρ n, rfl, rfl, hv, hb.mr.obj n _ hx⟩, hb.out hx (by simp), by simp, fun b hb' => hb'.out, ?_⟩
   intro u hu b hb'
   simp only [List.mem_singleton] at hu
   subst hu
   exact ⟨n, ⟨_, hx, by simp⟩, hb'⟩
 | .nilS, l, r, m, m1, x, vs, us0, h, hb, hc => by
  unfold hdec at h
  split at h <;> cases h
  cases hc with
  | @cons _ v _ v2 h1 h2 =>
   have hv : v = .slice none 0 0 := h1
   subst hv
   exact ⟨[_], v2, [], rfl, h2, ⟨rfl, rfl⟩, by rw [List.append_nil]; exact hb, rfl, fun _ h => h, fun u hu => by cases hu⟩
theorem enc_var {T : Nat} {e : Nat → List AC × List AO} {b : Nat} {cs : Array Value} {us' us2 : List Value} {m : List AO} {ρ : Nat → Value}
  (ih : ∀ {us2 : List Value} {m : List AO} {ρ : Nat → Value}, Bag w ρ F m (us' ++ us2) → ∃ ρ', (∀ k, k < m.length → ρ' k = ρ k) ∧ Bag w ρ' F (m ++ (e m.length).2) us2 ∧ CRs w ρ' F (m ++ (e m.length).2).length (e m.length).1 cs.toList ∧ ∀ b, Own ρ' (m ++ (e m.length).2) b → Own ρ m b ∨ ∃ u ∈ us', b ∈ blk u)
  (h1 : w.heap[b]? = some (.cells cs T (0, 0))) (hb : Bag w ρ F m (.pointer (some ⟨b, 0, none⟩) :: us' ++ us2)) :
  ∃ ρ', (∀ k, k < m.length → ρ' k = ρ k) ∧ Bag w ρ' F (m ++ .var T (e (m.length + 1)).1 :: (e (m.length + 1)).2) us2 ∧ CRs w ρ' F (m ++ .var T (e (m.length + 1)).1 :: (e (m.length + 1)).2).length [.ptr m.length 0] [.pointer (some ⟨b, 0, none⟩)] ∧
   ∀ b', Own ρ' (m ++ .var T (e (m.length + 1)).1 :: (e (m.length + 1)).2) b' → Own ρ m b' ∨ ∃ u ∈ (.pointer (some ⟨b, 0, none⟩) :: us' : List Value), b' ∈ blk u := by
 generalize hp : Value.pointer (some ⟨b, 0, none⟩) = p at *
 have hb1 := hb.push p
 have hb2 : Bag w (upd ρ m.length p) F (m ++ [.gone]) (us' ++ (p :: us2)) := hb1.perm (by
  simp only [List.cons_append]
  exact List.perm_middle.symm)
 obtain ⟨ρ', k1, k2, k3, k4⟩ := ih hb2
 have hlen : (m ++ [AO.gone]).length = m.length + 1 := by simp
 rw [hlen] at k1 k2 k3 k4
 have hv : ρ' m.length = p := by rw [k1 _ (by omega), upd_same]
 have hg : (m ++ [AO.gone] ++ (e (m.length + 1)).2)[m.length]? = some .gone := by
  rw [List.append_assoc, List.getElem?_append_right (Nat.le_refl _), Nat.sub_self]
  rfl
 have hset : (m ++ [AO.gone] ++ (e (m.length + 1)).2).set m.length (.var T (e (m.length + 1)).1) = m ++ .var T (e (m.length + 1)).1 :: (e (m.length + 1)).2 := by
  rw [List.append_assoc, List.set_append_right _ _ (Nat.le_refl _), Nat.sub_self]
  rfl
 have hl2 : (m ++ .var T (e (m.length + 1)).1 :: (e (m.length + 1)).2).length = (m ++ [AO.gone] ++ (e (m.length + 1)).2).length := by rw [← hset, List.length_set]
 have hb3 := Bag.fill (n := m.length) (o := .var T (e (m.length + 1)).1) (by rw [hv]; exact k2) hg ⟨b, cs, by rw [hv, hp], h1, k3⟩
 rw [hset] at hb3
 refine ⟨ρ', fun k hk => by rw [k1 k (by omega), upd_ne _ _ (by omega)], hb3, .cons ⟨by rw [hl2]; simp, b, by rw [hv, hp], hp.symm⟩ .nil, fun b2 hb' => ?_⟩
 obtain ⟨k, ⟨o, q1, q2⟩, q3⟩ := hb'
 rw [← hset] at q1
 by_cases hk : k = m.length
 ·subst hk
  rw [hv] at q3
  exact .inr ⟨p, by simp, q3⟩
 ·rw [List.getElem?_set_ne (fun e => hk e.symm)] at q1
  rcases k4 b2 ⟨k, ⟨o, q1, q2⟩, q3⟩ with ⟨j, ⟨o', r1, r2⟩, r3⟩ | ⟨u, hu, hu2⟩
  ·left
   have hj : j < m.length := by
    have := (List.getElem?_eq_some_iff.1 r1).1
    rw [hlen] at this
    by_cases hjm : j = m.length
    ·subst hjm
     simp at r1
     exact absurd r1.symm r2
    ·omega
   rw [List.getElem?_append_left hj] at r1
   rw [upd_ne _ _ (by omega)] at r3
   exact ⟨j, ⟨o', r1, r2⟩, r3⟩
  ·exact .inr ⟨u, by simp [hu], hu2⟩
theorem enc_ok : ∀ (h : HT) {x : h.den} {vs us us2 : List Value} {m : List AO} {ρ : Nat → Value}, HR w F h x vs us → Bag w ρ F m (us ++ us2) →
  ∃ ρ', (∀ k, k < m.length → ρ' k = ρ k) ∧ Bag w ρ' F (m ++ (enc h x m.length).2) us2 ∧ CRs w ρ' F (m ++ (enc h x m.length).2).length (enc h x m.length).1 vs ∧ ∀ b, Own ρ' (m ++ (enc h x m.length).2) b → Own ρ m b ∨ ∃ u ∈ us, b ∈ blk u
 | .d t, x, vs, us, us2, m, ρ, hh, hb => by
  unfold HR at hh
  obtain ⟨h1, rfl⟩ := hh
  refine ⟨ρ, fun _ _ => rfl, ?_, ?_, fun b hb' => .inl ?_⟩
  ·simpa [enc] using hb
  ·exact RT_flat t h1
  ·simpa [enc] using hb'
 | .own e t, x, vs, us, us2, m, ρ, hh, hb => by
  unfold HR at hh
  obtain ⟨v, rfl, rfl, h1⟩ := hh
  have hb1 := hb.push v
  have hg : (m ++ [AO.gone])[m.length]? = some .gone := by simp
  have hv : upd ρ m.length v m.length = v := upd_same ..
  have ho : ∀ (ρ1 : Nat → Value) (N : Nat), ObjR w ρ1 F N (.row e t x) v := fun _ _ => h1
  have hb1' : Bag w (upd ρ m.length v) F (m ++ [.gone]) (upd ρ m.length v m.length :: us2) := by rw [hv]; exact hb1
  have ho' : ObjR w (upd ρ m.length v) F (m ++ [AO.gone]).length (.row e t x) (upd ρ m.length v m.length) := by rw [hv]; exact ho _ _
  have hb2 := Bag.fill hb1' hg ho'
  have hset : (m ++ [AO.gone]).set m.length (.row e t x) = m ++ [.row e t x] := by simp
  rw [hset] at hb2
  refine ⟨upd ρ m.length v, fun k hk => upd_ne _ _ (by omega), hb2, .cons ⟨by simp [enc], hv.symm, ?_⟩ .nil, fun b hb' => ?_⟩
  ·obtain ⟨cs, h2, _⟩ := h1
   rcases h2.2 with ⟨rfl, _⟩ | ⟨g, cap, cur, rfl, _⟩ <;> rfl
  ·obtain ⟨k, ⟨o, k1, k2⟩, k3⟩ := hb'
   have k1 : (m ++ [AO.row e t x])[k]? = some o := k1
   by_cases hk : k < m.length
   ·rw [List.getElem?_append_left hk] at k1
    rw [upd_ne _ _ (by omega)] at k3
    exact .inl ⟨k, ⟨o, k1, k2⟩, k3⟩
   ·have : k < (m ++ [AO.row e t x]).length := (List.getElem?_eq_some_iff.1 k1).1
    have e' : k = m.length := by simp at this; omega
    subst e'
    rw [hv] at k3
    exact .inr ⟨v, by simp, k3⟩
 | .mp ka va kt vt, x, vs, us, us2, m, ρ, hh, hb => by
  unfold HR at hh
  obtain ⟨v, rfl, rfl, h1⟩ := hh
  have hb1 := hb.push v
  have hg : (m ++ [AO.gone])[m.length]? = some .gone := by simp
  have hv : upd ρ m.length v m.length = v := upd_same ..
  have ho : ∀ (ρ1 : Nat → Value) (N : Nat), ObjR w ρ1 F N (.mapo ka va kt vt x) v := fun _ _ => h1
  have hb1' : Bag w (upd ρ m.length v) F (m ++ [.gone]) (upd ρ m.length v m.length :: us2) := by rw [hv]; exact hb1
  have ho' : ObjR w (upd ρ m.length v) F (m ++ [AO.gone]).length (.mapo ka va kt vt x) (upd ρ m.length v m.length) := by rw [hv]; exact ho _ _
  have hb2 := Bag.fill hb1' hg ho'
  have hset : (m ++ [AO.gone]).set m.length (.mapo ka va kt vt x) = m ++ [.mapo ka va kt vt x] := by simp
  rw [hset] at hb2
  refine ⟨upd ρ m.length v, fun k hk => upd_ne _ _ (by omega), hb2, .cons ⟨by simp [enc], hv.symm, ?_⟩ .nil, fun b hb' => ?_⟩
  ·obtain ⟨b, es, clock, rfl, _⟩ := h1
   rfl
  ·obtain ⟨k, ⟨o, k1, k2⟩, k3⟩ := hb'
   have k1 : (m ++ [AO.mapo ka va kt vt x])[k]? = some o := k1
   by_cases hk : k < m.length
   ·rw [List.getElem?_append_left hk] at k1
    rw [upd_ne _ _ (by omega)] at k3
    exact .inl ⟨k, ⟨o, k1, k2⟩, k3⟩
   ·have : k < (m ++ [AO.mapo ka va kt vt x]).length := (List.getElem?_eq_some_iff.1 k1).1
    have e' : k = m.length := by simp at this; omega
    subst e'
    rw [hv] at k3
    exact .inr ⟨v, by simp, k3⟩
 | .ptr T h, x, vs, us, us2, m, ρ, hh, hb => by
  unfold HR at hh
  obtain ⟨b, cs, us', rfl, rfl, h1, h2⟩ := hh
  exact enc_var (e := fun n => enc h x n) (fun hb => enc_ok h h2 hb) h1 hb
 | .clo g T h, x, vs, us, us2, m, ρ, hh, hb => by
  unfold HR at hh
  obtain ⟨b, cs, us', rfl, rfl, h1, h2⟩ := hh
  obtain ⟨ρ', k1, k2, k3, k4⟩ := enc_var (e := fun n => enc h x n) (fun hb => enc_ok h h2 hb) h1 hb
  refine ⟨ρ', k1, k2, ?_, k4⟩
  cases k3 with
  | cons q1 q2 =>
   obtain ⟨r1, b', r2, r3⟩ := q1
   cases r3
   exact .cons ⟨r1, b, r2, rfl⟩ .nil
 | .opt T h, x, vs, us, us2, m, ρ, hh, hb => by
  unfold HR at hh
  rcases hh with ⟨rfl, rfl, rfl⟩ | ⟨y, b, cs, us', rfl, rfl, rfl, h1, h2⟩
  ·exact ⟨ρ, fun _ _ => rfl, by simpa [enc] using hb, .cons rfl .nil, fun b hb' => .inl (by simpa [enc] using hb')⟩
  ·exact enc_var (e := fun n => enc h y n) (fun hb => enc_ok h h2 hb) h1 hb
 | .prod a b, x, vs, us, us2, m, ρ, hh, hb => by
  unfold HR at hh
  obtain ⟨v1, v2, u1, u2, rfl, rfl, h1, h2⟩ := hh
  rw [List.append_assoc] at hb
  obtain ⟨ρ1, k1, k2, k3, k4⟩ := enc_ok a h1 hb
  obtain ⟨ρ2, g1, g2, g3, g4⟩ := enc_ok b h2 k2
  have hl : (m ++ (enc a x.1 m.length).2).length = m.length + (enc a x.1 m.length).2.length := by simp
  rw [hl] at g1 g2 g3 g4
  have hm : m ++ (enc (.prod a b) x m.length).2 = m ++ (enc a x.1 m.length).2 ++ (enc b x.2 (m.length + (enc a x.1 m.length).2.length)).2 := by
   simp [enc]
  refine ⟨ρ2, fun k hk => by rw [g1 k (by omega), k1 k hk], by rw [hm]; exact g2, ?_, fun b' hb' => ?_⟩
  ·rw [hm]
   refine F2.append ?_ g3
   exact CRs.mono (Mv.refl w F) (fun c _ n hn _ => g1 n (by rw [hl] at hn; exact hn)) (by simp) k3
  ·rw [hm] at hb'
   rcases g4 b' hb' with q | ⟨u, hu, hu2⟩
   ·rcases k4 b' q with q | ⟨u, hu, hu2⟩
    ·exact .inl q
    ·exact .inr ⟨u, by simp [hu], hu2⟩
   ·exact .inr ⟨u, by simp [hu], hu2⟩
 | .unit, x, vs, us, us2, m, ρ, hh, hb => by
  unfold HR at hh
  obtain ⟨rfl, rfl⟩ := hh
  exact ⟨ρ, fun _ _ => rfl, by simpa [enc] using hb, .nil, fun b hb' => .inl (by simpa [enc] using hb')⟩
 | .nd T e a b, x, vs, us, us2, m, ρ, hh, hb => by
  unfold HR at hh
  obtain ⟨v0, v, rfl, rfl, h0, h1⟩ := hh
  have hb1 := hb.push v
  have hg : (m ++ [AO.gone])[m.length]? = some .gone := by simp
  have hv : upd ρ m.length v m.length = v := upd_same ..
  have ho : ∀ (ρ1 : Nat → Value) (N : Nat), ObjR w ρ1 F N (.arena T e a b x.1 none) v := fun _ _ => h1
  have hb1' : Bag w (upd ρ m.length v) F (m ++ [.gone]) (upd ρ m.length v m.length :: us2) := by rw [hv]; exact hb1
  have ho' : ObjR w (upd ρ m.length v) F (m ++ [AO.gone]).length (.arena T e a b x.1 none) (upd ρ m.length v m.length) := by rw [hv]; exact ho _ _
  have hb2 := Bag.fill hb1' hg ho'
  have hset : (m ++ [AO.gone]).set m.length (.arena T e a b x.1 none) = m ++ [.arena T e a b x.1 none] := by simp
  rw [hset] at hb2
  refine ⟨upd ρ m.length v, fun k hk => upd_ne _ _ (by omega), hb2, .cons h0 .nil, fun b' hb' => ?_⟩
  obtain ⟨k, ⟨o, k1, k2⟩, k3⟩ := hb'
  have k1 : (m ++ [AO.arena T e a b x.1 none])[k]? = some o := k1
  by_cases hk : k < m.length
  ·rw [List.getElem?_append_left hk] at k1
   rw [upd_ne _ _ (by omega)] at k3
   exact .inl ⟨k, ⟨o, k1, k2⟩, k3⟩
  ·have : k < (m ++ [AO.arena T e a b x.1 none]).length := (List.getElem?_eq_some_iff.1 k1).1
   have e' : k = m.length := by simp at this; omega
   subst e'
   rw [hv] at k3
   exact .inr ⟨v, by simp, k3⟩
 | .nilS, x, vs, us, us2, m, ρ, hh, hb => by
  unfold HR at hh
  obtain ⟨rfl, rfl⟩ := hh
  exact ⟨ρ, fun _ _ => rfl, by simpa [enc] using hb, .cons rfl .nil, fun b hb' => .inl (by simpa [enc] using hb')⟩
theorem encK_eq {R : Type} : ∀ (h : HT) (x : h.den) (n : Nat) (κ : List AC → List AO → Option R), encK h x n κ = κ (enc h x n).1 (enc h x n).2
 | .d t, x, n, κ => rfl
 | .own e t, x, n, κ => rfl
 | .ptr T h, x, n, κ => rfl
 | .clo g T h, x, n, κ => rfl
 | .opt T h, x, n, κ => by
  cases x <;> rfl
 | .prod a b, x, n, κ => by
  unfold encK
  rw [encK_eq a, encK_eq b]
  rfl
 | .unit, x, n, κ => rfl
 | .mp _ _ _ _, x, n, κ => rfl
 | .nd _ _ _ _, x, n, κ => rfl
 | .nilS, x, n, κ => rfl
theorem HR.len : ∀ (h : HT) {x : h.den} {vs us : List Value}, HR w F h x vs us → vs.length = h.size
 | .d t, x, vs, us, hh => by unfold HR at hh; exact RT.len t hh.1
 | .own e t, x, vs, us, hh => by unfold HR at hh; obtain ⟨v, rfl, _⟩ := hh; rfl
 | .ptr T h, x, vs, us, hh => by unfold HR at hh; obtain ⟨b, cs, us', rfl, _⟩ := hh; rfl
 | .clo g T h, x, vs, us, hh => by unfold HR at hh; obtain ⟨b, cs, us', rfl, _⟩ := hh; rfl
 | .opt T h, x, vs, us, hh => by
  unfold HR at hh
  rcases hh with ⟨_, rfl, _⟩ | ⟨y, b, cs, us', _, rfl, _⟩ <;> rfl
 | .prod a b, x, vs, us, hh => by
  unfold HR at hh
  obtain ⟨v1, v2, u1, u2, rfl, rfl, h1, h2⟩ := hh
  rw [List.length_append, HR.len a h1, HR.len b h2]
  rfl
 | .unit, x, vs, us, hh => by unfold HR at hh; obtain ⟨rfl, _⟩ := hh; rfl
 | .mp _ _ _ _, x, vs, us, hh => by unfold HR at hh; obtain ⟨v, rfl, _⟩ := hh; rfl
 | .nd _ _ _ _, x, vs, us, hh => by unfold HR at hh; obtain ⟨v, u, rfl, _⟩ := hh; rfl
 | .nilS, x, vs, us, hh => by unfold HR at hh; obtain ⟨rfl, _⟩ := hh; rfl
theorem Bag.none {m : List AO} {us : List Value} (h : Bag w ρ F m us) (ρ2 : Nat → Value) : Bag w ρ2 F [] us :=
 ⟨⟨fun n o h => by simp at h, fun n k b hn => by obtain ⟨o, h, _⟩ := hn; simp at h, fun n b hn => by obtain ⟨o, h, _⟩ := hn; simp at h, h.mr.lt⟩, h.inj, h.sep, fun n u b hn => by obtain ⟨o, h, _⟩ := hn; simp at h, h.lt⟩
def Fb (ρ : Nat → Value) (m : List AO) (F : FS) : FS := F.plus fun b => Own ρ m b
theorem brw_CR {m : List AO} (hm : MR w ρ F m) {c : AC} {v : Value} (h : CR w ρ F m.length c v) : CR w ρ (Fb ρ m F) m.length (brw m c) v := by
 have hmv : Mv w w F (Fb ρ m F) := ⟨.plus F _, fun _ _ => rfl⟩
 unfold brw
 split
 ·rename_i n
  split
  ·rename_i e t xs hx
   obtain ⟨h1, h2, h3⟩ := h
   rw [h2]
   have := row_RT (s := ⟨[], m⟩) (hm.obj n _ hx)
   have hle : (F.plus fun b => b ∈ blk (ρ n)).le (Fb ρ m F) := ⟨fun b hb => by
    rcases hb with hb | hb
    ·exact .inl hb
    ·exact .inr ⟨n, ⟨_, hx, by simp⟩, hb⟩, fun _ _ h => h, fun _ _ _ h => h⟩
   exact RT.mono hle (fun _ _ => rfl) _ this
  ·exact h.mono hmv (fun _ _ _ => rfl) (Nat.le_refl _)
 ·exact h.mono hmv (fun _ _ _ => rfl) (Nat.le_refl _)
theorem brw_noOwn {m : List AO} {c : AC} (h : c.nm = none) : brw m c = c := by
 cases c <;> first | rfl | simp [AC.nm] at h
def V1 (b : Bool) (n : Nat) (u : Value) (vs : List Value) : Prop := (b = true → u = .agg vs.toArray) ∧ (b = false → vs = [u]) ∧ vs.length = n
inductive ValL : List (Bool × Nat) → List Value → List Value → Prop
 | nil : ValL [] [] []
 | cons {b : Bool} {n : Nat} {sh : List (Bool × Nat)} {u : Value} {us v1 vs : List Value} : V1 b n u v1 → ValL sh us vs → ValL ((b, n) :: sh) (u :: us) (v1 ++ vs)
def ValS (sh : List (Bool × Nat)) (u : Value) (vs : List Value) : Prop := (∃ b n, sh = [(b, n)] ∧ V1 b n u vs) ∨ ((∀ p, sh ≠ [p]) ∧ ∃ us, u = .tuple us ∧ ValL sh us.toList vs)
theorem comp_V1 {b : Bool} {l : List AC} {u : Value} (h : VRb w ρ F N b l u) (h1 : (b || Nat.beq l.length 1) = true) (h2 : l.all (fun c => !isAny c) = true) : ∃ v1, V1 b l.length u v1 ∧ CRs w ρ F N l v1 := by
 cases b with
 | true =>
  obtain ⟨vs, rfl, h⟩ := h
  exact ⟨vs.toList, ⟨fun _ => rfl, fun h => by simp at h, (F2.length h).symm⟩, h⟩
 | false =>
  match l, h with
  | [], _ => simp at h1
  | [c], h =>
   have hc : c ≠ .any := by intro e; subst e; simp [isAny] at h2
   have h' : CR w ρ F N c u := VR.CR h hc
   exact ⟨[u], ⟨fun h => by simp at h, fun _ => rfl, rfl⟩, .cons h' .nil⟩
  | _ :: _ :: _, _ => simp at h1
theorem V1_comp {b : Bool} {n : Nat} {l : List AC} {u : Value} {v1 : List Value} (h : V1 b n u v1) (hc : CRs w ρ F N l v1) : VR w ρ F N (AV.ofComp (b, l)) u ∧ VRb w ρ F N b l u := by
 cases b with
 | true =>
  have := h.1 rfl
  subst this
  exact ⟨⟨v1.toArray, rfl, by simpa using hc⟩, ⟨v1.toArray, rfl, by simpa using hc⟩⟩
 | false =>
  have := h.2.1 rfl
  subst this
  cases hc with
  | cons h1 h2 => cases h2; exact ⟨VR.of_CR h1, VR.of_CR h1⟩
theorem shape_eq : ∀ {a b : List (Bool × Nat)}, sameShape a b = true → a = b ∧ ∀ p ∈ a, (p.1 || Nat.beq p.2 1) = true
 | [], [], _ => ⟨rfl, by simp⟩
 | [], _ :: _, h => by simp [sameShape] at h
 | _ :: _, [], h => by simp [sameShape] at h
 | (b, n) :: l, (c, m) :: r, h => by
  simp only [sameShape, Bool.and_eq_true, beq_iff_eq] at h
  obtain ⟨⟨⟨h1, h2⟩, h3⟩, h4⟩ := h
  obtain ⟨h5, h6⟩ := shape_eq h4
  have h2 : n = m := Nat.eq_of_beq_eq_true h2
  refine ⟨by rw [h1, h2, h5], fun p hp => ?_⟩
  rcases List.mem_cons.1 hp with rfl | hp
  ·exact h3
  ·exact h6 p hp
theorem shape_vals {x : AV} {u : Value} (h : VR w ρ F N x u) (hns : notSingle x = true) {sh : List (Bool × Nat)} (hs : sameShape x.shape sh = true) (ha : x.flatCells.all (fun c => !isAny c) = true) : ∃ vs, ValS sh u vs ∧ CRs w ρ F N x.flatCells vs := by
 obtain ⟨rfl, hp⟩ := shape_eq hs
 cases x with
 | one c =>
  obtain ⟨v1, h1, h2⟩ := comp_V1 (b := false) (l := [c]) h rfl ha
  exact ⟨v1, .inl ⟨false, 1, rfl, h1⟩, h2⟩
 | agg l =>
  obtain ⟨v1, h1, h2⟩ := comp_V1 (b := true) (l := l) h rfl ha
  exact ⟨v1, .inl ⟨true, _, rfl, h1⟩, h2⟩
 | tup l =>
  obtain ⟨us, rfl, h⟩ := h
  have key : ∀ {l : List (Bool × List AC)} {us : List Value}, F2 (fun p v => VRb w ρ F N p.1 p.2 v) l us → (∀ p ∈ l, (p.1 || Nat.beq p.2.length 1) = true) → (l.map fun p => p.2).flatten.all (fun c => !isAny c) = true → ∃ vs, ValL (l.map fun p => (p.1, p.2.length)) us vs ∧ CRs w ρ F N (l.map fun p => p.2).flatten vs := by
   intro l us h
   induction h with
   | nil => intro _ _; exact ⟨[], .nil, .nil⟩
   | @cons p v l us h hr ih =>
    intro hp ha
    simp only [List.map_cons, List.flatten_cons, List.all_append, Bool.and_eq_true] at ha
    obtain ⟨v1, h1, h2⟩ := comp_V1 h (hp p (by simp)) ha.1
    obtain ⟨vs, h3, h4⟩ := ih (fun q hq => hp q (by simp [hq])) ha.2
    exact ⟨v1 ++ vs, .cons h1 h3, F2.append h2 h4⟩
  obtain ⟨vs, h1, h2⟩ := key h (fun p hp' => hp (p.1, p.2.length) (by simp only [AV.shape, List.mem_map]; exact ⟨p, hp', rfl⟩)) ha
  by_cases hl : ∃ p, AV.shape (.tup l) = [p]
  ·exfalso
   obtain ⟨p, e⟩ := hl
   match l, e with
   | [q], _ => simp [notSingle] at hns
  ·exact ⟨vs, .inr ⟨fun p e => hl ⟨p, e⟩, us, rfl, h1⟩, h2⟩
theorem vals_res {sh : List (Bool × Nat)} {u : Value} {vs : List Value} (h : ValS sh u vs) {l : List AC} (hc : CRs w ρ F N l vs) : VR w ρ F N (mkRes sh l) u := by
 rcases h with ⟨b, n, rfl, h⟩ | ⟨hne, us, rfl, h⟩
 ·exact (V1_comp h hc).1
 ·have e : mkRes sh l = .tup (split sh l) := by
   unfold mkRes
   split
   ·rename_i b n; exact absurd rfl (hne (b, n))
   ·rfl
  rw [e]
  refine ⟨us, rfl, ?_⟩
  clear e hne
  generalize us.toList = ul at h
  induction h generalizing l with
  | nil => exact .nil
  | @cons b n sh u us v1 vs h1 _ ih =>
   have hl : (l.take n) ++ l.drop n = l := List.take_append_drop ..
   have h2 := F2.take hc n
   have h3 := F2.drop hc n
   have e1 : (v1 ++ vs).take n = v1 := by have := takeA v1 vs 0; rw [Nat.add_zero, h1.2.2] at this; simpa using this
   have e2 : (v1 ++ vs).drop n = vs := by have := dropA v1 vs 0; rw [Nat.add_zero, h1.2.2] at this; simpa using this
   rw [e1] at h2
   rw [e2] at h3
   exact .cons (V1_comp h1 h2).2 (ih h3)
end
end Go.Proofs.YtfihdjjilofklaaGreat.Am
