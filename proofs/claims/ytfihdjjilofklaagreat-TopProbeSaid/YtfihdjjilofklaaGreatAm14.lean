/- Small words for printed texts. -/
import Derived.Test.YtfihdjjilofklaaGreatAm13
set_option linter.unusedVariables false
set_option linter.unusedSimpArgs false
namespace Go.Proofs.YtfihdjjilofklaaGreat.Am
open Go
def w64 (x : Int) : Int := IntKind.wrap .i64 x
def gD {α : Type} (d : α) (xs : List α) (i : Int) : α := xs.getD i.toNat d
inductive TT where
 | nil
 | node (k : Nat) (i : TI) (l r : TT)
def TT.get : TT → Tab
 | .nil, _ => none
 | .node k i l r, T => bif Nat.beq T k then some i else bif Nat.ble T k then l.get T else r.get T
def TT.All (Q : Nat → TI → Prop) : TT → Prop
 | .nil => True
 | .node k i l r => Q k i ∧ l.All Q ∧ r.All Q
theorem TT.all_get {Q : Nat → TI → Prop} : ∀ {t : TT}, t.All Q → ∀ {T i}, t.get T = some i → Q T i
 | .nil, _, _, _, h => by cases h
 | .node k i l r, ⟨h1, h2, h3⟩, T, j, h => by
  unfold TT.get at h
  cases hb : Nat.beq T k with
  | true =>
   rw [hb] at h
   have := Nat.eq_of_beq_eq_true hb
   subst this
   cases h
   exact h1
  | false =>
   rw [hb] at h
   cases hc : Nat.ble T k with
   | true => rw [hc] at h; exact all_get h2 h
   | false => rw [hc] at h; exact all_get h3 h
theorem TT.ok {P : Program} {t : TT} (h : t.All (TIok P t.get)) : TabOk P t.get := fun T i hi => TT.all_get h hi
theorem TIok_mk {P : Program} {tt : Tab} {T : Nat} {i : TI} (h1 : TIof P T = some (i.d, i.size, i.bytes, some i.zero)) (h2 : i.zero.all (fun c => !isAny c) = true)
  (h3 : match i.ty with | some t => t.size = i.size ∧ zcells t = i.zero | none => True) (h4 : i.d.refs.all (fun e => (tt e).isSome) = true) (h5 : i.zero.length = i.size)
  (h7 : match i.key with | some (ka, kt) => kt.keyB = true ∧ (ka || Nat.beq kt.size 1) = true ∧ Maps.Keyed P T ∧ (∀ x : kt.den, okKey kt x = true → ∃ l, keyOf P T (vOf ka kt x) = some l) ∧ (P.info? T).bind (·.zero) = some (vOf ka kt kt.dflt) | none => True) (h8 : match i.meth with | some (nm, f, _) => methB P T nm f = true ∧ ∃ fs, P.underlying T = some (.struct fs) | none => True)
  (h6 : (!i.eq || ((!P.stoodInHeld T && !P.eqGuardType P.depth T) && match P.underlying T with | some (.struct fs) => fs.toList.all (fun f => f.name != "_") | _ => true)) = true) : TIok P tt T i := by
 refine ⟨h1, h2, fun t ht => by rw [ht] at h3; exact h3, fun e he => ?_, h5, fun ka kt e => by rw [e] at h7; exact h7, fun nm f t e => by rw [e] at h8; exact h8, fun heq => ?_⟩
 ·have := List.all_eq_true.1 h4 e he
  exact Option.isSome_iff_exists.1 this
 ·simp only [heq, Bool.not_true, Bool.false_or, Bool.and_eq_true, Bool.not_eq_true'] at h6
  exact ⟨h6.1.1, h6.1.2, fun fs hfs => by rw [hfs] at h6; exact h6.2⟩
def loopBody : List Item → List Item
 | .inLoop c :: k => .code c :: .inLoop c :: k
 | k => k
def isLoop : List Item → Bool
 | .inLoop _ :: _ => true
 | _ => false
def initSt (fn : Func) (args : List AV) (mem : List AO) : St := ⟨args ++ List.replicate (fn.ntmps - args.length) (.one .any), mem⟩
theorem FnOk_none {P : Program} {f : Nat} {D : DFn} {fn : Func} (h1 : P.funcs[f]? = some fn) (h2 : (fn.name == "runtime.NumGoroutine") = false) (h3 : fn.body.isSome = true) (h : ∀ x, D.f x = none) : FnOk P f D :=
 ⟨⟨fn, h1, h2, h3⟩, fun w F vals vs us x y _ _ _ hy _ => by rw [h x] at hy; cases hy⟩
section
variable {R : Type} {tt : Tab} {Γ : Gam} {A : Nat → Option LoopAnn} {N0 : Nat} {fin : St → Option R}
theorem run_succ {n : Nat} {k : List Item} {s : St} (h : isLoop k = true) : run tt Γ A N0 fin (n + 1) k s = seg tt Γ A N0 (run tt Γ A N0 fin n) fin segFuel (loopBody k) s := by
 unfold isLoop at h
 split at h
 ·rfl
 ·cases h
theorem absFn_n {n n0 : Nat} {fn : Func} {args : List AV} {mem : List AO} {κ : AV → List AO → Option R} (hn : mem.length = n0) (h : fn.body.isSome = true) :
  absFn tt Γ A n fn args mem κ = seg tt Γ A n0 (run tt Γ A n0 (resK tt fn.results.toList κ) n) (resK tt fn.results.toList κ) segFuel [.code (bodyOf fn)] (initSt fn args mem) := by
 subst hn
 obtain ⟨c, hc⟩ := Option.isSome_iff_exists.1 h
 unfold absFn bodyOf initSt
 rw [hc]
 rfl
end
abbrev nT0 : ByteArray := (⟨#[0, 1, 2, 2, 3, 3, 3, 3, 4, 4, 4, 4, 4, 4, 4, 4, 5, 5, 5, 5, 5, 5, 5, 5, 5, 5, 5, 5, 5, 5, 5, 5, 6, 6, 6, 6, 6, 6, 6, 6, 6, 6, 6, 6, 6, 6, 6, 6, 6, 6, 6, 6, 6, 6, 6, 6, 6, 6, 6, 6, 6, 6, 6, 6, 7, 7, 7, 7, 7, 7, 7, 7, 7, 7, 7, 7, 7, 7, 7, 7, 7, 7, 7, 7, 7, 7, 7, 7, 7, 7, 7, 7, 7, 7, 7, 7, 7, 7, 7, 7, 7, 7, 7, 7, 7, 7, 7, 7, 7, 7, 7, 7, 7, 7, 7, 7, 7, 7, 7, 7, 7, 7, 7, 7, 7, 7, 7, 7, 8, 8, 8, 8, 8, 8, 8, 8, 8, 8, 8, 8, 8, 8, 8, 8, 8, 8, 8, 8, 8, 8, 8, 8, 8, 8, 8, 8, 8, 8, 8, 8, 8, 8, 8, 8, 8, 8, 8, 8, 8, 8, 8, 8, 8, 8, 8, 8, 8, 8, 8, 8, 8, 8, 8, 8, 8, 8, 8, 8, 8, 8, 8, 8, 8, 8, 8, 8, 8, 8, 8, 8, 8, 8, 8, 8, 8, 8, 8, 8, 8, 8, 8, 8, 8, 8, 8, 8, 8, 8, 8, 8, 8, 8, 8, 8, 8, 8, 8, 8, 8, 8, 8, 8, 8, 8, 8, 8, 8, 8, 8, 8, 8, 8, 8, 8, 8, 8, 8, 8, 8, 8, 8, 8, 8, 8, 8, 8]⟩ : ByteArray)
abbrev dU : (Int × (Int × Int)) × (Int × (Int × (Bool × (Int × Int)))) := (((0 : Int), ((0 : Int), (0 : Int))), ((0 : Int), ((0 : Int), (false, ((0 : Int), (0 : Int))))))
abbrev dM : Int × (Int × Int) := ((0 : Int), ((0 : Int), (0 : Int)))
theorem ob {α β : Type} (a : α) (f : α → Option β) : (some a).bind f = f a := rfl
end Go.Proofs.YtfihdjjilofklaaGreat.Am
