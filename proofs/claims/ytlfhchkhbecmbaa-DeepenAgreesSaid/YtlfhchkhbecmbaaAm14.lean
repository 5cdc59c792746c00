/- Small words for printed texts. -/
import Derived.Test.YtlfhchkhbecmbaaAm13
set_option linter.unusedVariables false
set_option linter.unusedSimpArgs false
namespace Go.Proofs.Ytlfhchkhbecmbaa.Am
open Go
def w64 (x : Int) : Int := IntKind.wrap .i64 x
def gD {α : Type} (d : α) (xs : List α) (i : Int) : α := xs.getD i.toNat d
inductive TT where
 | nil
 | node (k : Nat) (i : TI) (l r : TT)
def TT.get : TT → Tab
 | .nil, _ => none
 | .node k i l r, T => bif Nat.beq T k then some i else bif Nat.ble T k then l.get T else r.get T
def TT.All (Q : Nat → TI → Prop) : TT → Prop
 | .nil => True
 | .node k i l r => Q k i ∧ l.All Q ∧ r.All Q
theorem TT.all_get {Q : Nat → TI → Prop} : ∀ {t : TT}, t.All Q → ∀ {T i}, t.get T = some i → Q T i
 | .nil, _, _, _, h => by cases h
 | .node k i l r, ⟨h1, h2, h3⟩, T, j, h => by
  unfold TT.get at h
  cases hb : Nat.beq T k with
  | true =>
   rw [hb] at h
   have := Nat.eq_of_beq_eq_true hb
   subst this
   cases h
   exact h1
  | false =>
   rw [hb] at h
   cases hc : Nat.ble T k with
   | true => rw [hc] at h; exact all_get h2 h
   | false => rw [hc] at h; exact all_get h3 h
theorem TT.ok {P : Program} {t : TT} (h : t.All (TIok P t.get)) : TabOk P t.get := fun T i hi => TT.all_get h hi
def flds (P : Program) (T : Nat) : Array Field := match P.underlying T with
 | some (.struct fs) => fs
 | _ => #[]
def fld (P : Program) (T i : Nat) : Field := (flds P T).getD i default
theorem keyOf_triple {P : Program} {T : Nat} {f1 f2 f3 : Field} {k1 k2 k3 : IntKind} (hT : P.underlying T = some (.struct #[f1, f2, f3])) (hn : P.keyType T = true) (hc : P.cellsOf T = 3) (h1 : f1.offset = 0) (h2 : f2.offset = 1) (h3 : f3.offset = 2)
  (c1 : P.cellsOf f1.type = 1) (c2 : P.cellsOf f2.type = 1) (c3 : P.cellsOf f3.type = 1) (u1 : P.underlying f1.type = some (.int k1)) (u2 : P.underlying f2.type = some (.int k2)) (u3 : P.underlying f3.type = some (.int k3)) (hname : (#[f1, f2, f3].all (·.name != "_")) = true)
  {x : Int × (Int × Int)} (hx : okKey (.prod (.int k1) (.prod (.int k2) (.int k3))) x = true) : ∃ l, keyOf P T (vOf true (.prod (.int k1) (.prod (.int k2) (.int k3))) x) = some l := by
 have hx : ((Lit.int k1 x.1).wf && ((Lit.int k2 x.2.1).wf && (Lit.int k3 x.2.2).wf)) = true := hx
 simp only [Bool.and_eq_true] at hx
 obtain ⟨x1, x2, x3⟩ := hx
 have hv : vOf true (.prod (.int k1) (.prod (.int k2) (.int k3))) x = .agg #[.int k1 x.1, .int k2 x.2.1, .int k3 x.2.2] := rfl
 rw [hv]
 obtain ⟨n, hn0⟩ : ∃ n, P.types.size = n + 1 := by
  cases hz : P.types.size with
  | succ n => exact ⟨n, rfl⟩
  | zero =>
   exfalso
   unfold Program.keyType at hn
   rw [hz] at hn
   unfold Program.keyTypeAt at hn
   simp [hT, Program.keyTypeAt] at hn
 have e1 : ∀ d, P.keyLits (d + 1) f1.type [.int k1 x.1] = some [.int k1 x.1] := fun d => by simp [Program.keyLits, u1, x1]
 have e2 : ∀ d, P.keyLits (d + 1) f2.type [.int k2 x.2.1] = some [.int k2 x.2.1] := fun d => by simp [Program.keyLits, u2, x2]
 have e4 : ∀ d, P.keyLits (d + 1) f3.type [.int k3 x.2.2] = some [.int k3 x.2.2] := fun d => by simp [Program.keyLits, u3, x3]
 have e3 : P.keyLits (P.types.size + 1) T [.int k1 x.1, .int k2 x.2.1, .int k3 x.2.2] = some [.int k1 x.1, .int k2 x.2.1, .int k3 x.2.2] := by
  rw [hn0]
  unfold Program.keyLits
  simp only [hT]
  rw [if_pos ⟨by rw [hc]; rfl, hname⟩]
  simp [h1, h2, h3, c1, c2, c3, e1, e2, e4]
 refine ⟨.string (keyBytes [.int k1 x.1, .int k2 x.2.1, .int k3 x.2.2]), ?_⟩
 have hf : (Value.agg #[Value.int k1 x.1, Value.int k2 x.2.1, Value.int k3 x.2.2]).formed P T = true := by simp [Value.formed, hT, hc]
 have hcl : (Value.agg #[Value.int k1 x.1, Value.int k2 x.2.1, Value.int k3 x.2.2]).cells.toList = [.int k1 x.1, .int k2 x.2.1, .int k3 x.2.2] := rfl
 unfold keyOf
 simp only [hT]
 rw [hn, hf, hcl, e3]
 rfl
theorem TIok_mk {P : Program} {tt : Tab} {T : Nat} {i : TI} (h1 : TIof P T = some (i.d, i.size, i.bytes, some i.zero)) (h2 : i.zero.all (fun c => !isAny c) = true)
  (h3 : match i.ty with | some t => t.size = i.size ∧ zcells t = i.zero | none => True) (h4 : i.d.refs.all (fun e => (tt e).isSome) = true) (h5 : i.zero.length = i.size)
  (h7 : match i.key with | some (ka, kt) => kt.keyB = true ∧ (ka || Nat.beq kt.size 1) = true ∧ Maps.Keyed P T ∧ (∀ x : kt.den, okKey kt x = true → ∃ l, keyOf P T (vOf ka kt x) = some l) ∧ (P.info? T).bind (·.zero) = some (vOf ka kt kt.dflt) | none => True) (h8 : match i.meth with | some (nm, f, _) => methB P T nm f = true ∧ ∃ fs, P.underlying T = some (.struct fs) | none => True)
  (h6 : (!i.eq || ((!P.stoodInHeld T && !P.eqGuardType P.depth T) && match P.underlying T with | some (.struct fs) => fs.toList.all (fun f => f.name != "_") | _ => true)) = true) : TIok P tt T i := by
 refine ⟨h1, h2, fun t ht => by rw [ht] at h3; exact h3, fun e he => ?_, h5, fun ka kt e => by rw [e] at h7; exact h7, fun nm f t e => by rw [e] at h8; exact h8, fun heq => ?_⟩
 ·have := List.all_eq_true.1 h4 e he
  exact Option.isSome_iff_exists.1 this
 ·simp only [heq, Bool.not_true, Bool.false_or, Bool.and_eq_true, Bool.not_eq_true'] at h6
  exact ⟨h6.1.1, h6.1.2, fun fs hfs => by rw [hfs] at h6; exact h6.2⟩
def loopBody : List Item → List Item
 | .inLoop c :: k => .code c :: .inLoop c :: k
 | k => k
def isLoop : List Item → Bool
 | .inLoop _ :: _ => true
 | _ => false
def initSt (fn : Func) (args : List AV) (mem : List AO) : St := ⟨args ++ List.replicate (fn.ntmps - args.length) (.one .any), mem⟩
theorem FnOk_none {P : Program} {f : Nat} {D : DFn} {fn : Func} (h1 : P.funcs[f]? = some fn) (h2 : (fn.name == "runtime.NumGoroutine") = false) (h3 : fn.body.isSome = true) (h : ∀ x, D.f x = none) : FnOk P f D :=
 ⟨⟨fn, h1, h2, h3⟩, fun w F vals vs us x y _ _ _ hy _ => by rw [h x] at hy; cases hy⟩
section
variable {R : Type} {tt : Tab} {Γ : Gam} {A : Nat → Option LoopAnn} {N0 : Nat} {fin : St → Option R}
theorem run_succ {n : Nat} {k : List Item} {s : St} (h : isLoop k = true) : run tt Γ A N0 fin (n + 1) k s = seg tt Γ A N0 (run tt Γ A N0 fin n) fin segFuel (loopBody k) s := by
 unfold isLoop at h
 split at h
 ·rfl
 ·cases h
theorem absFn_n {n n0 : Nat} {fn : Func} {args : List AV} {mem : List AO} {κ : AV → List AO → Option R} (hn : mem.length = n0) (h : fn.body.isSome = true) :
  absFn tt Γ A n fn args mem κ = seg tt Γ A n0 (run tt Γ A n0 (resK tt fn.results.toList κ) n) (resK tt fn.results.toList κ) segFuel [.code (bodyOf fn)] (initSt fn args mem) := by
 subst hn
 obtain ⟨c, hc⟩ := Option.isSome_iff_exists.1 h
 unfold absFn bodyOf initSt
 rw [hc]
 rfl
end
abbrev nT0 : ByteArray := (⟨#[0, 1, 2, 2, 3, 3, 3, 3, 4, 4, 4, 4, 4, 4, 4, 4, 5, 5, 5, 5, 5, 5, 5, 5, 5, 5, 5, 5, 5, 5, 5, 5, 6, 6, 6, 6, 6, 6, 6, 6, 6, 6, 6, 6, 6, 6, 6, 6, 6, 6, 6, 6, 6, 6, 6, 6, 6, 6, 6, 6, 6, 6, 6, 6, 7, 7, 7, 7, 7, 7, 7, 7, 7, 7, 7, 7, 7, 7, 7, 7, 7, 7, 7, 7, 7, 7, 7, 7, 7, 7, 7, 7, 7, 7, 7, 7, 7, 7, 7, 7, 7, 7, 7, 7, 7, 7, 7, 7, 7, 7, 7, 7, 7, 7, 7, 7, 7, 7, 7, 7, 7, 7, 7, 7, 7, 7, 7, 7, 8, 8, 8, 8, 8, 8, 8, 8, 8, 8, 8, 8, 8, 8, 8, 8, 8, 8, 8, 8, 8, 8, 8, 8, 8, 8, 8, 8, 8, 8, 8, 8, 8, 8, 8, 8, 8, 8, 8, 8, 8, 8, 8, 8, 8, 8, 8, 8, 8, 8, 8, 8, 8, 8, 8, 8, 8, 8, 8, 8, 8, 8, 8, 8, 8, 8, 8, 8, 8, 8, 8, 8, 8, 8, 8, 8, 8, 8, 8, 8, 8, 8, 8, 8, 8, 8, 8, 8, 8, 8, 8, 8, 8, 8, 8, 8, 8, 8, 8, 8, 8, 8, 8, 8, 8, 8, 8, 8, 8, 8, 8, 8, 8, 8, 8, 8, 8, 8, 8, 8, 8, 8, 8, 8, 8, 8, 8, 8]⟩ : ByteArray)
abbrev dU : (Int × (Int × Int)) × (Int × (Int × (Bool × (Int × Int)))) := (((0 : Int), ((0 : Int), (0 : Int))), ((0 : Int), ((0 : Int), (false, ((0 : Int), (0 : Int))))))
abbrev dM : Int × (Int × Int) := ((0 : Int), ((0 : Int), (0 : Int)))
theorem ob {α β : Type} (a : α) (f : α → Option β) : (some a).bind f = f a := rfl
end Go.Proofs.Ytlfhchkhbecmbaa.Am
