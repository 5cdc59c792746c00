/- The abstract machine, its data and its steps: plain definitions that the kernel evaluates over loaded code. No theorem of the program stands here. -/
import Derived.Calls
import Derived.Laws.BytesArg
import Derived.Laws.AppendOwn
import Derived.Laws.OwnMore
import Derived.Laws.MakeOwn
import Derived.Maps.AppendAt
import Derived.Deep.Quiet
import Derived.BigQuiet
import Derived.KernelRfl
set_option linter.unusedVariables false
set_option linter.unusedSimpArgs false
namespace Go.Proofs.YtfihdjjilofklaaGreat.Am
open Go
inductive Ty where
 | int (k : IntKind)
 | bool
 | str
 | slice (e : Nat) (t : Ty)
 | prod (a b : Ty)
 | unit
 | ifc (T : Nat) (t : Ty)
 | nod
 deriving DecidableEq
def Ty.den : Ty → Type
 | .int _ => Int
 | .bool => Bool
 | .str => ByteArray
 | .slice _ t => List t.den
 | .prod a b => a.den × b.den
 | .unit => Unit
 | .ifc _ t => t.den
 | .nod => Int
def Ty.size : Ty → Nat
 | .prod a b => a.size + b.size
 | .unit => 0
 | _ => 1
def Ty.dflt : (t : Ty) → t.den
 | .int _ => (0 : Int)
 | .bool => false
 | .str => (⟨#[]⟩ : ByteArray)
 | .slice _ _ => []
 | .prod a b => (a.dflt, b.dflt)
 | .unit => ()
 | .ifc _ t => t.dflt
 | .nod => (-1 : Int)
def Ty.flatB : Ty → Bool
 | .slice _ _ => false
 | .nod => false
 | .prod a b => a.flatB && b.flatB
 | .ifc _ t => t.flatB
 | _ => true
def Ty.keyB : Ty → Bool
 | .slice _ _ => false
 | .nod => false
 | .ifc _ _ => false
 | .prod a b => a.keyB && b.keyB
 | _ => true
def Ty.nodB : Ty → Bool
 | .slice _ t => t.nodB
 | .prod a b => a.nodB || b.nodB
 | .ifc _ t => t.nodB
 | .nod => true
 | _ => false
def eqDI (a b : Int) : Bool := decide (a = b)
def eqDB (a b : Bool) : Bool := a == b
def eqDS (a b : ByteArray) : Bool := a.data.toList == b.data.toList
def okDS (a : ByteArray) : Bool := decide (a.size ≤ 9223372036854775807)
def eqD : (t : Ty) → t.den → t.den → Bool
 | .int _, x, y => eqDI x y
 | .bool, x, y => eqDB x y
 | .str, x, y => eqDS x y
 | .prod a b, x, y => eqD a x.1 y.1 && eqD b x.2 y.2
 | .unit, _, _ => true
 | .slice _ _, _, _ => false
 | .ifc _ _, _, _ => false
 | .nod, _, _ => false
def okKey : (t : Ty) → t.den → Bool
 | .int k, x => (Lit.int k x).wf
 | .bool, _ => true
 | .str, x => okDS x
 | .prod a b, x => okKey a x.1 && okKey b x.2
 | .unit, _ => true
 | .slice _ _, _ => false
 | .ifc _ _, _ => false
 | .nod, _ => false
def mget {κ υ : Type} (eq : κ → κ → Bool) : List (κ × υ) → κ → Option υ
 | [], _ => none
 | p :: l, k => bif eq p.1 k then some p.2 else mget eq l k
def mput {κ υ : Type} (eq : κ → κ → Bool) : List (κ × υ) → κ → υ → List (κ × υ)
 | [], k, v => [(k, v)]
 | p :: l, k, v => bif eq p.1 k then (p.1, v) :: l else p :: mput eq l k v
inductive AC where
 | any
 | int (k : IntKind) (n : Int)
 | bool (b : Bool)
 | str (s : ByteArray)
 | nilS
 | fro (e : Nat) (t : Ty) (xs : List t.den)
 | frn (e : Nat) (t : Ty) (xs : List t.den)
 | own (n : Nat)
 | vw (n : Nat) (lo : Int) (sz : Nat)
 | vwh (n : Nat) (lo hi : Int) (sz : Nat)
 | ptr (n off : Nat)
 | fp (t : Ty) (x : t.den) (off : Nat)
 | ep (n : Nat) (i : Int) (sz off : Nat)
 | fn (f : Nat)
 | clo (f n : Nat)
 | cfr (f : Nat) (t : Ty) (x : t.den)
 | nilP
 | nilI
 | nilF
 | nilM
 | ifc (T : Nat) (t : Ty) (x : t.den)
 | nr (i : Int)
 | np (i : Int) (off : Nat)
 | kd (i n : Int)
 | ke (i n j : Int)
inductive AV where
 | one (c : AC)
 | agg (l : List AC)
 | tup (l : List (Bool × List AC))
def AV.cells : AV → List AC
 | .one c => [c]
 | .agg l => l
 | .tup _ => []
def AV.comp : AV → Bool × List AC
 | .one c => (false, [c])
 | .agg l => (true, l)
 | .tup _ => (false, [])
def AV.ofComp : Bool × List AC → AV
 | (true, l) => .agg l
 | (false, [c]) => .one c
 | (false, _) => .one .any
inductive AO where
 | var (T : Nat) (l : List AC)
 | row (e : Nat) (t : Ty) (xs : List t.den)
 | mapo (ka va : Bool) (kt vt : Ty) (xs : List (kt.den × vt.den))
 | arena (T e : Nat) (a b : Ty) (recs : List (a.den × List Int × b.den)) (pend : Option (Int × List Int))
 | gone
structure St where
 tmps : List AV
 mem : List AO
def St.put (s : St) (d : Option Nat) (v : AV) : St :=
 match d with
 | some t => ⟨s.tmps.set t v, s.mem⟩
 | none => s
def ofConst : Value → AV
 | .int k n => .one (.int k n)
 | .bool b => .one (.bool b)
 | .string s => .one (.str s)
 | .slice none 0 0 => .one .nilS
 | .pointer none => .one .nilP
 | .nilIface => .one .nilI
 | .nilFunc => .one .nilF
 | _ => .one .any
def globT : Nat → Option (Sigma fun t : Ty => t.den) := fun _ => none
def St.ev (s : St) : Operand → AV
 | .tmp t => s.tmps.getD t (.one .any)
 | .const v => ofConst v
 | .global h => match globT h with
  | some p => .one (.fp p.1 p.2 0)
  | none => .one .any
 | .func f => .one (.fn f)
def St.bnd (s : St) (q : Option Operand) (d : Int) : Option Int := match q with
 | none => some d
 | some q => match s.ev q with
  | .one (.int _ n) => some n
  | _ => none
def rdd (t : Ty) (xs : List t.den) (i : Int) : t.den := xs.getD i.toNat t.dflt
def flat : (t : Ty) → t.den → List AC
 | .int k, x => [.int k x]
 | .bool, x => [.bool x]
 | .str, x => [.str x]
 | .slice e t, x => [.fro e t x]
 | .prod a b, x => flat a x.1 ++ flat b x.2
 | .unit, _ => []
 | .ifc T t, x => [.ifc T t x]
 | .nod, x => [.nr x]
def unflat : (t : Ty) → List AC → Option (t.den × List AC)
 | .int k, l => match l with
  | .int k' x :: r => if k = k' then some (x, r) else none
  | _ => none
 | .bool, l => match l with
  | .bool x :: r => some (x, r)
  | _ => none
 | .str, l => match l with
  | .str x :: r => some (x, r)
  | _ => none
 | .slice e t, l => match l with
  | .fro e' t' xs :: r => if h : e' = e ∧ t' = t then some (h.2 ▸ xs, r) else none
  | .nilS :: r => some ([], r)
  | _ => none
 | .prod a b, l =>
  match unflat a l with
  | some (x, r) =>
   match unflat b r with
   | some (y, r') => some ((x, y), r')
   | none => none
  | none => none
 | .unit, l => some ((), l)
 | .ifc T t, l => match l with
  | .ifc T' t' x :: r => if h : T' = T ∧ t' = t then some (h.2 ▸ x, r) else none
  | _ => none
 | .nod, l => match l with
  | .nr x :: r => some (x, r)
  | .np x off :: r => match off with
   | 0 => some (x, r)
   | _ => none
  | .nilP :: r => some ((-1 : Int), r)
  | _ => none
def unflatAll (t : Ty) (l : List AC) : Option t.den :=
 match unflat t l with
 | some (x, []) => some x
 | _ => none
inductive TD where
 | int (k : IntKind)
 | bool
 | str
 | struct (fs : List (Nat × Nat))
 | array (n e : Nat)
 | slice (e : Nat)
 | ptr (e : Nat)
 | map (k e : Nat)
 | iface
 | other
structure TI where
 d : TD
 size : Nat
 bytes : Nat
 ty : Option Ty
 zero : List AC
 eq : Bool
 key : Option (Bool × Ty)
 meth : Option (String × Nat × Ty)
abbrev Tab := Nat → Option TI
def Tab.isAgg (tt : Tab) (T : Nat) : Option Bool :=
 match tt T with
 | some i => match i.d with
  | .struct _ => some true
  | .array _ _ => some true
  | .other => none
  | _ => some false
 | none => none
def Tab.size (tt : Tab) (T : Nat) : Nat := match tt T with
 | some i => i.size
 | none => 0
def Tab.td (tt : Tab) (T : Nat) : TD := match tt T with
 | some i => i.d
 | none => .other
def chk {R : Type} (b : Bool) (x : Option R) : Option R := bif b then x else none
def ltI (a b : Int) : Bool := decide (a < b)
def leI (a b : Int) : Bool := decide (a ≤ b)
def eqI (a b : Int) : Bool := decide (a = b)
def selK {R : Type} : Nat → Nat → Int → (Nat → Option R) → Option R
 | 0, _, _, _ => none
 | n + 1, j, i, f => bif eqI i (j : Int) then f j else selK n (j + 1) i f
def binI (op : BinOp) (k : IntKind) (a b : Int) : Option AC :=
 match op with
 | .add => some (.int k (k.wrap (a + b)))
 | .sub => some (.int k (k.wrap (a - b)))
 | .mul => some (.int k (k.wrap (a * b)))
 | .and => some (.int k (Go.bits .and k a b))
 | .or => some (.int k (Go.bits .or k a b))
 | .xor => some (.int k (Go.bits .xor k a b))
 | .andNot => some (.int k (Go.bits .andNot k a b))
 | .eql => some (.bool (eqI a b))
 | .neq => some (.bool (!eqI a b))
 | .lss => some (.bool (ltI a b))
 | .leq => some (.bool (leI a b))
 | .gtr => some (.bool (ltI b a))
 | .geq => some (.bool (leI b a))
 | _ => none
def AC.isNil : TD → AC → AC → Option Bool
 | .slice _, .frn _ _ _, .nilS => some false
 | .slice _, .nilS, .nilS => some true
 | .ptr _, .ptr _ _, .nilP => some false
 | .ptr _, .nilP, .nilP => some true
 | .slice _, .kd _ n, .nilS => some (eqI n 0)
 | _, _, _ => none
def setCells : List AC → Nat → List AC → List AC
 | l, _, [] => l
 | l, off, c :: r => setCells (l.set off c) (off + 1) r
def cut (l : List AC) (off n : Nat) : Option (List AC) := if off + n ≤ l.length then some ((l.drop off).take n) else none
def mkv (agg : Bool) (l : List AC) : Option AV :=
 match agg, l with
 | true, l => some (.agg l)
 | false, [c] => some (.one c)
 | false, _ => none
def AC.lenI (s : St) : AC → Option Int
 | .fro _ _ xs => some (xs.length : Int)
 | .frn _ _ xs => some (xs.length : Int)
 | .vw n lo sz => match s.mem[n]? with
  | some (.row _ t xs) => if t.size = sz then some ((xs.length : Int) - lo) else none
  | _ => none
 | .own n => match s.mem[n]? with
  | some (.row _ _ xs) => some (xs.length : Int)
  | _ => none
 | .nilS => some 0
 | .str x => some (x.size : Int)
 | .kd _ n => some n
 | _ => none
def AC.nm : AC → Option Nat
 | .own n => some n
 | .vw n _ _ => some n
 | .vwh n _ _ _ => some n
 | .ptr n _ => some n
 | .ep n _ _ _ => some n
 | .clo _ n => some n
 | _ => none
def AC.sbs (ch : List (Nat × AC)) (c : AC) : AC := match c.nm with
 | none => c
 | some n => match ch.find? (fun p => Nat.beq p.1 n) with
  | none => c
  | some p => match c with
   | .own _ => p.2
   | _ => .any
def AV.sbs (ch : List (Nat × AC)) : AV → AV
 | .one c => .one (c.sbs ch)
 | .agg l => .agg (l.map (AC.sbs ch))
 | .tup l => .tup (l.map fun p => (p.1, p.2.map (AC.sbs ch)))
def frz : List AO → List AC → Option (List AC × List AO)
 | m, [] => some ([], m)
 | m, .own n :: l => match m[n]? with
  | some (.row e t xs) => match frz (m.set n .gone) l with
   | some (l', m') => some (.fro e t xs :: l', m')
   | none => none
  | _ => none
 | m, c :: l => match frz m l with
  | some (l', m') => some (c :: l', m')
  | none => none
abbrev GamF := (R : Type) → Nat → List AV → List AO → (AV → List AO → List (Nat × AC) → Option R) → Option R
structure Iter where
 kb : IntKind
 kx : IntKind
 l0 : Int
 pre : Int → Int → Bool
 val : Int → Int → Option Int
 post : Int → Int → Bool
 nb : Int → Int → Int
 nl : Int → Int → Int
structure Gam where
 c : GamF
 d : GamF
 it : Nat → Option Iter
def natK {R : Type} : Nat → (Nat → Option R) → Option R
 | 0, k => k 0
 | n + 1, k => natK n fun m => k (m + 1)
def listK {R α : Type} (f : α → (α → Option R) → Option R) : List α → (List α → Option R) → Option R
 | [], k => k []
 | x :: l, k => f x fun y => listK f l fun m => k (y :: m)
def acK {R : Type} (c : AC) (k : AC → Option R) : Option R := match c with
 | .own n => natK n fun n => k (.own n)
 | .vw n lo sz => natK n fun n => k (.vw n lo sz)
 | .vwh n lo hi sz => natK n fun n => k (.vwh n lo hi sz)
 | .ptr n off => natK n fun n => natK off fun off => k (.ptr n off)
 | .ep n i sz off => natK n fun n => k (.ep n i sz off)
 | .any => k .any
 | .int a b => k (.int a b)
 | .bool b => k (.bool b)
 | .str b => k (.str b)
 | .nilS => k .nilS
 | .fro e t xs => k (.fro e t xs)
 | .frn e t xs => k (.frn e t xs)
 | .fp t x off => k (.fp t x off)
 | .fn f => k (.fn f)
 | .clo f n => natK n fun n => k (.clo f n)
 | .cfr f t x => k (.cfr f t x)
 | .nilP => k .nilP
 | .nilI => k .nilI
 | .nilF => k .nilF
 | .nilM => k .nilM
 | .ifc T t x => k (.ifc T t x)
 | .nr i => k (.nr i)
 | .np i off => natK off fun off => k (.np i off)
 | .kd i n => k (.kd i n)
 | .ke i n j => k (.ke i n j)
def avK {R : Type} (v : AV) (k : AV → Option R) : Option R := match v with
 | .one c => acK c fun c => k (.one c)
 | .agg l => listK acK l fun l => k (.agg l)
 | .tup l => listK (fun p k => match p with | (b, l) => listK acK l fun l => k (b, l)) l fun l => k (.tup l)
def aoK {R : Type} (o : AO) (k : AO → Option R) : Option R := match o with
 | .var T l => listK acK l fun l => k (.var T l)
 | .row e t xs => k (.row e t xs)
 | .mapo ka va kt vt xs => k (.mapo ka va kt vt xs)
 | .arena T e a b recs pend => k (.arena T e a b recs pend)
 | .gone => k .gone
def stK {R : Type} (s : St) (k : St → Option R) : Option R := listK avK s.tmps fun t => listK aoK s.mem fun m => k ⟨t, m⟩
theorem natK_eq {R : Type} : ∀ (n : Nat) (k : Nat → Option R), natK n k = k n
 | 0, k => rfl
 | n + 1, k => natK_eq n _
theorem listK_eq {R α : Type} {f : α → (α → Option R) → Option R} (hf : ∀ x k, f x k = k x) : ∀ (l : List α) (k : List α → Option R), listK f l k = k l
 | [], k => rfl
 | x :: l, k => by unfold listK; rw [hf, listK_eq hf l]
theorem acK_eq {R : Type} (c : AC) (k : AC → Option R) : acK c k = k c := by
 cases c <;> simp only [acK, natK_eq]
theorem avK_eq {R : Type} (v : AV) (k : AV → Option R) : avK v k = k v := by
 cases v with
 | one c => simp only [avK, acK_eq]
 | agg l => simp only [avK]; rw [listK_eq acK_eq]
 | tup l =>
  simp only [avK]
  rw [listK_eq]
  rintro ⟨b, l⟩ k
  show listK acK l _ = _
  rw [listK_eq acK_eq]
theorem aoK_eq {R : Type} (o : AO) (k : AO → Option R) : aoK o k = k o := by
 cases o with
 | var T l => simp only [aoK]; rw [listK_eq acK_eq]
 | row e t xs => rfl
 | mapo ka va kt vt xs => rfl
 | arena T e a b recs pend => rfl
 | gone => rfl
theorem stK_eq {R : Type} (s : St) (k : St → Option R) : stK s k = k s := by
 unfold stK
 rw [listK_eq avK_eq, listK_eq aoK_eq]
def frc {R : Type} (ops : Array Oper) (s : St) (k : St → Option R) : Option R := match Nat.ble 10 ops.size with
 | true => stK s k
 | false => k s
theorem frc_eq {R : Type} (ops : Array Oper) (s : St) (k : St → Option R) : frc ops s k = k s := by
 unfold frc
 cases Nat.ble 10 ops.size
 ·rfl
 ·exact stK_eq s k
def capOk (bytes : Nat) (n : Nat) : Bool := decide (n * bytes ≤ 140737488355328)
def isArena : AO → Bool
 | .arena _ _ _ _ _ _ => true
 | _ => false
def findA : List AO → Option Nat
 | [] => none
 | o :: m => bif isArena o then (bif m.any isArena then none else some 0) else match findA m with
  | some n => some (n + 1)
  | none => none
def recD (a b : Ty) (recs : List (a.den × List Int × b.den)) (i : Int) : a.den × List Int × b.den := recs.getD i.toNat (a.dflt, [], b.dflt)
def nodeCells (a b : Ty) (r : a.den × List Int × b.den) (i : Int) : List AC := flat a r.1 ++ .kd i (r.2.1.length : Int) :: flat b r.2.2
def unNode (a b : Ty) (l : List AC) : Option (a.den × List Int × b.den) := match unflat a l with
 | some (x, .nilS :: r) => match unflatAll b r with
  | some y => some (x, [], y)
  | none => none
 | _ => none
def pushA (k : Nat) (m : List AO) : Option (List AO × Int) := match findA m with
 | some n => match m[n]?, m[k]? with
  | some (.arena T e a b recs none), some (.var T' l) => if T' = T then (match unNode a b l with
   | some r => some ((m.set k .gone).set n .gone ++ [.arena T e a b (recs ++ [r]) none], (recs.length : Int))
   | none => none) else none
  | _, _ => none
 | none => none
def allocA (T : Nat) (l : List AC) (m : List AO) : Option (List AO × Int) := pushA m.length (m ++ [.var T l])
section
variable {R : Type} (tt : Tab) (Γ : GamF)
def absKid (s : St) (T : Nat) (i n j : Int) (κ : AV → Option R) : Option R :=
 match tt.isAgg T, findA s.mem with
 | some false, some k => match s.mem[k]? with
  | some (.arena _ _ a b recs none) => if tt.size T = 1 then chk (eqI n ((recD a b recs i).2.1.length : Int)) (κ (.one (.nr (rdd .nod (recD a b recs i).2.1 j)))) else none
  | _ => none
 | _, _ => none
def absNode (s : St) (i : Int) (off : Nat) (cs : List AC) (κ : St → Option R) : Option R :=
 match findA s.mem with
 | none => none
 | some n => match s.mem[n]? with
  | some (.arena T e a b recs none) =>
   if off + cs.length ≤ a.size then
    match unflatAll a (setCells (flat a (recD a b recs i).1) off cs) with
    | some x => κ ⟨s.tmps, s.mem.set n (.arena T e a b (recs.set i.toNat (x, (recD a b recs i).2)) none)⟩
    | none => none
   else if a.size + 1 ≤ off ∧ off - (a.size + 1) + cs.length ≤ b.size then
    match unflatAll b (setCells (flat b (recD a b recs i).2.2) (off - (a.size + 1)) cs) with
    | some y => κ ⟨s.tmps, s.mem.set n (.arena T e a b (recs.set i.toNat ((recD a b recs i).1, (recD a b recs i).2.1, y)) none)⟩
    | none => none
   else none
  | some (.arena T e a b recs (some (ip, ys))) => match cs with
   | [.kd i2 n2] => if off = a.size then
     chk (eqI i i2 && (eqI i ip && eqI n2 ((recD a b recs i).2.1.length + ys.length : Int))) (κ ⟨s.tmps, s.mem.set n (.arena T e a b (recs.set i.toNat ((recD a b recs i).1, (recD a b recs i).2.1 ++ ys, (recD a b recs i).2.2)) none)⟩)
    else none
   | _ => none
  | _ => none
def absGrow (s : St) (d : Option Nat) (e bytes : Nat) (i n : Int) (ys : List Int) (κ : St → Option R) : Option R :=
 match findA s.mem with
 | none => none
 | some k => match s.mem[k]? with
  | some (.arena T e' a b recs none) => if e' = e then
    chk (eqI n ((recD a b recs i).2.1.length : Int) && (leI 1 (ys.length : Int) && capOk bytes ((recD a b recs i).2.1.length + ys.length)))
     (κ ((⟨s.tmps, s.mem.set k .gone ++ [.arena T e' a b recs (some (i, ys))]⟩ : St).put d (.one (.kd i (n + (ys.length : Int))))))
   else none
  | _ => none
def absLoad (s : St) (T : Nat) (p : AC) (κ : AV → Option R) : Option R :=
 match tt.isAgg T with
 | none => none
 | some ag =>
  match (match p with
   | .ptr n off => match s.mem[n]? with
    | some (.var _ l) => cut l off (tt.size T)
    | _ => none
   | .fp t x off => cut (flat t x) off (tt.size T)
   | .ep n i sz off => match s.mem[n]? with
    | some (.row _ t xs) => if t.size = sz then cut (flat t (rdd t xs i)) off (tt.size T) else none
    | _ => none
   | .np i off => match findA s.mem with
    | some n => match s.mem[n]? with
     | some (.arena _ _ a b recs _) => cut (nodeCells a b (recD a b recs i) i) off (tt.size T)
     | _ => none
    | none => none
   | _ => none) with
  | none => match p with
   | .ke i n j => absKid tt s T i n j κ
   | _ => none
  | some l => match mkv ag l with
   | some v => κ v
   | none => none
def absStore (s : St) (T : Nat) (p : AC) (v : AV) (κ : St → Option R) : Option R :=
 match v with
 | .tup _ => none
 | .one .any => none
 | _ =>
 if v.cells.length = tt.size T ∧ (tt T).isSome = true then
  match p with
  | .ptr n off => match s.mem[n]? with
   | some (.var U l) => if off + v.cells.length ≤ l.length then κ ⟨s.tmps, s.mem.set n (.var U (setCells l off v.cells))⟩ else none
   | _ => none
  | .ep n i sz off =>
   match frz s.mem v.cells with
   | none => none
   | some (cs, m) =>
    match m[n]? with
    | some (.row e t xs) =>
     if t.size = sz ∧ off + cs.length ≤ t.size then
      match unflatAll t (setCells (flat t (rdd t xs i)) off cs) with
      | some x => κ ⟨s.tmps, m.set n (.row e t (xs.set i.toNat x))⟩
      | none => none
     else none
    | _ => none
  | .np i off =>
   match frz s.mem v.cells with
   | none => none
   | some (cs, m) => absNode ⟨s.tmps, m⟩ i off cs κ
  | _ => none
 else none
def eqFs (tt : Tab) (E : Nat → List AC → List AC → Option Bool) : List (Nat × Nat) → List AC → List AC → Option Bool
 | [], _, _ => some true
 | (off, U) :: r, a, b => match cut a off (tt.size U), cut b off (tt.size U) with
  | some a', some b' => match E U a' b', eqFs tt E r a b with
   | some z, some z' => some (z && z')
   | _, _ => none
  | _, _ => none
def eqT (tt : Tab) : Nat → Nat → List AC → List AC → Option Bool
 | 0, _, _, _ => none
 | n + 1, T, a, b => match tt T with
  | some i => match i.d with
   | .int _ => match a, b with
    | [.int k x], [.int k' y] => if k = k' then some (eqI x y) else none
    | _, _ => none
   | .bool => match a, b with
    | [.bool x], [.bool y] => some (x == y)
    | _, _ => none
   | .str => match a, b with
    | [.str x], [.str y] => some (x.toList == y.toList)
    | _, _ => none
   | .struct fs => if i.eq = true then eqFs tt (eqT tt n) fs a b else none
   | _ => none
  | none => none
def fillK (place : Nat → Option (Nat × Nat)) : List AC → List (Nat × AV) → Option (List AC)
 | l, [] => some l
 | l, (i, v) :: r =>
  match place i, v with
  | some (off, size), .one .any => none
  | some (off, size), .tup _ => none
  | some (off, size), v => if v.cells.length = size ∧ off + size ≤ l.length then fillK place (setCells l off v.cells) r else none
  | none, _ => none
def placeS (tt : Tab) (fs : List (Nat × Nat)) (j : Nat) : Option (Nat × Nat) := match fs[j]? with
 | some (off, U) => some (off, tt.size U)
 | none => none
def rep (n : Nat) (l : List AC) : List AC := match n with
 | 0 => []
 | n + 1 => l ++ rep n l
def unflatN (t : Ty) : Nat → List AC → Option (List t.den)
 | 0, [] => some []
 | 0, _ :: _ => none
 | n + 1, l => match unflat t l with
  | some (x, r) => match unflatN t n r with
   | some xs => some (x :: xs)
   | none => none
  | none => none
def absBin (s : St) (op : BinOp) (T : Nat) (x y : AV) (κ : AV → Option R) : Option R :=
 match x, y with
 | .one (.int k a), .one (.int k' b) =>
  match op with
  | .shl => bif ltI b 0 then none else κ (.one (.int k (k.wrap (a * 2 ^ (min b.toNat k.bits)))))
  | .shr => bif ltI b 0 then none else κ (.one (.int k (a.fdiv (2 ^ (min b.toNat k.bits)))))
  | .quo => if k = k' then (bif eqI b 0 then none else κ (.one (.int k (k.wrap (a.tdiv b))))) else none
  | .rem => if k = k' then (bif eqI b 0 then none else κ (.one (.int k (a.tmod b)))) else none
  | _ => if k = k' then (match binI op k a b with
   | some c => κ (.one c)
   | none => none) else none
 | .one (.bool a), .one (.bool b) =>
  match tt.td T with
  | .bool => match op with
   | .eql => κ (.one (.bool (a == b)))
   | .neq => κ (.one (.bool (!(a == b))))
   | _ => none
  | _ => none
 | .one (.str a), .one (.str b) =>
  match op with
  | .add => chk (decide (a.size + b.size ≤ 9223372036854775807)) (κ (.one (.str (a ++ b))))
  | .eql => κ (.one (.bool (a.toList == b.toList)))
  | .neq => κ (.one (.bool (!(a.toList == b.toList))))
  | .lss => κ (.one (.bool (Op.bytesLess a.toList b.toList)))
  | .leq => κ (.one (.bool (Op.bytesLess a.toList b.toList || a.toList == b.toList)))
  | .gtr => κ (.one (.bool (!(Op.bytesLess a.toList b.toList || a.toList == b.toList))))
  | .geq => κ (.one (.bool (!Op.bytesLess a.toList b.toList)))
  | _ => none
 | .agg a, .agg b => match tt.isAgg T, eqT tt 6 T a b with
  | some true, some z => match op with
   | .eql => κ (.one (.bool z))
   | .neq => κ (.one (.bool (!z)))
   | _ => none
  | _, _ => none
 | .one a, .one b => match AC.isNil (tt.td T) a b with
  | some z => match op with
   | .eql => κ (.one (.bool z))
   | .neq => κ (.one (.bool (!z)))
   | _ => none
  | none => none
 | _, _ => none
def absLen (s : St) (T : Nat) (x : AV) (κ : AV → Option R) : Option R :=
 match tt.td T with
 | .array n _ => κ (.one (.int .i64 n))
 | .slice _ => match x with
  | .one (.str _) => none
  | .one c => match c.lenI s with
   | some n => κ (.one (.int .i64 n))
   | none => none
  | _ => none
 | .str => match x with
  | .one (.str b) => κ (.one (.int .i64 (b.size : Int)))
  | _ => none
 | _ => none
def bySl (T : Nat) : Bool := Nat.beq T 140
def strT (T : Nat) : Bool := Nat.beq T 9
def keyIn (ag : Bool) (t : Ty) (v : AV) : Option t.den := match ag, v with
 | true, .agg l => unflatAll t l
 | false, .one .any => none
 | false, .one c => unflatAll t [c]
 | _, _ => none
def bt (s : ByteArray) (i : Int) : Int := if h : i.toNat < s.size then ((s[i.toNat]'h).toNat : Int) else 0
def AC.news (s : St) : AC → Option ((t : Ty) × List t.den)
 | .fro _ t xs => some ⟨t, xs⟩
 | .frn _ t xs => some ⟨t, xs⟩
 | .own n => match s.mem[n]? with
  | some (.row _ t xs) => some ⟨t, xs⟩
  | _ => none
 | _ => none
def newsOf (s : St) (t : Ty) (y : AC) : Option (List t.den) :=
 match y with
 | .nilS => some []
 | y => match y.news s with
  | some ⟨u, ys⟩ => if h : u = t then some (h ▸ ys) else none
  | none => none
def absAppend (s : St) (d : Option Nat) (S : Nat) (x y : AC) (κ : St → Option R) : Option R :=
 match tt.td S with
 | .slice e =>
  match tt e with
  | some i => match i.ty with
   | some t =>
    if 0 < i.size ∧ 0 < i.bytes then
    match newsOf s t y with
    | none => none
    | some ys =>
     match x with
     | .nilS => chk (capOk i.bytes ys.length) (κ ((⟨s.tmps, s.mem ++ [.row e t ys]⟩ : St).put d (.one (.own s.mem.length))))
     | .own n => match s.mem[n]? with
      | some (.row e' u xs) =>
       if h : e' = e ∧ u = t then
        if y.nm = some n then none
        else chk (capOk i.bytes (xs.length + ys.length)) (κ ((⟨s.tmps, s.mem.set n .gone ++ [.row e t ((h.2 ▸ xs) ++ ys)]⟩ : St).put d (.one (.own s.mem.length))))
       else none
      | _ => none
     | .kd j m => if h : t = .nod then (if i.size = 1 then absGrow s d e i.bytes j m (h ▸ ys : List Ty.nod.den) κ else none) else none
     | _ => none
    else none
   | none => none
  | none => none
 | _ => none
def opSame : Operand → Operand → Bool
 | .tmp a, .tmp b => a == b
 | .const (.int .i64 a), .const (.int .i64 b) => decide (a = b)
 | _, _ => false
def absMM (mx : Bool) (k : IntKind) : Int → List AV → Option AC
 | a, [] => some (.int k a)
 | a, .one (.int k' b) :: r => if k = k' then absMM mx k (bif (bif mx then ltI a b else ltI b a) then b else a) r else none
 | _, _ => none
def absMinMax (mx : Bool) : List AV → Option AC
 | .one (.int k a) :: r => absMM mx k a r
 | _ => none
def absOp (s : St) (o : Oper) (κ : St → Option R) : Option R :=
 match o.op with
 | .move x => κ (s.put o.dst (s.ev x))
 | .assign x => κ (s.put o.dst (s.ev x))
 | .pick c a b => match s.ev c with
  | .one (.bool z) => match s.ev a, s.ev b with
   | .one (.bool p), .one (.bool q) => κ (s.put o.dst (.one (.bool (bif z then p else q))))
   | p, q => bif z then κ (s.put o.dst p) else κ (s.put o.dst q)
  | _ => none
 | .alloc T => match tt T with
  | some i => match allocA T i.zero s.mem with
   | some (m, j) => κ ((⟨s.tmps, m⟩ : St).put o.dst (.one (.np j 0)))
   | none => κ ((⟨s.tmps, s.mem ++ [.var T i.zero]⟩ : St).put o.dst (.one (.ptr s.mem.length 0)))
  | none => none
 | .box T x => match s.ev x with
  | .tup _ => none
  | .one .any => none
  | v => match allocA T v.cells s.mem with
   | some (m, j) => κ ((⟨s.tmps, m⟩ : St).put o.dst (.one (.np j 0)))
   | none => κ ((⟨s.tmps, s.mem ++ [.var T v.cells]⟩ : St).put o.dst (.one (.ptr s.mem.length 0)))
 | .build T parts => match tt T with
  | some i => match i.d with
   | .struct fs => match fillK (placeS tt fs) i.zero (parts.toList.map fun p => (p.1, s.ev p.2)) with
    | some l => κ (s.put o.dst (.agg l))
    | none => none
   | .array _ e => match fillK (fun j => some (j * tt.size e, tt.size e)) i.zero (parts.toList.map fun p => (p.1, s.ev p.2)) with
    | some l => κ (s.put o.dst (.agg l))
    | none => none
   | _ => none
  | none => none
 | .buildSlice T n parts => match tt.td T with
  | .slice e => match tt e with
   | some i => match i.ty with
    | some .nod => if i.size = 1 ∧ n = 1 then
     (match parts.toList.map fun p => (p.1, s.ev p.2) with
     | [(0, .one (.ptr k 0))] => match pushA k s.mem with
      | some (m, j) => κ ((⟨s.tmps, m ++ [.row e .nod [j]]⟩ : St).put o.dst (.one (.own m.length)))
      | none => none
     | [(0, .one c)] => match unflatAll .nod [c] with
      | some j => κ ((⟨s.tmps, s.mem ++ [.row e .nod [j]]⟩ : St).put o.dst (.one (.own s.mem.length)))
      | none => none
     | _ => none) else none
    | some t => if 0 < i.size ∧ n * i.size ≤ 16777216 then
     match fillK (fun j => some (j * i.size, i.size)) (rep n i.zero) (parts.toList.map fun p => (p.1, s.ev p.2)) with
     | some l => match frz s.mem l with
      | some (l', m) => match unflatN t n l' with
       | some xs => κ ((⟨s.tmps, m ++ [.row e t xs]⟩ : St).put o.dst (.one (.own m.length)))
       | none => none
      | none => none
     | none => none
     else none
    | none => none
   | none => none
  | _ => none
 | .load T a => match s.ev a with
  | .one p => absLoad tt s T p fun v => κ (s.put o.dst v)
  | _ => none
 | .store T a x => match o.dst, s.ev a with
  | none, .one p => absStore tt s T p (s.ev x) κ
  | _, _ => none
 | .nilCheck x => match s.ev x with
  | .one (.ptr n i) => κ (s.put o.dst (.one (.ptr n i)))
  | .one (.fp t x i) => κ (s.put o.dst (.one (.fp t x i)))
  | .one (.ep n i z j) => κ (s.put o.dst (.one (.ep n i z j)))
  | .one (.fn f) => κ (s.put o.dst (.one (.fn f)))
  | .one (.nr i) => chk (leI 0 i) (κ (s.put o.dst (.one (.np i 0))))
  | .one (.np i j) => κ (s.put o.dst (.one (.np i j)))
  | _ => none
 | .binOp op T x y _ => absBin tt s op T (s.ev x) (s.ev y) fun v => κ (s.put o.dst v)
 | .unOp op _ x => match op, s.ev x with
  | .neg, .one (.int k n) => κ (s.put o.dst (.one (.int k (k.wrap (0 - n)))))
  | .xor, .one (.int k n) => κ (s.put o.dst (.one (.int k (Go.bits .xor k (if k.signed then -1 else k.max) n))))
  | .not, .one (.bool b) => κ (s.put o.dst (.one (.bool (!b))))
  | _, _ => none
 | .convert src dst x => match tt.td src, tt.td dst, s.ev x with
  | .int _, .int k, .one (.int _ n) => κ (s.put o.dst (.one (.int k (k.wrap n))))
  | .str, .str, .one (.str b) => κ (s.put o.dst (.one (.str b)))
  | .slice e, .str, .one (.own n) => match s.mem[n]? with
   | some (.row _ (.int .u8) xs) => bif bySl src then (match tt.td e with
    | .int .u8 => κ (s.put o.dst (.one (.str (strOfNums xs))))
    | _ => none) else none
   | _ => none
  | .slice e, .str, .one (.vwh n lo hi sz) => match s.mem[n]? with
   | some (.row _ (.int .u8) xs) => bif bySl src && Nat.beq sz 1 then (match tt.td e with
    | .int .u8 => κ (s.put o.dst (.one (.str (strOfNums ((xs.take hi.toNat).drop lo.toNat)))))
    | _ => none) else none
   | _ => none
  | _, _, _ => none
 | .makeInterface X x => match tt.td X, (tt X).bind (·.meth), s.ev x with
  | .struct _, some (_, _, t), .agg l => match unflatAll t l with
   | some d => κ (s.put o.dst (.one (.ifc X t d)))
   | none => none
  | _, _, _ => none
 | .makeMap M none => match tt.td M with
  | .map K E => match (tt K).bind (·.key), (tt E).bind (·.key) with
   | some kk, some vv => κ ((⟨s.tmps, s.mem ++ [.mapo kk.1 vv.1 kk.2 vv.2 []]⟩ : St).put o.dst (.one (.own s.mem.length)))
   | _, _ => none
  | _ => none
 | .lookup M m x ok => match tt.td M, s.ev m with
  | .map K E, .one (.own n) => match s.mem[n]? with
   | some (.mapo ka va kt vt xs) => match (tt K).bind (·.key), (tt E).bind (·.key), keyIn ka kt (s.ev x) with
    | some kk, some vv, some k => if kk = (ka, kt) ∧ vv = (va, vt) then
      chk (okKey kt k) (match ok with
       | false => κ (s.put o.dst (AV.ofComp (va, flat vt ((mget (eqD kt) xs k).getD vt.dflt))))
       | true => κ (s.put o.dst (.tup [(va, flat vt ((mget (eqD kt) xs k).getD vt.dflt)), (false, [.bool (mget (eqD kt) xs k).isSome])])))
     else none
    | _, _, _ => none
   | _ => none
  | _, _ => none
 | .mapUpdate M m x y => match o.dst, tt.td M, s.ev m with
  | none, .map K E, .one (.own n) => match s.mem[n]? with
   | some (.mapo ka va kt vt xs) => match (tt K).bind (·.key), (tt E).bind (·.key), keyIn ka kt (s.ev x), keyIn va vt (s.ev y) with
    | some kk, some vv, some k, some v => if kk = (ka, kt) ∧ vv = (va, vt) then chk (okKey kt k) (κ ⟨s.tmps, s.mem.set n (.mapo ka va kt vt (mput (eqD kt) xs k v))⟩) else none
    | _, _, _, _ => none
   | _ => none
  | _, _, _ => none
 | .makeSlice T l c => match tt.td T, s.ev l, s.ev c with
  | .slice e, .one (.int .i64 a), .one (.int .i64 b) => match tt e with
   | some i => match i.ty with
    | some t => if 0 < i.size ∧ opSame l c = true then
      chk (leI 0 a && (decide (a.toNat ≤ 140737488355328) && capOk i.bytes a.toNat)) (κ ((⟨s.tmps, s.mem ++ [.row e t (List.replicate a.toNat t.dflt)]⟩ : St).put o.dst (.one (.own s.mem.length))))
     else if 0 < i.size then
      chk (eqI a 0 && (leI 0 b && (decide (b.toNat ≤ 140737488355328) && capOk i.bytes b.toNat))) (κ ((⟨s.tmps, s.mem ++ [.row e t []]⟩ : St).put o.dst (.one (.own s.mem.length))))
     else none
    | none => none
   | none => none
  | _, _, _ => none
 | .slice T x lo hi mx => match mx with
  | some _ => none
  | none => match tt.td T, s.ev x with
   | .str, .one (.str b) =>
    match s.bnd lo 0, s.bnd hi (b.size : Int) with
    | some l, some h => chk (leI 0 l && (leI l h && leI h (b.size : Int))) (κ (s.put o.dst (.one (.str (b.extract l.toNat h.toNat)))))
    | _, _ => none
   | .slice e0, .one (.fro e t xs) =>
    match s.bnd lo 0, s.bnd hi (xs.length : Int) with
    | some l, some h => if tt.size e0 = t.size then chk (leI 0 l && (leI l h && leI h (xs.length : Int))) (κ (s.put o.dst (.one (.fro e t ((xs.take h.toNat).drop l.toNat))))) else none
    | _, _ => none
   | .slice e0, .one (.own n) => match s.mem[n]? with
    | some (.row e t xs) => if tt.size e0 = t.size then (match lo, hi with
     | none, some q => match s.bnd (some q) 0 with
      | some h => bif strT T then none else chk (leI 0 h && leI h (xs.length : Int)) (κ ((⟨s.tmps, s.mem.set n .gone ++ [.row e t (xs.take h.toNat)]⟩ : St).put o.dst (.one (.own s.mem.length))))
      | none => none
     | some q, none => match s.bnd (some q) 0 with
      | some l => chk (leI 0 l && leI l (xs.length : Int)) (κ (s.put o.dst (.one (.vw n l t.size))))
      | none => none
     | some q1, some q2 => match s.bnd (some q1) 0, s.bnd (some q2) 0 with
      | some l, some h => chk (leI 0 l && (leI l h && leI h (xs.length : Int))) (κ (s.put o.dst (.one (.vwh n l h t.size))))
      | _, _ => none
     | _, _ => none) else none
    | _ => none
   | _, _ => none
 | .fieldAddr T x f => match tt.td T with
  | .struct fs => match fs[f]?, s.ev x with
   | some (off, U), .one (.ptr n i) => if 0 < tt.size U then κ (s.put o.dst (.one (.ptr n (i + off)))) else none
   | some (off, U), .one (.fp t x i) => if 0 < tt.size U then κ (s.put o.dst (.one (.fp t x (i + off)))) else none
   | some (off, U), .one (.ep n i z j) => if 0 < tt.size U then κ (s.put o.dst (.one (.ep n i z (j + off)))) else none
   | some (off, U), .one (.np i j) => if 0 < tt.size U then κ (s.put o.dst (.one (.np i (j + off)))) else none
   | _, _ => none
  | _ => none
 | .field T x f => match tt.td T with
  | .struct fs => match fs[f]?, s.ev x with
   | some (off, U), .agg l => match tt.isAgg U, cut l off (tt.size U) with
    | some ag, some l' => match mkv ag l' with
     | some v => κ (s.put o.dst v)
     | none => none
    | _, _ => none
   | _, _ => none
  | _ => none
 | .indexAddr T x ix => match s.ev ix with
  | .one (.int _ i) => match tt.td T, s.ev x with
   | .slice e, .one (.fro e' t xs) =>
    if tt.size e = t.size then chk (leI 0 i && ltI i (xs.length : Int)) (κ (s.put o.dst (.one (.fp t (rdd t xs i) 0)))) else none
   | .slice e, .one (.own n) => match s.mem[n]? with
    | some (.row _ t xs) => if tt.size e = t.size then chk (leI 0 i && ltI i (xs.length : Int)) (κ (s.put o.dst (.one (.ep n i t.size 0)))) else none
    | _ => none
   | .slice e, .one (.vw n lo sz) => match s.mem[n]? with
    | some (.row _ t xs) => if tt.size e = t.size ∧ t.size = sz then chk (leI 0 i && ltI (lo + i) (xs.length : Int)) (κ (s.put o.dst (.one (.ep n (lo + i) t.size 0)))) else none
    | _ => none
   | .slice e, .one (.kd p n) => if tt.size e = 1 then chk (leI 0 i && ltI i n) (κ (s.put o.dst (.one (.ke p n i)))) else none
   | .array n e, .one (.ptr m off) => selK n 0 i fun j => κ (s.put o.dst (.one (.ptr m (off + j * tt.size e))))
   | .array n e, .one (.fp t x off) => selK n 0 i fun j => κ (s.put o.dst (.one (.fp t x (off + j * tt.size e))))
   | .array n e, .one (.ep m q z off) => selK n 0 i fun j => κ (s.put o.dst (.one (.ep m q z (off + j * tt.size e))))
   | _, _ => none
  | _ => none
 | .index T x ix => match s.ev ix with
  | .one (.int _ i) => match tt.td T, s.ev x with
   | .array n e, .agg l => selK n 0 i fun j => match tt.isAgg e, cut l (j * tt.size e) (tt.size e) with
    | some ag, some l' => match mkv ag l' with
     | some v => κ (s.put o.dst v)
     | none => none
    | _, _ => none
   | .str, .one (.str b) => chk (leI 0 i && ltI i (b.size : Int)) (κ (s.put o.dst (.one (.int .u8 (bt b i)))))
   | _, _ => none
  | _ => none
 | .makeFunc fn fi ca => match fn, fi.toList, ca.toList with
  | .func f, [], [x] => match s.ev x with
   | .one (.ptr n off) => if off = 0 then κ (s.put o.dst (.one (.clo f n))) else none
   | _ => none
  | _, _, _ => none
 | .extract x i => match s.ev x with
  | .tup l => match l[i]? with
   | some p => κ (s.put o.dst (AV.ofComp p))
   | none => none
  | _ => none
 | .call c => match c.callee with
  | .builtin b => match b, c.args.toList, c.argTypes.toList with
   | .len, [x], [T] => absLen tt s T (s.ev x) fun v => κ (s.put o.dst v)
   | .append, [x, y], [S, S'] => if S = S' then match s.ev x, s.ev y with
     | .one p, .one q => absAppend tt s o.dst S p q κ
     | _, _ => none
    else none
   | .clear, [x], [T] => match tt.td T, s.ev x with
    | .slice e0, .one (.vw n lo sz) => match s.mem[n]? with
     | some (.row e t xs) => match tt e0 with
      | some i => if ((e0 = e ∧ t.size = sz) ∧ 0 < t.size) ∧ i.ty = some t then κ ((⟨s.tmps, s.mem.set n (.row e t (xs.take lo.toNat ++ List.replicate (xs.length - lo.toNat) t.dflt))⟩ : St).put o.dst (.tup [])) else none
      | none => none
     | _ => none
    | _, _ => none
   | .min, l, _ => match absMinMax false (l.map s.ev) with
    | some c => κ (s.put o.dst (.one c))
    | none => none
   | .max, l, _ => match absMinMax true (l.map s.ev) with
    | some c => κ (s.put o.dst (.one c))
    | none => none
   | _, _, _ => none
  | .value f => match s.ev f with
   | .one (.fn g) => Γ R g (c.args.toList.map s.ev) s.mem fun v m ch => κ ((⟨s.tmps.map (AV.sbs ch), m⟩ : St).put o.dst v)
   | .one (.clo g n) => Γ R g (c.args.toList.map s.ev ++ [.one (.ptr n 0)]) s.mem fun v m ch => κ ((⟨s.tmps.map (AV.sbs ch), m⟩ : St).put o.dst v)
   | .one (.cfr g t x) => Γ R g (c.args.toList.map s.ev ++ [.one (.fp t x 0)]) s.mem fun v m ch => κ ((⟨s.tmps.map (AV.sbs ch), m⟩ : St).put o.dst v)
   | _ => none
  | .invoke q name => match s.ev q with
   | .one (.ifc T t x) => match (tt T).bind (·.meth) with
    | some (nm, g, _) => bif decide (nm = name) then (Γ R g (.agg (flat t x) :: c.args.toList.map s.ev) s.mem fun v m ch => κ ((⟨s.tmps.map (AV.sbs ch), m⟩ : St).put o.dst v)) else none
    | none => none
   | _ => none
 | _ => none
def absOps (ops : Array Oper) : List Oper → St → (St → Option R) → Option R
 | [], s, κ => κ s
 | o :: rest, s, κ => frc ops s fun s =>
  match o.guard with
  | none => absOp tt Γ s o fun s' => absOps ops rest s' κ
  | some (j, want) =>
   match (ops[j]?).bind (·.dst) with
   | some d => match s.tmps[d]? with
    | some (.one (.bool b)) => match want with
     | true => bif b then (absOp tt Γ (s.put (some d) (.one (.bool true))) o fun s' => absOps ops rest s' κ)
       else absOps ops rest ((s.put (some d) (.one (.bool false))).put o.dst (.tup [])) κ
     | false => bif b then absOps ops rest ((s.put (some d) (.one (.bool true))).put o.dst (.tup [])) κ
       else (absOp tt Γ (s.put (some d) (.one (.bool false))) o fun s' => absOps ops rest s' κ)
    | some (.tup []) => absOps ops rest (s.put o.dst (.tup [])) κ
    | _ => none
   | none => none
structure LoopAnn where
 keep : List Nat
 conv : List (Nat × Nat)
 convC : List (Nat × Nat × Nat)
 sw : List (Bool × Nat × Nat × Nat)
 kill : List Nat
 m0 : Nat
 un : Bool
def AC.below (m : Nat) (c : AC) : Bool := match c.nm with
 | some n => decide (n < m)
 | none => true
def AV.below (m : Nat) : AV → Bool
 | .one c => c.below m
 | .agg l => l.all (AC.below m)
 | .tup l => l.all fun p => p.2.all (AC.below m)
def AO.below (m : Nat) : AO → Bool
 | .var _ l => l.all (AC.below m)
 | _ => true
def maskT (keep : List Nat) : Nat → List AV → List AV
 | _, [] => []
 | j, v :: r => (if keep.contains j then v else .one .any) :: maskT keep (j + 1) r
def convT (e : Nat) (j : Nat) (s : St) : Option St :=
 match s.tmps[j]? with
 | some (.one .nilS) => match tt e with
  | some i => match i.ty with
   | some t => if i.size = t.size then some (⟨s.tmps.set j (.one (.own s.mem.length)), s.mem ++ [.row e t []]⟩ : St) else none
   | none => none
  | none => none
 | some (.one (.own _)) => some s
 | some (.one (.ptr k 0)) => match pushA k s.mem with
  | some (m, i) => some (⟨s.tmps.set j (.one (.nr i)), m⟩ : St)
  | none => none
 | some (.one (.np i 0)) => some (⟨s.tmps.set j (.one (.nr i)), s.mem⟩ : St)
 | some (.one (.nr i)) => some s
 | _ => none
def convC (e : Nat) (n off : Nat) (s : St) : Option St :=
 match s.mem[n]? with
 | some (.var T l) => match l[off]? with
  | some .nilS => match tt e with
   | some i => match i.ty with
    | some t => if i.size = t.size then some (⟨s.tmps, (s.mem.set n (.var T (l.set off (.own s.mem.length)))) ++ [.row e t []]⟩ : St) else none
    | none => none
   | none => none
  | some (.own k) => bif Nat.beq e 5000000 then (match s.mem[k]? with
    | some (.row e1 t xs) => some (⟨s.tmps, (s.mem.set k .gone).set n (.var T (l.set off (.fro e1 t xs)))⟩ : St)
    | _ => none) else some s
  | some (.fro _ _ _) => bif Nat.beq e 5000000 then some s else none
  | some (.ptr _ _) => some s
  | _ => none
 | _ => none
def convs : List (Nat × Nat) → St → Option St
 | [], s => some s
 | (j, e) :: r, s => match convT tt e j s with
  | some s' => convs r s'
  | none => none
def convCs : List (Nat × Nat × Nat) → St → Option St
 | [], s => some s
 | (n, off, e) :: r, s => match convC tt e n off s with
  | some s' => convCs r s'
  | none => none
def swN (n t k : Nat) : Nat := bif Nat.beq k n then t else bif Nat.beq k t then n else k
def AC.swp (n t : Nat) : AC → AC
 | .own k => .own (swN n t k)
 | .vw k lo z => .vw (swN n t k) lo z
 | .vwh k lo hi z => .vwh (swN n t k) lo hi z
 | .ptr k off => .ptr (swN n t k) off
 | .ep k i z off => .ep (swN n t k) i z off
 | .clo f k => .clo f (swN n t k)
 | c => c
def AV.swp (n t : Nat) : AV → AV
 | .one c => .one (c.swp n t)
 | .agg l => .agg (l.map (AC.swp n t))
 | .tup l => .tup (l.map fun p => (p.1, p.2.map (AC.swp n t)))
def AO.swp (n t : Nat) : AO → AO
 | .var T l => .var T (l.map (AC.swp n t))
 | o => o
def St.swp (n t : Nat) (s : St) : Option St :=
 match s.mem[n]?, s.mem[t]? with
 | some a, some b => some ⟨s.tmps.map (AV.swp n t), ((s.mem.set n b).set t a).map (AO.swp n t)⟩
 | _, _ => none
def swPlace (p : Bool × Nat × Nat × Nat) (s : St) : Option AC :=
 match p.1 with
  | false => match s.tmps[p.2.1]? with
   | some (.one c) => some c
   | some _ => none
   | none => match findA s.mem with
    | some n => some (.own n)
    | none => none
  | true => match s.mem[p.2.1]? with
   | some (.var _ l) => l[p.2.2.1]?
   | _ => none
def mvRow (p : Bool × Nat × Nat × Nat) (n : Nat) (s : St) : Option St :=
 match s.mem[n]? with
 | some (.var _ _) => none
 | some .gone => none
 | some o => match p.1 with
  | false => some ⟨s.tmps.set p.2.1 (.one (.own s.mem.length)), s.mem.set n .gone ++ [o]⟩
  | true => match s.mem[p.2.1]? with
   | some (.var T l) => some ⟨s.tmps, (s.mem.set n .gone).set p.2.1 (.var T (l.set p.2.2.1 (.own s.mem.length))) ++ [o]⟩
   | _ => none
 | none => none
def sw1 (N0 : Nat) (p : Bool × Nat × Nat × Nat) (s : St) : Option St :=
 match swPlace p s with
 | some (.own n) => bif Nat.beq n p.2.2.2 then some s else bif Nat.ble N0 n then (bif Nat.ble N0 p.2.2.2 then s.swp n p.2.2.2 else none)
  else match mvRow p n s with
   | some s' => bif Nat.beq s.mem.length p.2.2.2 then some s' else bif Nat.ble N0 s.mem.length && Nat.ble N0 p.2.2.2 then s'.swp s.mem.length p.2.2.2 else none
   | none => none
 | _ => none
def sws (N0 : Nat) : List (Bool × Nat × Nat × Nat) → St → Option St
 | [], s => some s
 | p :: r, s => match sw1 N0 p s with
  | some s' => sws N0 r s'
  | none => none
def kills : List Nat → List AO → List AO
 | [], m => m
 | n :: r, m => kills r (m.set n .gone)
def padTo (n : Nat) (s : St) : St := ⟨s.tmps, s.mem ++ List.replicate (n - s.mem.length) .gone⟩
def normK (N0 : Nat) (A : LoopAnn) (s : St) (κ : St → Option R) : Option R :=
 match convs tt A.conv s with
 | none => none
 | some s1 => match convCs tt A.convC s1 with
  | none => none
  | some s2 => match sws N0 A.sw (padTo A.m0 s2) with
   | none => none
   | some s3 =>
    let t := maskT A.keep 0 s3.tmps
    let m := (kills A.kill s3.mem).take A.m0
    if (t.all (AV.below A.m0) && m.all (AO.below A.m0)) && (Nat.ble N0 A.m0 && A.kill.all (fun n => Nat.ble N0 n)) then κ ⟨t, m⟩ else none
def splitR (a : Option LoopAnn) (s : St) (κ : St → Option R) : Option R :=
 match a with
 | none => κ s
 | some a => match a.keep with
  | [d] => match s.tmps[d]? with
   | some (.one (.int k i)) => selK a.m0 0 i fun j => κ (s.put (some d) (.one (.int k (j : Int))))
   | _ => none
  | _ => none
def loopKey : List Item → Nat
 | .inBlock id :: _ => id
 | _ => 0
def quietOp (o : Oper) : Bool :=
 match o.op with
 | .move _ | .assign _ | .build .. | .pick .. | .load .. | .nilCheck _ | .binOp .. | .unOp .. | .fieldAddr .. | .field .. | .indexAddr .. | .index .. | .extract .. => true
 | .convert src _ _ => !bySl src
 | .slice T _ lo hi _ => strT T || (lo.isSome || hi.isNone)
 | .call { callee := .builtin .len, .. } => true
 | .call { callee := .builtin .min, .. } => true
 | .call { callee := .builtin .max, .. } => true
 | _ => false
def freeOp (o : Oper) : Bool := quietOp o && match o.op with
 | .load .. => false
 | _ => true
def imOp (im : Nat → Bool) (o : Oper) : Bool := match o.op with
 | .call { callee := .value (.func f), .. } => im f
 | .call { callee := .value (.tmp _), .. } => im 999998
 | _ => false
def growOp (o : Oper) : Bool :=
 match o.op with
 | .alloc _ | .box .. | .buildSlice .. | .makeSlice .. | .slice .. => true
 | .call { callee := .value _, .. } => true
 | _ => false
def growI (im : Nat → Bool) (o : Oper) : Bool := !imOp im o && growOp o
def bitB (m i : Nat) : Bool := Nat.beq (Nat.land (Nat.shiftRight m i) 1) 1
def lookM (M : List Nat) (j : Nat) : Nat := bif Nat.blt j M.length then M.getD (M.length - 1 - j) 0 else 0
def maskE (M : List Nat) : List Edge → Nat
 | [] => 0
 | e :: l => bif Region.binds .any e then Nat.lor (Nat.lor (Nat.shiftLeft 1 e.on) (lookM M e.on)) (maskE M l) else maskE M l
def masks : List Oper → List Nat → List Nat
 | [], M => M
 | o :: l, M => masks l (maskE M o.after.toList :: M)
def descs (ops : Array Oper) (_n : Nat) (i j : Nat) : Bool := bitB (lookM (masks ops.toList []) j) i
def isLive (m : List AO) (n : Nat) : Bool := match m[n]? with
 | some .gone => false
 | some _ => true
 | none => false
def okPl (m : List AO) (k : Nat) : AC → Bool
 | .ptr n _ => isLive m n && !Nat.beq n k
 | .ep n _ _ _ => isLive m n && !Nat.beq n k
 | .fp _ _ _ => true
 | _ => false
def okStore (s : St) (ops : Array Oper) (listed : Array Bool) (oi oj : Oper) : Bool :=
 match oi.op, oj.op with
 | .load _ (.tmp q), .store _ (.tmp p) _ => ((List.range ops.size).all fun k => listed.getD k true || match ops[k]? with
   | some ok => ok.dst != some p
   | none => true) && match s.tmps[q]?, s.tmps[p]? with
  | some (.one c), some (.one d) => match d with
   | .ptr k _ => isLive s.mem k && okPl s.mem k c
   | .ep k _ _ _ => isLive s.mem k && okPl s.mem k c
   | _ => false
  | _, _ => false
 | _, _ => false
def okApp (s : St) (ops : Array Oper) (listed : Array Bool) (oi oj : Oper) : Bool :=
 match oi.op with
 | .load _ (.tmp q) => match oj.op with
  | .call c => match c.callee, c.args.toList with
   | .builtin .append, .tmp p :: _ => ((List.range ops.size).all fun k => listed.getD k true || match ops[k]? with
     | some ok => ok.dst != some p
     | none => true) && match s.tmps[q]?, s.tmps[p]? with
    | some (.one c), some (.one d) => match d with
     | .own k => isLive s.mem k && okPl s.mem k c
     | .nilS => true
     | _ => false
    | _, _ => false
   | _, _ => false
  | _ => false
 | _ => false
def okFirst (im : Nat → Bool) (s : St) (ops : Array Oper) (listed : Array Bool) (i : Nat) : Bool :=
 match ops[i]? with
 | none => false
 | some oi => (List.range ops.size).all fun j => bif descs ops ops.size i j then !listed.getD j true else j == i || listed.getD j true || match ops[j]? with
   | some oj => oi.apart ops oj && ((freeOp oi || (quietOp oj || growI im oj)) || (okStore s ops listed oi oj || okApp s ops listed oi oj))
   | none => true
def okFirst0 (im : Nat → Bool) (ops : Array Oper) (listed : Array Bool) (i : Nat) : Bool :=
 match ops[i]? with
 | none => false
 | some oi => (List.range ops.size).all fun j => bif descs ops ops.size i j then !listed.getD j true else j == i || listed.getD j true || match ops[j]? with
   | some oj => oi.apart ops oj && (freeOp oi || (quietOp oj || growI im oj))
   | none => true
def pick0 (im : Nat → Bool) (ops : Array Oper) (listed : Array Bool) : Option Nat :=
 (Region.ready .any ops listed).find? (fun i => match ops[i]? with | some o => quietOp o && okFirst0 im ops listed i | none => false)
def pickL (im : Nat → Bool) (ops : Array Oper) (listed : Array Bool) (i d : Nat) : Option Nat :=
 (Region.ready .any ops (listed.setIfInBounds i false)).find? (fun k => (Region.ready .any ops listed).contains k && match ops[k]? with | some o => quietOp o && (o.dst != some d && (okFirst0 im ops listed k && okFirst0 im ops (listed.setIfInBounds i false) k)) | none => false)
def stepL (im : Nat → Bool) (ops : Array Oper) (D : Array Bool → St → (St → Option R) → Option R) (L : Nat → Nat → Array Bool → St → (St → Option R) → Option R) (i d : Nat) (listed : Array Bool) (s : St) (κ : St → Option R) : Option R :=
 match pickL im ops listed i d with
 | some k => match ops[k]? with
  | some o => bif k == i then none else absOps tt Γ ops [o] (s.put (some d) (.one .any)) fun s' => L i d (listed.setIfInBounds k true) s' κ
  | none => none
 | none => match Region.ready .any ops (listed.setIfInBounds i false) with
  | [k] => match ops[k]? with
   | some o => bif k == i then absOps tt Γ ops [o] (s.put (some d) (.one .any)) fun s' => D listed s' κ else none
   | none => none
  | [k1, k2] => let k := bif k1 == i then k2 else k1
   match ops[k]? with
   | some o => bif (k1 == i || k2 == i) && (!(k == i) && (o.dst != some d && Region.ready .any ops listed == [k])) then absOps tt Γ ops [o] (s.put (some d) (.one .any)) fun s' => L i d (listed.setIfInBounds k true) s' κ else none
   | none => none
  | _ => none
def stepL0 (ops : Array Oper) (D : Array Bool → St → (St → Option R) → Option R) (i d : Nat) (listed : Array Bool) (s : St) (κ : St → Option R) : Option R :=
 match Region.ready .any ops (listed.setIfInBounds i false) with
 | [k] => match ops[k]? with
  | some o => bif k == i then absOps tt Γ ops [o] (s.put (some d) (.one .any)) fun s' => D listed s' κ else none
  | none => none
 | _ => none
def isLate (s : St) (ops : Array Oper) (listed : Array Bool) (i : Nat) : Option Nat := match ops[i]? with
 | some o => match o.op, o.guard, o.dst with
  | .alloc T, none, some d => bif (listed.getD i true == false) && ((tt T).isSome && (s.tmps[d]?).isSome) then some d else none
  | _, _, _ => none
 | none => none
noncomputable def bothK {R : Type} (x y : Option R) : Option R := @ite _ (x = y) (Classical.propDecidable _) x none
theorem bothK_same {R : Type} (x : Option R) : bothK x x = x := by
 unfold bothK
 rw [if_pos rfl]
theorem bothK_spec {R : Type} {x y : Option R} {r : R} (h : bothK x y = some r) : x = some r ∧ y = some r := by
 unfold bothK at h
 by_cases e : x = y
 ·rw [if_pos e] at h; exact ⟨h, e ▸ h⟩
 ·rw [if_neg e] at h; cases h
noncomputable def allK {R : Type} : List (Option R) → Option R
 | [] => none
 | [x] => x
 | x :: l => bothK x (allK l)
theorem allK_spec {R : Type} {r : R} : ∀ {l : List (Option R)}, allK l = some r → ∀ x ∈ l, x = some r
 | [], h => by cases h
 | [x], h => by
  intro y hy
  rw [List.mem_singleton] at hy
  subst hy
  exact h
 | x :: y :: l, h => by
  obtain ⟨h1, h2⟩ := bothK_spec h
  intro z hz
  rcases List.mem_cons.1 hz with rfl | hz
  ·exact h1
  ·exact allK_spec h2 z hz
noncomputable def stepD (Γc : GamF) (im : Nat → Bool) (ops : Array Oper) (D : Array Bool → St → (St → Option R) → Option R) (L : Nat → Nat → Array Bool → St → (St → Option R) → Option R) (listed : Array Bool) (s : St) (κ : St → Option R) : Option R :=
  match pick0 im ops listed with
  | some i => match ops[i]? with
   | some o => absOps tt Γ ops [o] s fun s' => D (listed.setIfInBounds i true) s' κ
   | none => none
  | none => match (Region.ready .any ops listed).find? (fun i => match ops[i]? with | some o => quietOp o && okFirst im s ops listed i | none => false) with
  | some i => match ops[i]? with
   | some o => absOps tt Γ ops [o] s fun s' => D (listed.setIfInBounds i true) s' κ
   | none => none
  | none => match Region.ready .any ops listed with
   | [i] => match ops[i]? with
    | some o => bif imOp im o then absOps tt Γc ops [o] s (fun s' => D (listed.setIfInBounds i true) s' κ) else absOps tt Γ ops [o] s fun s' => D (listed.setIfInBounds i true) s' κ
    | none => none
   | l => match l.find? fun i => !im 999999 && (isLate tt s ops listed i).isSome with
    | some i => match isLate tt s ops listed i with
     | some d => L i d (listed.setIfInBounds i true) s κ
     | none => none
    | none => allK (l.map fun i => match ops[i]? with
     | some o => bif imOp im o then absOps tt Γc ops [o] s (fun s' => D (listed.setIfInBounds i true) s' κ) else absOps tt Γ ops [o] s fun s' => D (listed.setIfInBounds i true) s' κ
     | none => none)
noncomputable def absP (Γc : GamF) (im : Nat → Bool) (ops : Array Oper) : Nat → (Array Bool → St → (St → Option R) → Option R) × (Nat → Nat → Array Bool → St → (St → Option R) → Option R)
 | 0 => (fun listed s κ => if (Region.ready .any ops listed).isEmpty then κ s else none, stepL0 tt Γ ops (fun listed s κ => if (Region.ready .any ops listed).isEmpty then κ s else none))
 | n + 1 => (stepD tt Γ Γc im ops (absP Γc im ops n).1 (absP Γc im ops n).2, stepL tt Γ im ops (stepD tt Γ Γc im ops (absP Γc im ops n).1 (absP Γc im ops n).2) (absP Γc im ops n).2)
noncomputable def absD (Γc : GamF) (im : Nat → Bool) (ops : Array Oper) (n : Nat) : Array Bool → St → (St → Option R) → Option R := (absP tt Γ Γc im ops n).1
end
section
variable {R : Type} (tt : Tab) (Γ : Gam)
variable (A : Nat → Option LoopAnn) (N0 : Nat)
inductive BX where
 | nor
 | ret
 | exit (id : Nat)
noncomputable def evalB : Code → St → (BX → St → Option R) → Option R
 | .skip, s, κ => κ .nor s
 | .seq a b, s, κ => evalB a s fun e s' => match e with
  | .nor => evalB b s' κ
  | .ret => κ .ret s'
  | .exit j => κ (.exit j) s'
 | .cond c x y, s, κ => match s.ev c with
  | .one (.bool t) => bif t then evalB x s κ else evalB y s κ
  | _ => none
 | .block id c, s, κ => evalB c s fun e s' => match e with
  | .nor => κ .nor s'
  | .ret => κ .ret s'
  | .exit j => bif Nat.beq j id then κ .nor s' else κ (.exit j) s'
 | .exit id, s, κ => κ (.exit id) s
 | .ret, s, κ => κ .ret s
 | .region _ ops false, s, κ => stK s fun s => absOps tt Γ.c ops ops.toList s fun s' => κ .nor s'
 | _, _, _ => none
def stripB : List Item → List Item
 | .inBlock _ :: k => stripB k
 | k => k
def plainH : List Item → Bool
 | .code (.rangeFunc _ _ _ _) :: _ => false
 | _ => true
noncomputable def aftK (rec : List Item → St → Option R) (key : Nat) (k : List Item) (s : St) : Option R := match A (6000000 + key) with
 | some a => bif plainH (stripB k) then normK tt N0 a s fun s' => rec (stripB k) s' else none
 | none => none
noncomputable def rngIn (rec : List Item → St → Option R) (g : Operand) (ps : Array Tmp) (asg body : Code) (k : List Item) (s : St) : Option R :=
 match ps.toList, s.ev g with
 | [_], .one (.clo f n) => match Γ.it f, s.mem[n]?, A (5000000 + loopKey k) with
  | some it, some (.var _ [.int kb b]), some a => if kb = it.kb ∧ N0 ≤ n then
    normK tt N0 a ⟨s.tmps, s.mem.set n .gone⟩ fun s' => rec (.code (.rangeFunc g ps asg body) :: k) ⟨.one (.fn f) :: .one (.int it.kb b) :: .one (.int it.kx it.l0) :: s'.tmps, s'.mem⟩
   else none
  | _, _, _ => none
 | _, _ => none
noncomputable def rngStep (rec : List Item → St → Option R) (fin : St → Option R) (g : Operand) (ps : Array Tmp) (asg body : Code) (k : List Item) (s : St) : Option R :=
 match ps.toList, s.tmps with
 | [p], .one (.fn f) :: .one (.int _ b) :: .one (.int _ l) :: tm => match Γ.it f, A (5000000 + loopKey k) with
  | some it, some a => bif it.pre b l then aftK tt A N0 rec (loopKey k) k ⟨tm, s.mem⟩ else (it.val b l).bind fun x =>
    evalB tt Γ asg ((⟨tm, s.mem⟩ : St).put (some p) (.one (.int it.kx x))) fun e s1 => match e with
     | .nor => evalB tt Γ body s1 fun e s2 => match e with
      | .nor => bif it.post b l then aftK tt A N0 rec (loopKey k) k ⟨tm, s2.mem⟩ else normK tt N0 a ⟨tm, s2.mem⟩ fun s3 => rec (.code (.rangeFunc g ps asg body) :: k) ⟨.one (.fn f) :: .one (.int it.kb (it.nb b l)) :: .one (.int it.kx (it.nl b l)) :: s3.tmps, s3.mem⟩
      | .exit id => match exitTo id k with
       | some k' => aftK tt A N0 rec (loopKey k) k' ⟨tm, s2.mem⟩
       | none => none
      | .ret => fin ⟨tm, s2.mem⟩
     | _ => none
  | _, _ => none
 | _, _ => none
noncomputable def seg (rec : List Item → St → Option R) (fin : St → Option R) : Nat → List Item → St → Option R
 | 0, _, _ => none
 | m + 1, todo, s =>
  match todo with
  | [] => fin s
  | .inBlock _ :: k => seg rec fin m k s
  | .inLoop c :: k => match A (loopKey k) with
   | some a => bif a.un then seg rec fin m (.code c :: .inLoop c :: k) s else normK tt N0 a s fun s' => rec (.inLoop c :: k) s'
   | none => none
  | .code c :: k =>
   match c with
   | .skip => seg rec fin m k s
   | .label _ => seg rec fin m k s
   | .ret => fin s
   | .seq a b => seg rec fin m (.code a :: .code b :: k) s
   | .cond c x y => match s.ev c with
    | .one (.bool b) => bif b then seg rec fin m (.code x :: k) s else seg rec fin m (.code y :: k) s
    | _ => none
   | .block id c => seg rec fin m (.code c :: .inBlock id :: k) s
   | .loop c => match A (loopKey k) with
    | some a => bif a.un then seg rec fin m (.code c :: .inLoop c :: k) s else normK tt N0 a s fun s' => rec (.inLoop c :: k) s'
    | none => none
   | .exit id => match exitTo id k with
    | some k' => seg rec fin m k' s
    | none => none
   | .region id ops draw => stK s fun s => splitR (A (1000000 + id)) s fun s => match draw with
    | false => absOps tt Γ.c ops ops.toList s fun s' => seg rec fin m k s'
    | true => bif Region.noSelect ops then absD tt Γ.d Γ.c (fun f => (A (3000000 + f)).isSome) ops ops.size (Array.replicate ops.size false) s fun s' => seg rec fin m k s' else none
   | .rangeFunc g ps asg body => rngIn tt Γ A N0 rec g ps asg body k s
   | _ => none
  | _ => none
def segFuel : Nat := 1000000
noncomputable def run (fin : St → Option R) : Nat → List Item → St → Option R
 | 0, _, _ => none
 | n + 1, todo, s => match todo with
  | .inLoop c :: k => seg tt Γ A N0 (run fin n) fin segFuel (.code c :: .inLoop c :: k) s
  | .code (.rangeFunc g ps asg body) :: k => rngStep tt Γ A N0 (run fin n) fin g ps asg body k s
  | todo => seg tt Γ A N0 (run fin n) fin segFuel todo s
def getR (s : St) : ResultVar → Option AV
 | .tmp t => some (s.tmps.getD t (.one .any))
 | .cell p T => match s.tmps.getD p (.one .any) with
  | .one (.ptr n off) => match s.mem[n]? with
   | some (.var _ l) => match tt.isAgg T, cut l off (tt.size T) with
    | some ag, some l' => mkv ag l'
    | _, _ => none
   | _ => none
  | _ => none
def getRs (s : St) : List ResultVar → Option (List (Bool × List AC))
 | [] => some []
 | r :: l => match getR tt s r, getRs s l with
  | some v, some vs => some (v.comp :: vs)
  | _, _ => none
def resK (rs : List ResultVar) (κ : AV → List AO → Option R) (s : St) : Option R :=
 match rs with
 | [r] => match getR tt s r with
  | some v => κ v s.mem
  | none => none
 | rs => match getRs tt s rs with
  | some l => κ (.tup l) s.mem
  | none => none
noncomputable def absFn (n : Nat) (fn : Func) (args : List AV) (mem : List AO) (κ : AV → List AO → Option R) : Option R :=
 match fn.body with
 | some c => seg tt Γ A mem.length (run tt Γ A mem.length (resK tt fn.results.toList κ) n) (resK tt fn.results.toList κ) segFuel [.code c] ⟨args ++ List.replicate (fn.ntmps - args.length) (.one .any), mem⟩
 | none => none
end
inductive Dir where
 | l | r | b | t | e | w
def stackAt : List Dir → Code → List Item → List Item
 | [], .loop c, k => .inLoop c :: k
 | [], .rangeFunc q ps a b, k => .code (.rangeFunc q ps a b) :: k
 | .l :: d, .seq a b, k => stackAt d a (.code b :: k)
 | .r :: d, .seq _ b, k => stackAt d b k
 | .b :: d, .block id c, k => stackAt d c (.inBlock id :: k)
 | .t :: d, .cond _ x _, k => stackAt d x k
 | .e :: d, .cond _ _ y, k => stackAt d y k
 | .w :: d, .loop c, k => stackAt d c (.inLoop c :: k)
 | _, _, k => k
def bodyOf (fn : Func) : Code := fn.body.getD .skip
end Go.Proofs.YtfihdjjilofklaaGreat.Am
