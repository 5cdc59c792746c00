/- PRINTED by gen.py: the abstract machine evaluates the loaded code to these functions. -/
import Derived.Test.YtfihdjjilofklaaGreatEvp
set_option linter.unusedVariables false
set_option linter.unusedSimpArgs false
namespace Go.Proofs.YtfihdjjilofklaaGreat.Am
open Go
noncomputable section
variable (N : Nat)
set_option maxRecDepth 100000
def Q97.as : List MK := [.o (.own 80 qd) true, .d false tI, .d false tI, .f 60]
def Q97.rs : List (Bool × HT) := [(false, (.d .bool))]
def Q97.lc : List AC := [.own 0]
def Q97.D : DFn := ⟨Q97.as, Q97.rs, (Bool × LMv), fun x => Q97 N x.1 x.2.1 x.2.2.1, fun r o => (r.1, o.1), fun b => (b.1, ()), fun b => (b.2, ()), none⟩
theorem Q97.fit : (Q97.D N).Fit := ⟨fun _ _ => rfl, fun _ _ => rfl, by kernel_rfl, (fun _ _ h => nomatch h), by kernel_rfl⟩
noncomputable def Q97.G : Gam := gamOf [(60, Q60.D N)]
def Q97.A : LA := fun k => bif Nat.beq k 0 then some ⟨[0, 1, 2, 3, 9, 10], [], [], [], [], 1, false⟩ else bif Nat.beq k 2 then some ⟨[0, 1, 2, 3, 9, 10], [], [], [], [], 1, false⟩ else bif Nat.beq k 4 then some ⟨[0, 1, 2, 3, 9, 10, 11], [], [], [], [], 1, false⟩ else bif Nat.beq k 6 then some ⟨[0, 1, 2, 3, 9, 10, 12], [], [], [], [], 1, false⟩ else none
noncomputable def Q97.fin : St → Option (Bool × LMv) := resK tb Tryz.f97.results.toList (decRes (Q97.D N) Q97.lc)
noncomputable def Q97.k0 : List Item := stackAt [.r, .r, .l, .r, .b] (bodyOf Tryz.f97) []
def Q97.st0 (data : LMv) (a_ b_ i_ j_ : Int) (data2 : LMv) : St := ⟨[.one (.own 0), oi a_, oi b_, .one (.fn 60)] ++ rA 5 ++ [oi i_, oi j_] ++ rA 130, [.row 80 qd data2]⟩
noncomputable def Q97.k1 : List Item := stackAt [.r, .r, .l, .r, .b, .w, .r, .l, .b, .l, .b] (bodyOf Tryz.f97) []
def Q97.st1 (data : LMv) (a_ b_ i_ j_ : Int) (data2 : LMv) : St := ⟨[.one (.own 0), oi a_, oi b_, .one (.fn 60)] ++ rA 5 ++ [oi i_, oi j_] ++ rA 130, [.row 80 qd data2]⟩
noncomputable def Q97.k2 : List Item := stackAt [.r, .r, .l, .r, .b, .w, .r, .l, .b, .r, .r, .r, .r, .l, .r, .t, .r, .b] (bodyOf Tryz.f97) []
def Q97.st2 (data : LMv) (a_ b_ i_ j_ j_2 : Int) (data2 : LMv) : St := ⟨[.one (.own 0), oi a_, oi b_, .one (.fn 60)] ++ rA 5 ++ [oi i_, oi j_, oi j_2] ++ rA 129, [.row 80 qd data2]⟩
noncomputable def Q97.k3 : List Item := stackAt [.r, .r, .l, .r, .b, .w, .r, .l, .b, .r, .r, .r, .r, .r, .r, .t, .r, .b] (bodyOf Tryz.f97) []
def Q97.st3 (data : LMv) (a_ b_ i_ j_ j_2 : Int) (data2 : LMv) : St := ⟨[.one (.own 0), oi a_, oi b_, .one (.fn 60)] ++ rA 5 ++ [oi i_, oi j_, oA, oi j_2] ++ rA 128, [.row 80 qd data2]⟩
theorem Q97.step0 (rec : RK (Bool × LMv)) (data : LMv) (a_ b_ i_ j_ : Int) (data2 : LMv) : seg tb (Q97.G N) Q97.A 1 rec (Q97.fin N) segFuel (loopBody Q97.k0) (Q97.st0 data a_ b_ i_ j_ data2) = Q97.s0 N data a_ b_ (fun i_ j_ data2 => rec Q97.k0 (Q97.st0 data a_ b_ i_ j_ data2)) (fun i_ j_ data2 => rec Q97.k1 (Q97.st1 data a_ b_ i_ j_ data2)) (fun i_ j_ j_2 data2 => rec Q97.k2 (Q97.st2 data a_ b_ i_ j_ j_2 data2)) (fun i_ j_ j_2 data2 => rec Q97.k3 (Q97.st3 data a_ b_ i_ j_ j_2 data2)) i_ j_ data2 := by kernel_rfl
theorem Q97.step1 (rec : RK (Bool × LMv)) (data : LMv) (a_ b_ i_ j_ : Int) (data2 : LMv) : seg tb (Q97.G N) Q97.A 1 rec (Q97.fin N) segFuel (loopBody Q97.k1) (Q97.st1 data a_ b_ i_ j_ data2) = Q97.s1 N data a_ b_ (fun i_ j_ data2 => rec Q97.k0 (Q97.st0 data a_ b_ i_ j_ data2)) (fun i_ j_ data2 => rec Q97.k1 (Q97.st1 data a_ b_ i_ j_ data2)) (fun i_ j_ j_2 data2 => rec Q97.k2 (Q97.st2 data a_ b_ i_ j_ j_2 data2)) (fun i_ j_ j_2 data2 => rec Q97.k3 (Q97.st3 data a_ b_ i_ j_ j_2 data2)) i_ j_ data2 := by kernel_rfl
theorem Q97.step2 (rec : RK (Bool × LMv)) (data : LMv) (a_ b_ i_ j_ j_2 : Int) (data2 : LMv) : seg tb (Q97.G N) Q97.A 1 rec (Q97.fin N) segFuel (loopBody Q97.k2) (Q97.st2 data a_ b_ i_ j_ j_2 data2) = Q97.s2 N data a_ b_ (fun i_ j_ data2 => rec Q97.k0 (Q97.st0 data a_ b_ i_ j_ data2)) (fun i_ j_ data2 => rec Q97.k1 (Q97.st1 data a_ b_ i_ j_ data2)) (fun i_ j_ j_2 data2 => rec Q97.k2 (Q97.st2 data a_ b_ i_ j_ j_2 data2)) (fun i_ j_ j_2 data2 => rec Q97.k3 (Q97.st3 data a_ b_ i_ j_ j_2 data2)) i_ j_ j_2 data2 := by kernel_rfl
theorem Q97.step3 (rec : RK (Bool × LMv)) (data : LMv) (a_ b_ i_ j_ j_2 : Int) (data2 : LMv) : seg tb (Q97.G N) Q97.A 1 rec (Q97.fin N) segFuel (loopBody Q97.k3) (Q97.st3 data a_ b_ i_ j_ j_2 data2) = Q97.s3 N data a_ b_ (fun i_ j_ data2 => rec Q97.k0 (Q97.st0 data a_ b_ i_ j_ data2)) (fun i_ j_ data2 => rec Q97.k1 (Q97.st1 data a_ b_ i_ j_ data2)) (fun i_ j_ j_2 data2 => rec Q97.k2 (Q97.st2 data a_ b_ i_ j_ j_2 data2)) (fun i_ j_ j_2 data2 => rec Q97.k3 (Q97.st3 data a_ b_ i_ j_ j_2 data2)) i_ j_ j_2 data2 := by kernel_rfl
theorem Q97.entry (rec : RK (Bool × LMv)) (x : (argH Q97.as).den) : seg tb (Q97.G N) Q97.A 1 rec (Q97.fin N) segFuel [.code (bodyOf Tryz.f97)] (initSt Tryz.f97 (encArgs Q97.as x) (encMem Q97.as x)) = Q97.e N (fun i_ j_ data2 => rec Q97.k0 (Q97.st0 x.1 x.2.1 x.2.2.1 i_ j_ data2)) (fun i_ j_ data2 => rec Q97.k1 (Q97.st1 x.1 x.2.1 x.2.2.1 i_ j_ data2)) (fun i_ j_ j_2 data2 => rec Q97.k2 (Q97.st2 x.1 x.2.1 x.2.2.1 i_ j_ j_2 data2)) (fun i_ j_ j_2 data2 => rec Q97.k3 (Q97.st3 x.1 x.2.1 x.2.2.1 i_ j_ j_2 data2)) x.1 x.2.1 x.2.2.1 := by kernel_rfl
theorem Q97.runs (N : Nat) (data : LMv) (a_ b_ : Int) : ∀ n, (∀ (i_ j_ : Int) (data2 : LMv), run tb (Q97.G N) Q97.A 1 (Q97.fin N) n Q97.k0 (Q97.st0 data a_ b_ i_ j_ data2) = Q97.l0 N data a_ b_ n i_ j_ data2) ∧ (∀ (i_ j_ : Int) (data2 : LMv), run tb (Q97.G N) Q97.A 1 (Q97.fin N) n Q97.k1 (Q97.st1 data a_ b_ i_ j_ data2) = Q97.l1 N data a_ b_ n i_ j_ data2) ∧ (∀ (i_ j_ j_2 : Int) (data2 : LMv), run tb (Q97.G N) Q97.A 1 (Q97.fin N) n Q97.k2 (Q97.st2 data a_ b_ i_ j_ j_2 data2) = Q97.l2 N data a_ b_ n i_ j_ j_2 data2) ∧ (∀ (i_ j_ j_2 : Int) (data2 : LMv), run tb (Q97.G N) Q97.A 1 (Q97.fin N) n Q97.k3 (Q97.st3 data a_ b_ i_ j_ j_2 data2) = Q97.l3 N data a_ b_ n i_ j_ j_2 data2)
 | 0 => ⟨fun _ _ _ => rfl, fun _ _ _ => rfl, fun _ _ _ _ => rfl, fun _ _ _ _ => rfl⟩
 | n + 1 => by
  obtain ⟨h0, h1, h2, h3⟩ := Q97.runs N data a_ b_ n
  have e0 : (fun (i_ j_ : Int) (data2 : LMv) => run tb (Q97.G N) Q97.A 1 (Q97.fin N) n Q97.k0 (Q97.st0 data a_ b_ i_ j_ data2)) = Q97.l0 N data a_ b_ n := by funext i_ j_ data2; exact h0 i_ j_ data2
  have e1 : (fun (i_ j_ : Int) (data2 : LMv) => run tb (Q97.G N) Q97.A 1 (Q97.fin N) n Q97.k1 (Q97.st1 data a_ b_ i_ j_ data2)) = Q97.l1 N data a_ b_ n := by funext i_ j_ data2; exact h1 i_ j_ data2
  have e2 : (fun (i_ j_ j_2 : Int) (data2 : LMv) => run tb (Q97.G N) Q97.A 1 (Q97.fin N) n Q97.k2 (Q97.st2 data a_ b_ i_ j_ j_2 data2)) = Q97.l2 N data a_ b_ n := by funext i_ j_ j_2 data2; exact h2 i_ j_ j_2 data2
  have e3 : (fun (i_ j_ j_2 : Int) (data2 : LMv) => run tb (Q97.G N) Q97.A 1 (Q97.fin N) n Q97.k3 (Q97.st3 data a_ b_ i_ j_ j_2 data2)) = Q97.l3 N data a_ b_ n := by funext i_ j_ j_2 data2; exact h3 i_ j_ j_2 data2
  have g0 : (∀ (i_ j_ : Int) (data2 : LMv), run tb (Q97.G N) Q97.A 1 (Q97.fin N) (n + 1) Q97.k0 (Q97.st0 data a_ b_ i_ j_ data2) = Q97.l0 N data a_ b_ (n + 1) i_ j_ data2) := by
   intro i_ j_ data2
   exact (run_succ (by kernel_rfl)).trans ((Q97.step0 N _ data a_ b_ i_ j_ data2).trans ((congr (congr (congr (congrArg (fun r0 r1 r2 r3 => Q97.s0 N data a_ b_ r0 r1 r2 r3 i_ j_ data2) e0) e1) e2) e3).trans (Q97.l0_s N data a_ b_ n i_ j_ data2).symm))
  have g1 : (∀ (i_ j_ : Int) (data2 : LMv), run tb (Q97.G N) Q97.A 1 (Q97.fin N) (n + 1) Q97.k1 (Q97.st1 data a_ b_ i_ j_ data2) = Q97.l1 N data a_ b_ (n + 1) i_ j_ data2) := by
   intro i_ j_ data2
   exact (run_succ (by kernel_rfl)).trans ((Q97.step1 N _ data a_ b_ i_ j_ data2).trans ((congr (congr (congr (congrArg (fun r0 r1 r2 r3 => Q97.s1 N data a_ b_ r0 r1 r2 r3 i_ j_ data2) e0) e1) e2) e3).trans (Q97.l1_s N data a_ b_ n i_ j_ data2).symm))
  have g2 : (∀ (i_ j_ j_2 : Int) (data2 : LMv), run tb (Q97.G N) Q97.A 1 (Q97.fin N) (n + 1) Q97.k2 (Q97.st2 data a_ b_ i_ j_ j_2 data2) = Q97.l2 N data a_ b_ (n + 1) i_ j_ j_2 data2) := by
   intro i_ j_ j_2 data2
   exact (run_succ (by kernel_rfl)).trans ((Q97.step2 N _ data a_ b_ i_ j_ j_2 data2).trans ((congr (congr (congr (congrArg (fun r0 r1 r2 r3 => Q97.s2 N data a_ b_ r0 r1 r2 r3 i_ j_ j_2 data2) e0) e1) e2) e3).trans (Q97.l2_s N data a_ b_ n i_ j_ j_2 data2).symm))
  have g3 : (∀ (i_ j_ j_2 : Int) (data2 : LMv), run tb (Q97.G N) Q97.A 1 (Q97.fin N) (n + 1) Q97.k3 (Q97.st3 data a_ b_ i_ j_ j_2 data2) = Q97.l3 N data a_ b_ (n + 1) i_ j_ j_2 data2) := by
   intro i_ j_ j_2 data2
   exact (run_succ (by kernel_rfl)).trans ((Q97.step3 N _ data a_ b_ i_ j_ j_2 data2).trans ((congr (congr (congr (congrArg (fun r0 r1 r2 r3 => Q97.s3 N data a_ b_ r0 r1 r2 r3 i_ j_ j_2 data2) e0) e1) e2) e3).trans (Q97.l3_s N data a_ b_ n i_ j_ j_2 data2).symm))
  exact ⟨g0, g1, g2, g3⟩
theorem Q97.ok : FnOk Tryz.prog 97 (Q97.D N) := by
 refine FnOk_of tb_ok (Checked.mixed Tryz.checked) ⟨Tryz.f97, Tryz.func97, by kernel_rfl, by kernel_rfl, fun x y h => ⟨Q97.G N, Q97.A, N, gamOf_ok (gc ⟨Q60.ok N, Q60.fit N⟩ gn), ?_⟩⟩ (Q97.fit N)
 rw [absFn_n (n0 := 1) rfl (by kernel_rfl)]
 refine (Q97.entry N (run tb (Q97.G N) Q97.A 1 (Q97.fin N) N) x).trans ?_
 have e0 : (fun (i_ j_ : Int) (data2 : LMv) => run tb (Q97.G N) Q97.A 1 (Q97.fin N) N Q97.k0 (Q97.st0 x.1 x.2.1 x.2.2.1 i_ j_ data2)) = Q97.l0 N x.1 x.2.1 x.2.2.1 N := by funext i_ j_ data2; exact (Q97.runs N x.1 x.2.1 x.2.2.1 N).1 i_ j_ data2
 have e1 : (fun (i_ j_ : Int) (data2 : LMv) => run tb (Q97.G N) Q97.A 1 (Q97.fin N) N Q97.k1 (Q97.st1 x.1 x.2.1 x.2.2.1 i_ j_ data2)) = Q97.l1 N x.1 x.2.1 x.2.2.1 N := by funext i_ j_ data2; exact (Q97.runs N x.1 x.2.1 x.2.2.1 N).2.1 i_ j_ data2
 have e2 : (fun (i_ j_ j_2 : Int) (data2 : LMv) => run tb (Q97.G N) Q97.A 1 (Q97.fin N) N Q97.k2 (Q97.st2 x.1 x.2.1 x.2.2.1 i_ j_ j_2 data2)) = Q97.l2 N x.1 x.2.1 x.2.2.1 N := by funext i_ j_ j_2 data2; exact (Q97.runs N x.1 x.2.1 x.2.2.1 N).2.2.1 i_ j_ j_2 data2
 have e3 : (fun (i_ j_ j_2 : Int) (data2 : LMv) => run tb (Q97.G N) Q97.A 1 (Q97.fin N) N Q97.k3 (Q97.st3 x.1 x.2.1 x.2.2.1 i_ j_ j_2 data2)) = Q97.l3 N x.1 x.2.1 x.2.2.1 N := by funext i_ j_ j_2 data2; exact (Q97.runs N x.1 x.2.1 x.2.2.1 N).2.2.2 i_ j_ j_2 data2
 have h' : (Q97.D N).f x = Q97.e N (Q97.l0 N x.1 x.2.1 x.2.2.1 N) (Q97.l1 N x.1 x.2.1 x.2.2.1 N) (Q97.l2 N x.1 x.2.1 x.2.2.1 N) (Q97.l3 N x.1 x.2.1 x.2.2.1 N) x.1 x.2.1 x.2.2.1 := by kernel_rfl
 exact (congr (congr (congr (congrArg (fun r0 r1 r2 r3 => Q97.e N r0 r1 r2 r3 x.1 x.2.1 x.2.2.1) e0) e1) e2) e3).trans (h'.symm.trans h)
def Q98.as : List MK := [.o (.own 80 qd) true, .d false tI, .d false tI, .d false tI, .f 60]
def Q98.rs : List (Bool × HT) := [(false, (.d tI))]
def Q98.lc : List AC := [.own 0]
def Q98.D : DFn := ⟨Q98.as, Q98.rs, (Int × LMv), fun x => Q98 N x.1 x.2.1 x.2.2.1 x.2.2.2.1, fun r o => (r.1, o.1), fun b => (b.1, ()), fun b => (b.2, ()), none⟩
theorem Q98.fit : (Q98.D N).Fit := ⟨fun _ _ => rfl, fun _ _ => rfl, by kernel_rfl, (fun _ _ h => nomatch h), by kernel_rfl⟩
noncomputable def Q98.G : Gam := gamOf [(60, Q60.D N)]
def Q98.A : LA := fun k => bif Nat.beq k 0 then some ⟨[0, 1, 4, 11, 12], [], [], [], [], 1, false⟩ else bif Nat.beq k 2 then some ⟨[0, 1, 4, 11, 12], [], [], [], [], 1, false⟩ else bif Nat.beq k 4 then some ⟨[0, 1, 4, 11, 12], [], [], [], [], 1, false⟩ else none
noncomputable def Q98.fin : St → Option (Int × LMv) := resK tb Tryz.f98.results.toList (decRes (Q98.D N) Q98.lc)
noncomputable def Q98.k0 : List Item := stackAt [.r, .r, .r, .l, .b] (bodyOf Tryz.f98) []
def Q98.st0 (data : LMv) (a_ b_ pivot i_ j_ : Int) (data2 : LMv) : St := ⟨[.one (.own 0), oi a_, oA, oA, .one (.fn 60)] ++ rA 6 ++ [oi i_, oi j_] ++ rA 77, [.row 80 qd data2]⟩
noncomputable def Q98.k1 : List Item := stackAt [.r, .r, .r, .l, .b, .w, .b, .l, .b] (bodyOf Tryz.f98) []
def Q98.st1 (data : LMv) (a_ b_ pivot i_ j_ : Int) (data2 : LMv) : St := ⟨[.one (.own 0), oi a_, oA, oA, .one (.fn 60)] ++ rA 6 ++ [oi i_, oi j_] ++ rA 77, [.row 80 qd data2]⟩
noncomputable def Q98.k2 : List Item := stackAt [.r, .r, .r, .l, .b, .w, .b, .r, .l, .b] (bodyOf Tryz.f98) []
def Q98.st2 (data : LMv) (a_ b_ pivot i_ j_ : Int) (data2 : LMv) : St := ⟨[.one (.own 0), oi a_, oA, oA, .one (.fn 60)] ++ rA 6 ++ [oi i_, oi j_] ++ rA 77, [.row 80 qd data2]⟩
theorem Q98.step0 (rec : RK (Int × LMv)) (data : LMv) (a_ b_ pivot i_ j_ : Int) (data2 : LMv) : seg tb (Q98.G N) Q98.A 1 rec (Q98.fin N) segFuel (loopBody Q98.k0) (Q98.st0 data a_ b_ pivot i_ j_ data2) = Q98.s0 N data a_ b_ pivot (fun i_ j_ data2 => rec Q98.k0 (Q98.st0 data a_ b_ pivot i_ j_ data2)) (fun i_ j_ data2 => rec Q98.k1 (Q98.st1 data a_ b_ pivot i_ j_ data2)) (fun i_ j_ data2 => rec Q98.k2 (Q98.st2 data a_ b_ pivot i_ j_ data2)) i_ j_ data2 := by kernel_rfl
theorem Q98.step1 (rec : RK (Int × LMv)) (data : LMv) (a_ b_ pivot i_ j_ : Int) (data2 : LMv) : seg tb (Q98.G N) Q98.A 1 rec (Q98.fin N) segFuel (loopBody Q98.k1) (Q98.st1 data a_ b_ pivot i_ j_ data2) = Q98.s1 N data a_ b_ pivot (fun i_ j_ data2 => rec Q98.k0 (Q98.st0 data a_ b_ pivot i_ j_ data2)) (fun i_ j_ data2 => rec Q98.k1 (Q98.st1 data a_ b_ pivot i_ j_ data2)) (fun i_ j_ data2 => rec Q98.k2 (Q98.st2 data a_ b_ pivot i_ j_ data2)) i_ j_ data2 := by kernel_rfl
theorem Q98.step2 (rec : RK (Int × LMv)) (data : LMv) (a_ b_ pivot i_ j_ : Int) (data2 : LMv) : seg tb (Q98.G N) Q98.A 1 rec (Q98.fin N) segFuel (loopBody Q98.k2) (Q98.st2 data a_ b_ pivot i_ j_ data2) = Q98.s2 N data a_ b_ pivot (fun i_ j_ data2 => rec Q98.k0 (Q98.st0 data a_ b_ pivot i_ j_ data2)) (fun i_ j_ data2 => rec Q98.k1 (Q98.st1 data a_ b_ pivot i_ j_ data2)) (fun i_ j_ data2 => rec Q98.k2 (Q98.st2 data a_ b_ pivot i_ j_ data2)) i_ j_ data2 := by kernel_rfl
theorem Q98.entry (rec : RK (Int × LMv)) (x : (argH Q98.as).den) : seg tb (Q98.G N) Q98.A 1 rec (Q98.fin N) segFuel [.code (bodyOf Tryz.f98)] (initSt Tryz.f98 (encArgs Q98.as x) (encMem Q98.as x)) = Q98.e N (fun i_ j_ data2 => rec Q98.k0 (Q98.st0 x.1 x.2.1 x.2.2.1 x.2.2.2.1 i_ j_ data2)) (fun i_ j_ data2 => rec Q98.k1 (Q98.st1 x.1 x.2.1 x.2.2.1 x.2.2.2.1 i_ j_ data2)) (fun i_ j_ data2 => rec Q98.k2 (Q98.st2 x.1 x.2.1 x.2.2.1 x.2.2.2.1 i_ j_ data2)) x.1 x.2.1 x.2.2.1 x.2.2.2.1 := by kernel_rfl
theorem Q98.runs (N : Nat) (data : LMv) (a_ b_ pivot : Int) : ∀ n, (∀ (i_ j_ : Int) (data2 : LMv), run tb (Q98.G N) Q98.A 1 (Q98.fin N) n Q98.k0 (Q98.st0 data a_ b_ pivot i_ j_ data2) = Q98.l0 N data a_ b_ pivot n i_ j_ data2) ∧ (∀ (i_ j_ : Int) (data2 : LMv), run tb (Q98.G N) Q98.A 1 (Q98.fin N) n Q98.k1 (Q98.st1 data a_ b_ pivot i_ j_ data2) = Q98.l1 N data a_ b_ pivot n i_ j_ data2) ∧ (∀ (i_ j_ : Int) (data2 : LMv), run tb (Q98.G N) Q98.A 1 (Q98.fin N) n Q98.k2 (Q98.st2 data a_ b_ pivot i_ j_ data2) = Q98.l2 N data a_ b_ pivot n i_ j_ data2)
 | 0 => ⟨fun _ _ _ => rfl, fun _ _ _ => rfl, fun _ _ _ => rfl⟩
 | n + 1 => by
  obtain ⟨h0, h1, h2⟩ := Q98.runs N data a_ b_ pivot n
  have e0 : (fun (i_ j_ : Int) (data2 : LMv) => run tb (Q98.G N) Q98.A 1 (Q98.fin N) n Q98.k0 (Q98.st0 data a_ b_ pivot i_ j_ data2)) = Q98.l0 N data a_ b_ pivot n := by funext i_ j_ data2; exact h0 i_ j_ data2
  have e1 : (fun (i_ j_ : Int) (data2 : LMv) => run tb (Q98.G N) Q98.A 1 (Q98.fin N) n Q98.k1 (Q98.st1 data a_ b_ pivot i_ j_ data2)) = Q98.l1 N data a_ b_ pivot n := by funext i_ j_ data2; exact h1 i_ j_ data2
  have e2 : (fun (i_ j_ : Int) (data2 : LMv) => run tb (Q98.G N) Q98.A 1 (Q98.fin N) n Q98.k2 (Q98.st2 data a_ b_ pivot i_ j_ data2)) = Q98.l2 N data a_ b_ pivot n := by funext i_ j_ data2; exact h2 i_ j_ data2
  have g0 : (∀ (i_ j_ : Int) (data2 : LMv), run tb (Q98.G N) Q98.A 1 (Q98.fin N) (n + 1) Q98.k0 (Q98.st0 data a_ b_ pivot i_ j_ data2) = Q98.l0 N data a_ b_ pivot (n + 1) i_ j_ data2) := by
   intro i_ j_ data2
   exact (run_succ (by kernel_rfl)).trans ((Q98.step0 N _ data a_ b_ pivot i_ j_ data2).trans ((congr (congr (congrArg (fun r0 r1 r2 => Q98.s0 N data a_ b_ pivot r0 r1 r2 i_ j_ data2) e0) e1) e2).trans (Q98.l0_s N data a_ b_ pivot n i_ j_ data2).symm))
  have g1 : (∀ (i_ j_ : Int) (data2 : LMv), run tb (Q98.G N) Q98.A 1 (Q98.fin N) (n + 1) Q98.k1 (Q98.st1 data a_ b_ pivot i_ j_ data2) = Q98.l1 N data a_ b_ pivot (n + 1) i_ j_ data2) := by
   intro i_ j_ data2
   exact (run_succ (by kernel_rfl)).trans ((Q98.step1 N _ data a_ b_ pivot i_ j_ data2).trans ((congr (congr (congrArg (fun r0 r1 r2 => Q98.s1 N data a_ b_ pivot r0 r1 r2 i_ j_ data2) e0) e1) e2).trans (Q98.l1_s N data a_ b_ pivot n i_ j_ data2).symm))
  have g2 : (∀ (i_ j_ : Int) (data2 : LMv), run tb (Q98.G N) Q98.A 1 (Q98.fin N) (n + 1) Q98.k2 (Q98.st2 data a_ b_ pivot i_ j_ data2) = Q98.l2 N data a_ b_ pivot (n + 1) i_ j_ data2) := by
   intro i_ j_ data2
   exact (run_succ (by kernel_rfl)).trans ((Q98.step2 N _ data a_ b_ pivot i_ j_ data2).trans ((congr (congr (congrArg (fun r0 r1 r2 => Q98.s2 N data a_ b_ pivot r0 r1 r2 i_ j_ data2) e0) e1) e2).trans (Q98.l2_s N data a_ b_ pivot n i_ j_ data2).symm))
  exact ⟨g0, g1, g2⟩
theorem Q98.ok : FnOk Tryz.prog 98 (Q98.D N) := by
 refine FnOk_of tb_ok (Checked.mixed Tryz.checked) ⟨Tryz.f98, Tryz.func98, by kernel_rfl, by kernel_rfl, fun x y h => ⟨Q98.G N, Q98.A, N, gamOf_ok (gc ⟨Q60.ok N, Q60.fit N⟩ gn), ?_⟩⟩ (Q98.fit N)
 rw [absFn_n (n0 := 1) rfl (by kernel_rfl)]
 refine (Q98.entry N (run tb (Q98.G N) Q98.A 1 (Q98.fin N) N) x).trans ?_
 have e0 : (fun (i_ j_ : Int) (data2 : LMv) => run tb (Q98.G N) Q98.A 1 (Q98.fin N) N Q98.k0 (Q98.st0 x.1 x.2.1 x.2.2.1 x.2.2.2.1 i_ j_ data2)) = Q98.l0 N x.1 x.2.1 x.2.2.1 x.2.2.2.1 N := by funext i_ j_ data2; exact (Q98.runs N x.1 x.2.1 x.2.2.1 x.2.2.2.1 N).1 i_ j_ data2
 have e1 : (fun (i_ j_ : Int) (data2 : LMv) => run tb (Q98.G N) Q98.A 1 (Q98.fin N) N Q98.k1 (Q98.st1 x.1 x.2.1 x.2.2.1 x.2.2.2.1 i_ j_ data2)) = Q98.l1 N x.1 x.2.1 x.2.2.1 x.2.2.2.1 N := by funext i_ j_ data2; exact (Q98.runs N x.1 x.2.1 x.2.2.1 x.2.2.2.1 N).2.1 i_ j_ data2
 have e2 : (fun (i_ j_ : Int) (data2 : LMv) => run tb (Q98.G N) Q98.A 1 (Q98.fin N) N Q98.k2 (Q98.st2 x.1 x.2.1 x.2.2.1 x.2.2.2.1 i_ j_ data2)) = Q98.l2 N x.1 x.2.1 x.2.2.1 x.2.2.2.1 N := by funext i_ j_ data2; exact (Q98.runs N x.1 x.2.1 x.2.2.1 x.2.2.2.1 N).2.2 i_ j_ data2
 have h' : (Q98.D N).f x = Q98.e N (Q98.l0 N x.1 x.2.1 x.2.2.1 x.2.2.2.1 N) (Q98.l1 N x.1 x.2.1 x.2.2.1 x.2.2.2.1 N) (Q98.l2 N x.1 x.2.1 x.2.2.1 x.2.2.2.1 N) x.1 x.2.1 x.2.2.1 x.2.2.2.1 := by kernel_rfl
 exact (congr (congr (congrArg (fun r0 r1 r2 => Q98.e N r0 r1 r2 x.1 x.2.1 x.2.2.1 x.2.2.2.1) e0) e1) e2).trans (h'.symm.trans h)
def Q99.as : List MK := [.o (.own 80 qd) true, .d false tI, .d false tI, .d false tI, .f 60]
def Q99.rs : List (Bool × HT) := [(false, (.d tI)), (false, (.d .bool))]
def Q99.lc : List AC := [.own 0]
def Q99.D : DFn := ⟨Q99.as, Q99.rs, (Int × Bool × LMv), fun x => Q99 N x.1 x.2.1 x.2.2.1 x.2.2.2.1, fun r o => (r.1, r.2.1, o.1), fun b => (b.1, (b.2.1, ())), fun b => (b.2.2, ()), none⟩
theorem Q99.fit : (Q99.D N).Fit := ⟨fun _ _ => rfl, fun _ _ => rfl, by kernel_rfl, (fun _ _ h => nomatch h), by kernel_rfl⟩
noncomputable def Q99.G : Gam := gamOf [(60, Q60.D N)]
def Q99.A : LA := fun k => bif Nat.beq k 0 then some ⟨[0, 1, 4, 12, 13], [], [], [], [], 1, false⟩ else bif Nat.beq k 2 then some ⟨[0, 1, 4, 12, 13], [], [], [], [], 1, false⟩ else bif Nat.beq k 4 then some ⟨[0, 1, 4, 12, 13], [], [], [], [], 1, false⟩ else bif Nat.beq k 6 then some ⟨[0, 1, 4, 12, 13], [], [], [], [], 1, false⟩ else bif Nat.beq k 8 then some ⟨[0, 1, 4, 12, 13], [], [], [], [], 1, false⟩ else none
noncomputable def Q99.fin : St → Option (Int × Bool × LMv) := resK tb Tryz.f99.results.toList (decRes (Q99.D N) Q99.lc)
noncomputable def Q99.k0 : List Item := stackAt [.r, .r, .r, .l, .b] (bodyOf Tryz.f99) []
def Q99.st0 (data : LMv) (a_ b_ pivot i_ : Int) (data2 : LMv) : St := ⟨[.one (.own 0), oi a_, oA, oA, .one (.fn 60)] ++ rA 7 ++ [oi i_, oi (w64 (b_ - 1))] ++ rA 164, [.row 80 qd data2]⟩
noncomputable def Q99.k1 : List Item := stackAt [.r, .r, .r, .r, .l, .b] (bodyOf Tryz.f99) []
def Q99.st1 (data : LMv) (a_ b_ pivot i_ j_ : Int) (data2 : LMv) : St := ⟨[.one (.own 0), oi a_, oA, oA, .one (.fn 60)] ++ rA 7 ++ [oi i_, oi j_] ++ rA 164, [.row 80 qd data2]⟩
noncomputable def Q99.k2 : List Item := stackAt [.r, .r, .r, .r, .r, .r, .r, .r, .r, .l, .b] (bodyOf Tryz.f99) []
def Q99.st2 (data : LMv) (a_ b_ pivot i_ j_ : Int) (data2 : LMv) : St := ⟨[.one (.own 0), oi a_, oA, oA, .one (.fn 60)] ++ rA 7 ++ [oi i_, oi j_] ++ rA 164, [.row 80 qd data2]⟩
noncomputable def Q99.k3 : List Item := stackAt [.r, .r, .r, .r, .r, .r, .r, .r, .r, .l, .b, .w, .b, .l, .b] (bodyOf Tryz.f99) []
def Q99.st3 (data : LMv) (a_ b_ pivot i_ j_ : Int) (data2 : LMv) : St := ⟨[.one (.own 0), oi a_, oA, oA, .one (.fn 60)] ++ rA 7 ++ [oi i_, oi j_] ++ rA 164, [.row 80 qd data2]⟩
noncomputable def Q99.k4 : List Item := stackAt [.r, .r, .r, .r, .r, .r, .r, .r, .r, .l, .b, .w, .b, .r, .l, .b] (bodyOf Tryz.f99) []
def Q99.st4 (data : LMv) (a_ b_ pivot i_ j_ : Int) (data2 : LMv) : St := ⟨[.one (.own 0), oi a_, oA, oA, .one (.fn 60)] ++ rA 7 ++ [oi i_, oi j_] ++ rA 164, [.row 80 qd data2]⟩
theorem Q99.step0 (rec : RK (Int × Bool × LMv)) (data : LMv) (a_ b_ pivot i_ : Int) (data2 : LMv) : seg tb (Q99.G N) Q99.A 1 rec (Q99.fin N) segFuel (loopBody Q99.k0) (Q99.st0 data a_ b_ pivot i_ data2) = Q99.s0 N data a_ b_ pivot (fun i_ data2 => rec Q99.k0 (Q99.st0 data a_ b_ pivot i_ data2)) (fun i_ j_ data2 => rec Q99.k1 (Q99.st1 data a_ b_ pivot i_ j_ data2)) (fun i_ j_ data2 => rec Q99.k2 (Q99.st2 data a_ b_ pivot i_ j_ data2)) (fun i_ j_ data2 => rec Q99.k3 (Q99.st3 data a_ b_ pivot i_ j_ data2)) (fun i_ j_ data2 => rec Q99.k4 (Q99.st4 data a_ b_ pivot i_ j_ data2)) i_ data2 := by kernel_rfl
theorem Q99.step1 (rec : RK (Int × Bool × LMv)) (data : LMv) (a_ b_ pivot i_ j_ : Int) (data2 : LMv) : seg tb (Q99.G N) Q99.A 1 rec (Q99.fin N) segFuel (loopBody Q99.k1) (Q99.st1 data a_ b_ pivot i_ j_ data2) = Q99.s1 N data a_ b_ pivot (fun i_ data2 => rec Q99.k0 (Q99.st0 data a_ b_ pivot i_ data2)) (fun i_ j_ data2 => rec Q99.k1 (Q99.st1 data a_ b_ pivot i_ j_ data2)) (fun i_ j_ data2 => rec Q99.k2 (Q99.st2 data a_ b_ pivot i_ j_ data2)) (fun i_ j_ data2 => rec Q99.k3 (Q99.st3 data a_ b_ pivot i_ j_ data2)) (fun i_ j_ data2 => rec Q99.k4 (Q99.st4 data a_ b_ pivot i_ j_ data2)) i_ j_ data2 := by kernel_rfl
theorem Q99.step2 (rec : RK (Int × Bool × LMv)) (data : LMv) (a_ b_ pivot i_ j_ : Int) (data2 : LMv) : seg tb (Q99.G N) Q99.A 1 rec (Q99.fin N) segFuel (loopBody Q99.k2) (Q99.st2 data a_ b_ pivot i_ j_ data2) = Q99.s2 N data a_ b_ pivot (fun i_ data2 => rec Q99.k0 (Q99.st0 data a_ b_ pivot i_ data2)) (fun i_ j_ data2 => rec Q99.k1 (Q99.st1 data a_ b_ pivot i_ j_ data2)) (fun i_ j_ data2 => rec Q99.k2 (Q99.st2 data a_ b_ pivot i_ j_ data2)) (fun i_ j_ data2 => rec Q99.k3 (Q99.st3 data a_ b_ pivot i_ j_ data2)) (fun i_ j_ data2 => rec Q99.k4 (Q99.st4 data a_ b_ pivot i_ j_ data2)) i_ j_ data2 := by kernel_rfl
theorem Q99.step3 (rec : RK (Int × Bool × LMv)) (data : LMv) (a_ b_ pivot i_ j_ : Int) (data2 : LMv) : seg tb (Q99.G N) Q99.A 1 rec (Q99.fin N) segFuel (loopBody Q99.k3) (Q99.st3 data a_ b_ pivot i_ j_ data2) = Q99.s3 N data a_ b_ pivot (fun i_ data2 => rec Q99.k0 (Q99.st0 data a_ b_ pivot i_ data2)) (fun i_ j_ data2 => rec Q99.k1 (Q99.st1 data a_ b_ pivot i_ j_ data2)) (fun i_ j_ data2 => rec Q99.k2 (Q99.st2 data a_ b_ pivot i_ j_ data2)) (fun i_ j_ data2 => rec Q99.k3 (Q99.st3 data a_ b_ pivot i_ j_ data2)) (fun i_ j_ data2 => rec Q99.k4 (Q99.st4 data a_ b_ pivot i_ j_ data2)) i_ j_ data2 := by kernel_rfl
theorem Q99.step4 (rec : RK (Int × Bool × LMv)) (data : LMv) (a_ b_ pivot i_ j_ : Int) (data2 : LMv) : seg tb (Q99.G N) Q99.A 1 rec (Q99.fin N) segFuel (loopBody Q99.k4) (Q99.st4 data a_ b_ pivot i_ j_ data2) = Q99.s4 N data a_ b_ pivot (fun i_ data2 => rec Q99.k0 (Q99.st0 data a_ b_ pivot i_ data2)) (fun i_ j_ data2 => rec Q99.k1 (Q99.st1 data a_ b_ pivot i_ j_ data2)) (fun i_ j_ data2 => rec Q99.k2 (Q99.st2 data a_ b_ pivot i_ j_ data2)) (fun i_ j_ data2 => rec Q99.k3 (Q99.st3 data a_ b_ pivot i_ j_ data2)) (fun i_ j_ data2 => rec Q99.k4 (Q99.st4 data a_ b_ pivot i_ j_ data2)) i_ j_ data2 := by kernel_rfl
theorem Q99.entry (rec : RK (Int × Bool × LMv)) (x : (argH Q99.as).den) : seg tb (Q99.G N) Q99.A 1 rec (Q99.fin N) segFuel [.code (bodyOf Tryz.f99)] (initSt Tryz.f99 (encArgs Q99.as x) (encMem Q99.as x)) = Q99.e N (fun i_ data2 => rec Q99.k0 (Q99.st0 x.1 x.2.1 x.2.2.1 x.2.2.2.1 i_ data2)) (fun i_ j_ data2 => rec Q99.k1 (Q99.st1 x.1 x.2.1 x.2.2.1 x.2.2.2.1 i_ j_ data2)) (fun i_ j_ data2 => rec Q99.k2 (Q99.st2 x.1 x.2.1 x.2.2.1 x.2.2.2.1 i_ j_ data2)) (fun i_ j_ data2 => rec Q99.k3 (Q99.st3 x.1 x.2.1 x.2.2.1 x.2.2.2.1 i_ j_ data2)) (fun i_ j_ data2 => rec Q99.k4 (Q99.st4 x.1 x.2.1 x.2.2.1 x.2.2.2.1 i_ j_ data2)) x.1 x.2.1 x.2.2.1 x.2.2.2.1 := by kernel_rfl
theorem Q99.runs (N : Nat) (data : LMv) (a_ b_ pivot : Int) : ∀ n, (∀ (i_ : Int) (data2 : LMv), run tb (Q99.G N) Q99.A 1 (Q99.fin N) n Q99.k0 (Q99.st0 data a_ b_ pivot i_ data2) = Q99.l0 N data a_ b_ pivot n i_ data2) ∧ (∀ (i_ j_ : Int) (data2 : LMv), run tb (Q99.G N) Q99.A 1 (Q99.fin N) n Q99.k1 (Q99.st1 data a_ b_ pivot i_ j_ data2) = Q99.l1 N data a_ b_ pivot n i_ j_ data2) ∧ (∀ (i_ j_ : Int) (data2 : LMv), run tb (Q99.G N) Q99.A 1 (Q99.fin N) n Q99.k2 (Q99.st2 data a_ b_ pivot i_ j_ data2) = Q99.l2 N data a_ b_ pivot n i_ j_ data2) ∧ (∀ (i_ j_ : Int) (data2 : LMv), run tb (Q99.G N) Q99.A 1 (Q99.fin N) n Q99.k3 (Q99.st3 data a_ b_ pivot i_ j_ data2) = Q99.l3 N data a_ b_ pivot n i_ j_ data2) ∧ (∀ (i_ j_ : Int) (data2 : LMv), run tb (Q99.G N) Q99.A 1 (Q99.fin N) n Q99.k4 (Q99.st4 data a_ b_ pivot i_ j_ data2) = Q99.l4 N data a_ b_ pivot n i_ j_ data2)
 | 0 => ⟨fun _ _ => rfl, fun _ _ _ => rfl, fun _ _ _ => rfl, fun _ _ _ => rfl, fun _ _ _ => rfl⟩
 | n + 1 => by
  obtain ⟨h0, h1, h2, h3, h4⟩ := Q99.runs N data a_ b_ pivot n
  have e0 : (fun (i_ : Int) (data2 : LMv) => run tb (Q99.G N) Q99.A 1 (Q99.fin N) n Q99.k0 (Q99.st0 data a_ b_ pivot i_ data2)) = Q99.l0 N data a_ b_ pivot n := by funext i_ data2; exact h0 i_ data2
  have e1 : (fun (i_ j_ : Int) (data2 : LMv) => run tb (Q99.G N) Q99.A 1 (Q99.fin N) n Q99.k1 (Q99.st1 data a_ b_ pivot i_ j_ data2)) = Q99.l1 N data a_ b_ pivot n := by funext i_ j_ data2; exact h1 i_ j_ data2
  have e2 : (fun (i_ j_ : Int) (data2 : LMv) => run tb (Q99.G N) Q99.A 1 (Q99.fin N) n Q99.k2 (Q99.st2 data a_ b_ pivot i_ j_ data2)) = Q99.l2 N data a_ b_ pivot n := by funext i_ j_ data2; exact h2 i_ j_ data2
  have e3 : (fun (i_ j_ : Int) (data2 : LMv) => run tb (Q99.G N) Q99.A 1 (Q99.fin N) n Q99.k3 (Q99.st3 data a_ b_ pivot i_ j_ data2)) = Q99.l3 N data a_ b_ pivot n := by funext i_ j_ data2; exact h3 i_ j_ data2
  have e4 : (fun (i_ j_ : Int) (data2 : LMv) => run tb (Q99.G N) Q99.A 1 (Q99.fin N) n Q99.k4 (Q99.st4 data a_ b_ pivot i_ j_ data2)) = Q99.l4 N data a_ b_ pivot n := by funext i_ j_ data2; exact h4 i_ j_ data2
  have g0 : (∀ (i_ : Int) (data2 : LMv), run tb (Q99.G N) Q99.A 1 (Q99.fin N) (n + 1) Q99.k0 (Q99.st0 data a_ b_ pivot i_ data2) = Q99.l0 N data a_ b_ pivot (n + 1) i_ data2) := by
   intro i_ data2
   exact (run_succ (by kernel_rfl)).trans ((Q99.step0 N _ data a_ b_ pivot i_ data2).trans ((congr (congr (congr (congr (congrArg (fun r0 r1 r2 r3 r4 => Q99.s0 N data a_ b_ pivot r0 r1 r2 r3 r4 i_ data2) e0) e1) e2) e3) e4).trans (Q99.l0_s N data a_ b_ pivot n i_ data2).symm))
  have g1 : (∀ (i_ j_ : Int) (data2 : LMv), run tb (Q99.G N) Q99.A 1 (Q99.fin N) (n + 1) Q99.k1 (Q99.st1 data a_ b_ pivot i_ j_ data2) = Q99.l1 N data a_ b_ pivot (n + 1) i_ j_ data2) := by
   intro i_ j_ data2
   exact (run_succ (by kernel_rfl)).trans ((Q99.step1 N _ data a_ b_ pivot i_ j_ data2).trans ((congr (congr (congr (congr (congrArg (fun r0 r1 r2 r3 r4 => Q99.s1 N data a_ b_ pivot r0 r1 r2 r3 r4 i_ j_ data2) e0) e1) e2) e3) e4).trans (Q99.l1_s N data a_ b_ pivot n i_ j_ data2).symm))
  have g2 : (∀ (i_ j_ : Int) (data2 : LMv), run tb (Q99.G N) Q99.A 1 (Q99.fin N) (n + 1) Q99.k2 (Q99.st2 data a_ b_ pivot i_ j_ data2) = Q99.l2 N data a_ b_ pivot (n + 1) i_ j_ data2) := by
   intro i_ j_ data2
   exact (run_succ (by kernel_rfl)).trans ((Q99.step2 N _ data a_ b_ pivot i_ j_ data2).trans ((congr (congr (congr (congr (congrArg (fun r0 r1 r2 r3 r4 => Q99.s2 N data a_ b_ pivot r0 r1 r2 r3 r4 i_ j_ data2) e0) e1) e2) e3) e4).trans (Q99.l2_s N data a_ b_ pivot n i_ j_ data2).symm))
  have g3 : (∀ (i_ j_ : Int) (data2 : LMv), run tb (Q99.G N) Q99.A 1 (Q99.fin N) (n + 1) Q99.k3 (Q99.st3 data a_ b_ pivot i_ j_ data2) = Q99.l3 N data a_ b_ pivot (n + 1) i_ j_ data2) := by
   intro i_ j_ data2
   exact (run_succ (by kernel_rfl)).trans ((Q99.step3 N _ data a_ b_ pivot i_ j_ data2).trans ((congr (congr (congr (congr (congrArg (fun r0 r1 r2 r3 r4 => Q99.s3 N data a_ b_ pivot r0 r1 r2 r3 r4 i_ j_ data2) e0) e1) e2) e3) e4).trans (Q99.l3_s N data a_ b_ pivot n i_ j_ data2).symm))
  have g4 : (∀ (i_ j_ : Int) (data2 : LMv), run tb (Q99.G N) Q99.A 1 (Q99.fin N) (n + 1) Q99.k4 (Q99.st4 data a_ b_ pivot i_ j_ data2) = Q99.l4 N data a_ b_ pivot (n + 1) i_ j_ data2) := by
   intro i_ j_ data2
   exact (run_succ (by kernel_rfl)).trans ((Q99.step4 N _ data a_ b_ pivot i_ j_ data2).trans ((congr (congr (congr (congr (congrArg (fun r0 r1 r2 r3 r4 => Q99.s4 N data a_ b_ pivot r0 r1 r2 r3 r4 i_ j_ data2) e0) e1) e2) e3) e4).trans (Q99.l4_s N data a_ b_ pivot n i_ j_ data2).symm))
  exact ⟨g0, g1, g2, g3, g4⟩
theorem Q99.ok : FnOk Tryz.prog 99 (Q99.D N) := by
 refine FnOk_of tb_ok (Checked.mixed Tryz.checked) ⟨Tryz.f99, Tryz.func99, by kernel_rfl, by kernel_rfl, fun x y h => ⟨Q99.G N, Q99.A, N, gamOf_ok (gc ⟨Q60.ok N, Q60.fit N⟩ gn), ?_⟩⟩ (Q99.fit N)
 rw [absFn_n (n0 := 1) rfl (by kernel_rfl)]
 refine (Q99.entry N (run tb (Q99.G N) Q99.A 1 (Q99.fin N) N) x).trans ?_
 have e0 : (fun (i_ : Int) (data2 : LMv) => run tb (Q99.G N) Q99.A 1 (Q99.fin N) N Q99.k0 (Q99.st0 x.1 x.2.1 x.2.2.1 x.2.2.2.1 i_ data2)) = Q99.l0 N x.1 x.2.1 x.2.2.1 x.2.2.2.1 N := by funext i_ data2; exact (Q99.runs N x.1 x.2.1 x.2.2.1 x.2.2.2.1 N).1 i_ data2
 have e1 : (fun (i_ j_ : Int) (data2 : LMv) => run tb (Q99.G N) Q99.A 1 (Q99.fin N) N Q99.k1 (Q99.st1 x.1 x.2.1 x.2.2.1 x.2.2.2.1 i_ j_ data2)) = Q99.l1 N x.1 x.2.1 x.2.2.1 x.2.2.2.1 N := by funext i_ j_ data2; exact (Q99.runs N x.1 x.2.1 x.2.2.1 x.2.2.2.1 N).2.1 i_ j_ data2
 have e2 : (fun (i_ j_ : Int) (data2 : LMv) => run tb (Q99.G N) Q99.A 1 (Q99.fin N) N Q99.k2 (Q99.st2 x.1 x.2.1 x.2.2.1 x.2.2.2.1 i_ j_ data2)) = Q99.l2 N x.1 x.2.1 x.2.2.1 x.2.2.2.1 N := by funext i_ j_ data2; exact (Q99.runs N x.1 x.2.1 x.2.2.1 x.2.2.2.1 N).2.2.1 i_ j_ data2
 have e3 : (fun (i_ j_ : Int) (data2 : LMv) => run tb (Q99.G N) Q99.A 1 (Q99.fin N) N Q99.k3 (Q99.st3 x.1 x.2.1 x.2.2.1 x.2.2.2.1 i_ j_ data2)) = Q99.l3 N x.1 x.2.1 x.2.2.1 x.2.2.2.1 N := by funext i_ j_ data2; exact (Q99.runs N x.1 x.2.1 x.2.2.1 x.2.2.2.1 N).2.2.2.1 i_ j_ data2
 have e4 : (fun (i_ j_ : Int) (data2 : LMv) => run tb (Q99.G N) Q99.A 1 (Q99.fin N) N Q99.k4 (Q99.st4 x.1 x.2.1 x.2.2.1 x.2.2.2.1 i_ j_ data2)) = Q99.l4 N x.1 x.2.1 x.2.2.1 x.2.2.2.1 N := by funext i_ j_ data2; exact (Q99.runs N x.1 x.2.1 x.2.2.1 x.2.2.2.1 N).2.2.2.2 i_ j_ data2
 have h' : (Q99.D N).f x = Q99.e N (Q99.l0 N x.1 x.2.1 x.2.2.1 x.2.2.2.1 N) (Q99.l1 N x.1 x.2.1 x.2.2.1 x.2.2.2.1 N) (Q99.l2 N x.1 x.2.1 x.2.2.1 x.2.2.2.1 N) (Q99.l3 N x.1 x.2.1 x.2.2.1 x.2.2.2.1 N) (Q99.l4 N x.1 x.2.1 x.2.2.1 x.2.2.2.1 N) x.1 x.2.1 x.2.2.1 x.2.2.2.1 := by kernel_rfl
 exact (congr (congr (congr (congr (congrArg (fun r0 r1 r2 r3 r4 => Q99.e N r0 r1 r2 r3 r4 x.1 x.2.1 x.2.2.1 x.2.2.2.1) e0) e1) e2) e3) e4).trans (h'.symm.trans h)
def Q106.as : List MK := [.d false tI]
def Q106.rs : List (Bool × HT) := [(false, (.d (.int .u64)))]
def Q106.lc : List AC := []
def Q106.D : DFn := ⟨Q106.as, Q106.rs, Int, fun x => Q106 N x.1, fun r o => r.1, fun b => (b, ()), fun b => (), none⟩
theorem Q106.fit : (Q106.D N).Fit := ⟨fun _ _ => rfl, fun _ _ => rfl, by kernel_rfl, (fun _ _ h => nomatch h), by kernel_rfl⟩
noncomputable def Q106.G : Gam := gamOf [(80, Q80.D N)]
def Q106.A : LA := fun _ => none
noncomputable def Q106.fin : St → Option Int := resK tb Tryz.f106.results.toList (decRes (Q106.D N) Q106.lc)
theorem Q106.entry (rec : RK Int) (x : (argH Q106.as).den) : seg tb (Q106.G N) Q106.A 0 rec (Q106.fin N) segFuel [.code (bodyOf Tryz.f106)] (initSt Tryz.f106 (encArgs Q106.as x) (encMem Q106.as x)) = Q106.e N x.1 := by kernel_rfl
theorem Q106.ok : FnOk Tryz.prog 106 (Q106.D N) := by
 refine FnOk_of tb_ok (Checked.mixed Tryz.checked) ⟨Tryz.f106, Tryz.func106, by kernel_rfl, by kernel_rfl, fun x y h => ⟨Q106.G N, Q106.A, N, gamOf_ok (gc ⟨Q80.ok N, Q80.fit N⟩ gn), ?_⟩⟩ (Q106.fit N)
 rw [absFn_n (n0 := 0) rfl (by kernel_rfl)]
 exact (Q106.entry N _ x).trans h
def Q107.as : List MK := [.o (.ptr 174 (.d (.int .u64))) true]
def Q107.rs : List (Bool × HT) := [(false, (.d (.int .u64)))]
def Q107.lc : List AC := [.ptr 0 0]
def Q107.D : DFn := ⟨Q107.as, Q107.rs, (Int × Int), fun x => Q107 N x.1, fun r o => (r.1, o.1), fun b => (b.1, ()), fun b => (b.2, ()), none⟩
theorem Q107.fit : (Q107.D N).Fit := ⟨fun _ _ => rfl, fun _ _ => rfl, by kernel_rfl, (fun _ _ h => nomatch h), by kernel_rfl⟩
noncomputable def Q107.G (N : Nat) : Gam := gamOf []
def Q107.A : LA := fun _ => none
noncomputable def Q107.fin : St → Option (Int × Int) := resK tb Tryz.f107.results.toList (decRes (Q107.D N) Q107.lc)
theorem Q107.entry (rec : RK (Int × Int)) (x : (argH Q107.as).den) : seg tb (Q107.G N) Q107.A 1 rec (Q107.fin N) segFuel [.code (bodyOf Tryz.f107)] (initSt Tryz.f107 (encArgs Q107.as x) (encMem Q107.as x)) = Q107.e N x.1 := by kernel_rfl
theorem Q107.ok : FnOk Tryz.prog 107 (Q107.D N) := by
 refine FnOk_of tb_ok (Checked.mixed Tryz.checked) ⟨Tryz.f107, Tryz.func107, by kernel_rfl, by kernel_rfl, fun x y h => ⟨Q107.G N, Q107.A, N, gamOf_ok (fun p hp => nomatch hp), ?_⟩⟩ (Q107.fit N)
 rw [absFn_n (n0 := 1) rfl (by kernel_rfl)]
 exact (Q107.entry N _ x).trans h
def Q94.as : List MK := [.o (.own 80 qd) true, .d false tI, .d false tI, .f 60]
def Q94.rs : List (Bool × HT) := []
def Q94.lc : List AC := [.own 0]
def Q94.D : DFn := ⟨Q94.as, Q94.rs, LMv, fun x => Q94 N x.1 x.2.1 x.2.2.1, fun r o => o.1, fun b => (), fun b => (b, ()), none⟩
theorem Q94.fit : (Q94.D N).Fit := ⟨fun _ _ => rfl, fun _ _ => rfl, by kernel_rfl, (fun _ _ h => nomatch h), by kernel_rfl⟩
noncomputable def Q94.G : Gam := gamOf [(106, Q106.D N), (107, Q107.D N)]
def Q94.A : LA := fun k => bif Nat.beq k 0 then some ⟨[0, 1, 8, 9, 10, 11], [], [], [], [], 2, false⟩ else none
noncomputable def Q94.fin : St → Option LMv := resK tb Tryz.f94.results.toList (decRes (Q94.D N) Q94.lc)
noncomputable def Q94.k0 : List Item := stackAt [.r, .r, .t, .r, .r, .r, .b] (bodyOf Tryz.f94) []
def Q94.st0 (data : LMv) (a_ b_ modulus idx : Int) (data2 : LMv) (random : Int) : St := ⟨[.one (.own 0), oi a_] ++ rA 6 ++ [oi (w64 (b_ - a_)), .one (.ptr 1 0), .one (.int .u64 modulus), oi idx] ++ rA 55, [.row 80 qd data2, .var 174 [.int .u64 random]]⟩
theorem Q94.step0 (rec : RK LMv) (data : LMv) (a_ b_ modulus idx : Int) (data2 : LMv) (random : Int) : seg tb (Q94.G N) Q94.A 1 rec (Q94.fin N) segFuel (loopBody Q94.k0) (Q94.st0 data a_ b_ modulus idx data2 random) = Q94.s0 N data a_ b_ (fun modulus idx data2 random => rec Q94.k0 (Q94.st0 data a_ b_ modulus idx data2 random)) modulus idx data2 random := by kernel_rfl
theorem Q94.entry (rec : RK LMv) (x : (argH Q94.as).den) : seg tb (Q94.G N) Q94.A 1 rec (Q94.fin N) segFuel [.code (bodyOf Tryz.f94)] (initSt Tryz.f94 (encArgs Q94.as x) (encMem Q94.as x)) = Q94.e N (fun modulus idx data2 random => rec Q94.k0 (Q94.st0 x.1 x.2.1 x.2.2.1 modulus idx data2 random)) x.1 x.2.1 x.2.2.1 := by kernel_rfl
theorem Q94.runs (N : Nat) (data : LMv) (a_ b_ : Int) : ∀ n, (∀ (modulus idx : Int) (data2 : LMv) (random : Int), run tb (Q94.G N) Q94.A 1 (Q94.fin N) n Q94.k0 (Q94.st0 data a_ b_ modulus idx data2 random) = Q94.l0 N data a_ b_ n modulus idx data2 random)
 | 0 => fun _ _ _ _ => rfl
 | n + 1 => by
  have h0 := Q94.runs N data a_ b_ n
  have e0 : (fun (modulus idx : Int) (data2 : LMv) (random : Int) => run tb (Q94.G N) Q94.A 1 (Q94.fin N) n Q94.k0 (Q94.st0 data a_ b_ modulus idx data2 random)) = Q94.l0 N data a_ b_ n := by funext modulus idx data2 random; exact h0 modulus idx data2 random
  have g0 : (∀ (modulus idx : Int) (data2 : LMv) (random : Int), run tb (Q94.G N) Q94.A 1 (Q94.fin N) (n + 1) Q94.k0 (Q94.st0 data a_ b_ modulus idx data2 random) = Q94.l0 N data a_ b_ (n + 1) modulus idx data2 random) := by
   intro modulus idx data2 random
   exact (run_succ (by kernel_rfl)).trans ((Q94.step0 N _ data a_ b_ modulus idx data2 random).trans ((congrArg (fun r0 => Q94.s0 N data a_ b_ r0 modulus idx data2 random) e0).trans (Q94.l0_s N data a_ b_ n modulus idx data2 random).symm))
  exact g0
theorem Q94.ok : FnOk Tryz.prog 94 (Q94.D N) := by
 refine FnOk_of tb_ok (Checked.mixed Tryz.checked) ⟨Tryz.f94, Tryz.func94, by kernel_rfl, by kernel_rfl, fun x y h => ⟨Q94.G N, Q94.A, N, gamOf_ok (gc ⟨Q106.ok N, Q106.fit N⟩ (gc ⟨Q107.ok N, Q107.fit N⟩ gn)), ?_⟩⟩ (Q94.fit N)
 rw [absFn_n (n0 := 1) rfl (by kernel_rfl)]
 refine (Q94.entry N (run tb (Q94.G N) Q94.A 1 (Q94.fin N) N) x).trans ?_
 have e0 : (fun (modulus idx : Int) (data2 : LMv) (random : Int) => run tb (Q94.G N) Q94.A 1 (Q94.fin N) N Q94.k0 (Q94.st0 x.1 x.2.1 x.2.2.1 modulus idx data2 random)) = Q94.l0 N x.1 x.2.1 x.2.2.1 N := by funext modulus idx data2 random; exact (Q94.runs N x.1 x.2.1 x.2.2.1 N) modulus idx data2 random
 have h' : (Q94.D N).f x = Q94.e N (Q94.l0 N x.1 x.2.1 x.2.2.1 N) x.1 x.2.1 x.2.2.1 := by kernel_rfl
 exact (congrArg (fun r0 => Q94.e N r0 x.1 x.2.1 x.2.2.1) e0).trans (h'.symm.trans h)
def Q79.as : List MK := [.o (.own 80 qd) true, .d false tI, .d false tI, .d false tI, .f 60]
def Q79.rs : List (Bool × HT) := []
def Q79.lc : List AC := [.own 0]
def Q79.D : DFn := ⟨Q79.as, Q79.rs, LMv, fun x => Q79 N x.1 x.2.1 x.2.2.1 x.2.2.2.1, fun r o => o.1, fun b => (), fun b => (b, ()), none⟩
theorem Q79.fit : (Q79.D N).Fit := ⟨fun _ _ => rfl, fun _ _ => rfl, by kernel_rfl, (fun _ _ h => nomatch h), by kernel_rfl⟩
noncomputable def Q79.G : Gam := gamOf [(92, Q92.D N), (93, Q93.D N), (94, Q94.D N), (95, Q95.D N), (96, Q96.D N), (97, Q97.D N), (60, Q60.D N), (98, Q98.D N), (99, Q99.D N), (79, Q79.D N)]
def Q79.A : LA := fun k => bif Nat.beq k 0 then some ⟨[0, 1, 2, 3, 4, 10, 11], [], [], [], [], 1, false⟩ else none
noncomputable def Q79.fin : St → Option LMv := resK tb Tryz.f79.results.toList (decRes (Q79.D (N + 1)) Q79.lc)
noncomputable def Q79.k0 : List Item := stackAt [.r, .r, .b] (bodyOf Tryz.f79) []
def Q79.st0 (data : LMv) (a_ b_ limit a_2 b_2 limit2 : Int) (wasBalanced wasPartitioned : Bool) (data2 : LMv) : St := ⟨[.one (.own 0), oi a_2, oi b_2, oi limit2, .one (.fn 60)] ++ rA 5 ++ [.one (.bool wasBalanced), .one (.bool wasPartitioned)] ++ rA 136, [.row 80 qd data2]⟩
theorem Q79.step0_tt (rec : RK LMv) (data : LMv) (a_ b_ limit a_2 b_2 limit2 : Int) (data2 : LMv) : seg tb (Q79.G N) Q79.A 1 rec (Q79.fin N) segFuel (loopBody Q79.k0) (Q79.st0 data a_ b_ limit a_2 b_2 limit2 true true data2) = Q79.s0 N (Q79 N) data a_ b_ limit (fun a_2 b_2 limit2 wasBalanced wasPartitioned data2 => rec Q79.k0 (Q79.st0 data a_ b_ limit a_2 b_2 limit2 wasBalanced wasPartitioned data2)) a_2 b_2 limit2 true true data2 := by kernel_rfl
theorem Q79.step0_tf (rec : RK LMv) (data : LMv) (a_ b_ limit a_2 b_2 limit2 : Int) (data2 : LMv) : seg tb (Q79.G N) Q79.A 1 rec (Q79.fin N) segFuel (loopBody Q79.k0) (Q79.st0 data a_ b_ limit a_2 b_2 limit2 true false data2) = Q79.s0 N (Q79 N) data a_ b_ limit (fun a_2 b_2 limit2 wasBalanced wasPartitioned data2 => rec Q79.k0 (Q79.st0 data a_ b_ limit a_2 b_2 limit2 wasBalanced wasPartitioned data2)) a_2 b_2 limit2 true false data2 := by kernel_rfl
theorem Q79.step0_ft (rec : RK LMv) (data : LMv) (a_ b_ limit a_2 b_2 limit2 : Int) (data2 : LMv) : seg tb (Q79.G N) Q79.A 1 rec (Q79.fin N) segFuel (loopBody Q79.k0) (Q79.st0 data a_ b_ limit a_2 b_2 limit2 false true data2) = Q79.s0 N (Q79 N) data a_ b_ limit (fun a_2 b_2 limit2 wasBalanced wasPartitioned data2 => rec Q79.k0 (Q79.st0 data a_ b_ limit a_2 b_2 limit2 wasBalanced wasPartitioned data2)) a_2 b_2 limit2 false true data2 := by kernel_rfl
theorem Q79.step0_ff (rec : RK LMv) (data : LMv) (a_ b_ limit a_2 b_2 limit2 : Int) (data2 : LMv) : seg tb (Q79.G N) Q79.A 1 rec (Q79.fin N) segFuel (loopBody Q79.k0) (Q79.st0 data a_ b_ limit a_2 b_2 limit2 false false data2) = Q79.s0 N (Q79 N) data a_ b_ limit (fun a_2 b_2 limit2 wasBalanced wasPartitioned data2 => rec Q79.k0 (Q79.st0 data a_ b_ limit a_2 b_2 limit2 wasBalanced wasPartitioned data2)) a_2 b_2 limit2 false false data2 := by kernel_rfl
theorem Q79.step0 (rec : RK LMv) (data : LMv) (a_ b_ limit a_2 b_2 limit2 : Int) (wasBalanced wasPartitioned : Bool) (data2 : LMv) : seg tb (Q79.G N) Q79.A 1 rec (Q79.fin N) segFuel (loopBody Q79.k0) (Q79.st0 data a_ b_ limit a_2 b_2 limit2 wasBalanced wasPartitioned data2) = Q79.s0 N (Q79 N) data a_ b_ limit (fun a_2 b_2 limit2 wasBalanced wasPartitioned data2 => rec Q79.k0 (Q79.st0 data a_ b_ limit a_2 b_2 limit2 wasBalanced wasPartitioned data2)) a_2 b_2 limit2 wasBalanced wasPartitioned data2 := match wasBalanced, wasPartitioned with | true, true => Q79.step0_tt N rec data a_ b_ limit a_2 b_2 limit2 data2 | true, false => Q79.step0_tf N rec data a_ b_ limit a_2 b_2 limit2 data2 | false, true => Q79.step0_ft N rec data a_ b_ limit a_2 b_2 limit2 data2 | false, false => Q79.step0_ff N rec data a_ b_ limit a_2 b_2 limit2 data2
theorem Q79.entry (rec : RK LMv) (x : (argH Q79.as).den) : seg tb (Q79.G N) Q79.A 1 rec (Q79.fin N) segFuel [.code (bodyOf Tryz.f79)] (initSt Tryz.f79 (encArgs Q79.as x) (encMem Q79.as x)) = Q79.e N (Q79 N) (fun a_2 b_2 limit2 wasBalanced wasPartitioned data2 => rec Q79.k0 (Q79.st0 x.1 x.2.1 x.2.2.1 x.2.2.2.1 a_2 b_2 limit2 wasBalanced wasPartitioned data2)) x.1 x.2.1 x.2.2.1 x.2.2.2.1 := by kernel_rfl
theorem Q79.runs (N : Nat) (data : LMv) (a_ b_ limit : Int) : ∀ n, (∀ (a_2 b_2 limit2 : Int) (wasBalanced wasPartitioned : Bool) (data2 : LMv), run tb (Q79.G N) Q79.A 1 (Q79.fin N) n Q79.k0 (Q79.st0 data a_ b_ limit a_2 b_2 limit2 wasBalanced wasPartitioned data2) = Q79.l0 N (Q79 N) data a_ b_ limit n a_2 b_2 limit2 wasBalanced wasPartitioned data2)
 | 0 => fun _ _ _ _ _ _ => rfl
 | n + 1 => by
  have h0 := Q79.runs N data a_ b_ limit n
  have e0 : (fun (a_2 b_2 limit2 : Int) (wasBalanced wasPartitioned : Bool) (data2 : LMv) => run tb (Q79.G N) Q79.A 1 (Q79.fin N) n Q79.k0 (Q79.st0 data a_ b_ limit a_2 b_2 limit2 wasBalanced wasPartitioned data2)) = Q79.l0 N (Q79 N) data a_ b_ limit n := by funext a_2 b_2 limit2 wasBalanced wasPartitioned data2; exact h0 a_2 b_2 limit2 wasBalanced wasPartitioned data2
  have g0 : (∀ (a_2 b_2 limit2 : Int) (wasBalanced wasPartitioned : Bool) (data2 : LMv), run tb (Q79.G N) Q79.A 1 (Q79.fin N) (n + 1) Q79.k0 (Q79.st0 data a_ b_ limit a_2 b_2 limit2 wasBalanced wasPartitioned data2) = Q79.l0 N (Q79 N) data a_ b_ limit (n + 1) a_2 b_2 limit2 wasBalanced wasPartitioned data2) := by
   intro a_2 b_2 limit2 wasBalanced wasPartitioned data2
   exact (run_succ (by kernel_rfl)).trans ((Q79.step0 N _ data a_ b_ limit a_2 b_2 limit2 wasBalanced wasPartitioned data2).trans ((congrArg (fun r0 => Q79.s0 N (Q79 N) data a_ b_ limit r0 a_2 b_2 limit2 wasBalanced wasPartitioned data2) e0).trans (Q79.l0_s N (Q79 N) data a_ b_ limit n a_2 b_2 limit2 wasBalanced wasPartitioned data2).symm))
  exact g0
theorem Q79.ok1 (ih : FnOk Tryz.prog 79 (Q79.D N)) : FnOk Tryz.prog 79 (Q79.D (N + 1)) := by
 refine FnOk_of tb_ok (Checked.mixed Tryz.checked) ⟨Tryz.f79, Tryz.func79, by kernel_rfl, by kernel_rfl, fun x y h => ⟨Q79.G N, Q79.A, N, gamOf_ok (by simp only [List.forall_mem_cons, List.not_mem_nil, false_implies, implies_true, and_true]; exact ⟨⟨Q92.ok N, Q92.fit N⟩, ⟨Q93.ok N, Q93.fit N⟩, ⟨Q94.ok N, Q94.fit N⟩, ⟨Q95.ok N, Q95.fit N⟩, ⟨Q96.ok N, Q96.fit N⟩, ⟨Q97.ok N, Q97.fit N⟩, ⟨Q60.ok N, Q60.fit N⟩, ⟨Q98.ok N, Q98.fit N⟩, ⟨Q99.ok N, Q99.fit N⟩, ⟨ih, Q79.fit N⟩⟩), ?_⟩⟩ (Q79.fit (N + 1))
 rw [absFn_n (n0 := 1) rfl (by kernel_rfl)]
 refine (Q79.entry N (run tb (Q79.G N) Q79.A 1 (Q79.fin N) N) x).trans ?_
 have e0 : (fun (a_2 b_2 limit2 : Int) (wasBalanced wasPartitioned : Bool) (data2 : LMv) => run tb (Q79.G N) Q79.A 1 (Q79.fin N) N Q79.k0 (Q79.st0 x.1 x.2.1 x.2.2.1 x.2.2.2.1 a_2 b_2 limit2 wasBalanced wasPartitioned data2)) = Q79.l0 N (Q79 N) x.1 x.2.1 x.2.2.1 x.2.2.2.1 N := by funext a_2 b_2 limit2 wasBalanced wasPartitioned data2; exact (Q79.runs N x.1 x.2.1 x.2.2.1 x.2.2.2.1 N) a_2 b_2 limit2 wasBalanced wasPartitioned data2
 have h' : (Q79.D (N + 1)).f x = Q79.e N (Q79 N) (Q79.l0 N (Q79 N) x.1 x.2.1 x.2.2.1 x.2.2.2.1 N) x.1 x.2.1 x.2.2.1 x.2.2.2.1 := by kernel_rfl
 exact (congrArg (fun r0 => Q79.e N (Q79 N) r0 x.1 x.2.1 x.2.2.1 x.2.2.2.1) e0).trans (h'.symm.trans h)
theorem Q79.ok : ∀ N, FnOk Tryz.prog 79 (Q79.D N)
 | 0 => FnOk_none Tryz.func79 (by kernel_rfl) (by kernel_rfl) (fun x => rfl)
 | N + 1 => Q79.ok1 N (Q79.ok N)
def Q59.as : List MK := [.o (.own 80 qd) true, .f 60]
def Q59.rs : List (Bool × HT) := []
def Q59.lc : List AC := [.own 0]
def Q59.D : DFn := ⟨Q59.as, Q59.rs, LMv, fun x => Q59 N x.1, fun r o => o.1, fun b => (), fun b => (b, ()), none⟩
theorem Q59.fit : (Q59.D N).Fit := ⟨fun _ _ => rfl, fun _ _ => rfl, by kernel_rfl, (fun _ _ h => nomatch h), by kernel_rfl⟩
noncomputable def Q59.G : Gam := gamOf [(80, Q80.D N), (79, Q79.D N)]
def Q59.A : LA := fun _ => none
noncomputable def Q59.fin : St → Option LMv := resK tb Tryz.f59.results.toList (decRes (Q59.D N) Q59.lc)
theorem Q59.entry (rec : RK LMv) (x : (argH Q59.as).den) : seg tb (Q59.G N) Q59.A 1 rec (Q59.fin N) segFuel [.code (bodyOf Tryz.f59)] (initSt Tryz.f59 (encArgs Q59.as x) (encMem Q59.as x)) = Q59.e N x.1 := by kernel_rfl
theorem Q59.ok : FnOk Tryz.prog 59 (Q59.D N) := by
 refine FnOk_of tb_ok (Checked.mixed Tryz.checked) ⟨Tryz.f59, Tryz.func59, by kernel_rfl, by kernel_rfl, fun x y h => ⟨Q59.G N, Q59.A, N, gamOf_ok (gc ⟨Q80.ok N, Q80.fit N⟩ (gc ⟨Q79.ok N, Q79.fit N⟩ gn)), ?_⟩⟩ (Q59.fit N)
 rw [absFn_n (n0 := 1) rfl (by kernel_rfl)]
 exact (Q59.entry N _ x).trans h
def Q61.as : List MK := [.o (.own 80 qd) false]
def Q61.rs : List (Bool × HT) := [(false, (.own 80 qd))]
def Q61.lc : List AC := []
def Q61.D : DFn := ⟨Q61.as, Q61.rs, LMv, fun x => Q61 N x.1, fun r o => r.1, fun b => (b, ()), fun b => (), none⟩
theorem Q61.fit : (Q61.D N).Fit := ⟨fun _ _ => rfl, fun _ _ => rfl, by kernel_rfl, (fun _ _ h => nomatch h), by kernel_rfl⟩
noncomputable def Q61.G (N : Nat) : Gam := gamOf []
def Q61.A : LA := fun k => bif Nat.beq k 0 then some ⟨[0, 3], [], [], [], [], 1, false⟩ else bif Nat.beq k 2 then some ⟨[0, 3, 4, 5], [], [], [], [], 1, false⟩ else none
noncomputable def Q61.fin : St → Option LMv := resK tb Tryz.f61.results.toList (decRes (Q61.D N) Q61.lc)
noncomputable def Q61.k0 : List Item := stackAt [.r, .r, .l, .r, .b] (bodyOf Tryz.f61) []
def Q61.st0 (s_ : LMv) (k_ : Int) : St := ⟨[.one (.own 0), oA, oA, oi k_] ++ rA 57, [.row 80 qd s_]⟩
noncomputable def Q61.k1 : List Item := stackAt [.r, .r, .l, .r, .b, .w, .r, .l, .b, .r, .t, .r, .l, .r, .b] (bodyOf Tryz.f61) []
def Q61.st1 (s_ : LMv) (k_ s2_ k2_ : Int) (s_2 : LMv) : St := ⟨[.one (.own 0), oA, oA, oi k_, .one (.vw 0 s2_ 3), oi k2_] ++ rA 55, [.row 80 qd s_2]⟩
theorem Q61.step0 (rec : RK LMv) (s_ : LMv) (k_ : Int) : seg tb (Q61.G N) Q61.A 1 rec (Q61.fin N) segFuel (loopBody Q61.k0) (Q61.st0 s_ k_) = Q61.s0 N s_ (fun k_ => rec Q61.k0 (Q61.st0 s_ k_)) (fun k_ s2_ k2_ s_2 => rec Q61.k1 (Q61.st1 s_ k_ s2_ k2_ s_2)) k_ := by kernel_rfl
theorem Q61.step1 (rec : RK LMv) (s_ : LMv) (k_ s2_ k2_ : Int) (s_2 : LMv) : seg tb (Q61.G N) Q61.A 1 rec (Q61.fin N) segFuel (loopBody Q61.k1) (Q61.st1 s_ k_ s2_ k2_ s_2) = Q61.s1 N s_ (fun k_ => rec Q61.k0 (Q61.st0 s_ k_)) (fun k_ s2_ k2_ s_2 => rec Q61.k1 (Q61.st1 s_ k_ s2_ k2_ s_2)) k_ s2_ k2_ s_2 := by kernel_rfl
theorem Q61.entry (rec : RK LMv) (x : (argH Q61.as).den) : seg tb (Q61.G N) Q61.A 1 rec (Q61.fin N) segFuel [.code (bodyOf Tryz.f61)] (initSt Tryz.f61 (encArgs Q61.as x) (encMem Q61.as x)) = Q61.e N (fun k_ => rec Q61.k0 (Q61.st0 x.1 k_)) (fun k_ s2_ k2_ s_2 => rec Q61.k1 (Q61.st1 x.1 k_ s2_ k2_ s_2)) x.1 := by kernel_rfl
theorem Q61.runs (N : Nat) (s_ : LMv) : ∀ n, (∀ (k_ : Int), run tb (Q61.G N) Q61.A 1 (Q61.fin N) n Q61.k0 (Q61.st0 s_ k_) = Q61.l0 N s_ n k_) ∧ (∀ (k_ s2_ k2_ : Int) (s_2 : LMv), run tb (Q61.G N) Q61.A 1 (Q61.fin N) n Q61.k1 (Q61.st1 s_ k_ s2_ k2_ s_2) = Q61.l1 N s_ n k_ s2_ k2_ s_2)
 | 0 => ⟨fun _ => rfl, fun _ _ _ _ => rfl⟩
 | n + 1 => by
  obtain ⟨h0, h1⟩ := Q61.runs N s_ n
  have e0 : (fun (k_ : Int) => run tb (Q61.G N) Q61.A 1 (Q61.fin N) n Q61.k0 (Q61.st0 s_ k_)) = Q61.l0 N s_ n := by funext k_; exact h0 k_
  have e1 : (fun (k_ s2_ k2_ : Int) (s_2 : LMv) => run tb (Q61.G N) Q61.A 1 (Q61.fin N) n Q61.k1 (Q61.st1 s_ k_ s2_ k2_ s_2)) = Q61.l1 N s_ n := by funext k_ s2_ k2_ s_2; exact h1 k_ s2_ k2_ s_2
  have g0 : (∀ (k_ : Int), run tb (Q61.G N) Q61.A 1 (Q61.fin N) (n + 1) Q61.k0 (Q61.st0 s_ k_) = Q61.l0 N s_ (n + 1) k_) := by
   intro k_
   exact (run_succ (by kernel_rfl)).trans ((Q61.step0 N _ s_ k_).trans ((congr (congrArg (fun r0 r1 => Q61.s0 N s_ r0 r1 k_) e0) e1).trans (Q61.l0_s N s_ n k_).symm))
  have g1 : (∀ (k_ s2_ k2_ : Int) (s_2 : LMv), run tb (Q61.G N) Q61.A 1 (Q61.fin N) (n + 1) Q61.k1 (Q61.st1 s_ k_ s2_ k2_ s_2) = Q61.l1 N s_ (n + 1) k_ s2_ k2_ s_2) := by
   intro k_ s2_ k2_ s_2
   exact (run_succ (by kernel_rfl)).trans ((Q61.step1 N _ s_ k_ s2_ k2_ s_2).trans ((congr (congrArg (fun r0 r1 => Q61.s1 N s_ r0 r1 k_ s2_ k2_ s_2) e0) e1).trans (Q61.l1_s N s_ n k_ s2_ k2_ s_2).symm))
  exact ⟨g0, g1⟩
theorem Q61.ok : FnOk Tryz.prog 61 (Q61.D N) := by
 refine FnOk_of tb_ok (Checked.mixed Tryz.checked) ⟨Tryz.f61, Tryz.func61, by kernel_rfl, by kernel_rfl, fun x y h => ⟨Q61.G N, Q61.A, N, gamOf_ok (fun p hp => nomatch hp), ?_⟩⟩ (Q61.fit N)
 rw [absFn_n (n0 := 1) rfl (by kernel_rfl)]
 refine (Q61.entry N (run tb (Q61.G N) Q61.A 1 (Q61.fin N) N) x).trans ?_
 have e0 : (fun (k_ : Int) => run tb (Q61.G N) Q61.A 1 (Q61.fin N) N Q61.k0 (Q61.st0 x.1 k_)) = Q61.l0 N x.1 N := by funext k_; exact (Q61.runs N x.1 N).1 k_
 have e1 : (fun (k_ s2_ k2_ : Int) (s_2 : LMv) => run tb (Q61.G N) Q61.A 1 (Q61.fin N) N Q61.k1 (Q61.st1 x.1 k_ s2_ k2_ s_2)) = Q61.l1 N x.1 N := by funext k_ s2_ k2_ s_2; exact (Q61.runs N x.1 N).2 k_ s2_ k2_ s_2
 have h' : (Q61.D N).f x = Q61.e N (Q61.l0 N x.1 N) (Q61.l1 N x.1 N) x.1 := by kernel_rfl
 exact (congr (congrArg (fun r0 r1 => Q61.e N r0 r1 x.1) e0) e1).trans (h'.symm.trans h)
def Q78.as : List MK := [.d true qa, .d false tI, .d false tI, .d false tI]
def Q78.rs : List (Bool × HT) := [(false, (.d tI))]
def Q78.lc : List AC := []
def Q78.D : DFn := ⟨Q78.as, Q78.rs, Int, fun x => Q78 N x.1 x.2.1 x.2.2.1 x.2.2.2.1, fun r o => r.1, fun b => (b, ()), fun b => (), none⟩
theorem Q78.fit : (Q78.D N).Fit := ⟨fun _ _ => rfl, fun _ _ => rfl, by kernel_rfl, (fun _ _ h => nomatch h), by kernel_rfl⟩
noncomputable def Q78.G : Gam := gamOf [(77, Q77.D N)]
def Q78.A : LA := fun _ => none
noncomputable def Q78.fin : St → Option Int := resK tb Tryz.f78.results.toList (decRes (Q78.D N) Q78.lc)
theorem Q78.entry (rec : RK Int) (x : (argH Q78.as).den) : seg tb (Q78.G N) Q78.A 0 rec (Q78.fin N) segFuel [.code (bodyOf Tryz.f78)] (initSt Tryz.f78 (encArgs Q78.as x) (encMem Q78.as x)) = Q78.e N x.1 x.2.1 x.2.2.1 x.2.2.2.1 := by kernel_rfl
theorem Q78.ok : FnOk Tryz.prog 78 (Q78.D N) := by
 refine FnOk_of tb_ok (Checked.mixed Tryz.checked) ⟨Tryz.f78, Tryz.func78, by kernel_rfl, by kernel_rfl, fun x y h => ⟨Q78.G N, Q78.A, N, gamOf_ok (gc ⟨Q77.ok N, Q77.fit N⟩ gn), ?_⟩⟩ (Q78.fit N)
 rw [absFn_n (n0 := 0) rfl (by kernel_rfl)]
 exact (Q78.entry N _ x).trans h
def Q58.as : List MK := [.o (.own 80 qd) false, .d true qa, .d true qc, .d false tI, .d true (.prod tI qd)]
def Q58.rs : List (Bool × HT) := [(false, (.own 80 qd))]
def Q58.lc : List AC := []
def Q58.D : DFn := ⟨Q58.as, Q58.rs, LMv, fun x => Q58 N x.1 x.2.1 x.2.2.1 x.2.2.2.1 x.2.2.2.2.1, fun r o => r.1, fun b => (b, ()), fun b => (), none⟩
theorem Q58.fit : (Q58.D N).Fit := ⟨fun _ _ => rfl, fun _ _ => rfl, by kernel_rfl, (fun _ _ h => nomatch h), by kernel_rfl⟩
noncomputable def Q58.G : Gam := gamOf [(44, Q44.D N), (57, Q57.D N), (78, Q78.D N)]
def Q58.A : LA := fun k => bif Nat.beq k 0 then some ⟨[0, 3, 6, 7, 9, 11, 12, 13, 14, 39, 40], [], [], [(false, 0, 0, 4)], [], 5, false⟩ else none
noncomputable def Q58.fin : St → Option LMv := resK tb Tryz.f58.results.toList (decRes (Q58.D N) Q58.lc)
noncomputable def Q58.k0 : List Item := stackAt [.r, .r, .r, .r, .r, .l, .r, .b] (bodyOf Tryz.f58) []
def Q58.st0 (out : LMv) (r_ : TRules) (p_ : TPos) (from_ : Int) (w_ : TWay) (kind dy x_ y_ t40_ : Int) (out2 : LMv) : St := ⟨[.one (.own 4), oA, oA, oi from_, oA, oA, .one (.ptr 1 0), .one (.ptr 2 0), oA, .one (.ptr 3 0), oA, oi kind, oi dy, oi x_, oi y_] ++ rA 24 ++ [oi w_.2.2.1, oi t40_] ++ rA 75, [.gone, vR r_, vP p_, .var 122 [.int .i64 w_.1, .int .i64 w_.2.1, .int .i64 w_.2.2.1, .int .i64 w_.2.2.2], .row 80 qd out2]⟩
theorem Q58.step0 (rec : RK LMv) (out : LMv) (r_ : TRules) (p_ : TPos) (from_ : Int) (w_ : TWay) (kind dy x_ y_ t40_ : Int) (out2 : LMv) : seg tb (Q58.G N) Q58.A 1 rec (Q58.fin N) segFuel (loopBody Q58.k0) (Q58.st0 out r_ p_ from_ w_ kind dy x_ y_ t40_ out2) = Q58.s0 N out r_ p_ from_ w_ (fun kind dy x_ y_ t40_ out2 => rec Q58.k0 (Q58.st0 out r_ p_ from_ w_ kind dy x_ y_ t40_ out2)) kind dy x_ y_ t40_ out2 := by kernel_rfl
theorem Q58.entry (rec : RK LMv) (x : (argH Q58.as).den) : seg tb (Q58.G N) Q58.A 1 rec (Q58.fin N) segFuel [.code (bodyOf Tryz.f58)] (initSt Tryz.f58 (encArgs Q58.as x) (encMem Q58.as x)) = Q58.e N (fun kind dy x_ y_ t40_ out2 => rec Q58.k0 (Q58.st0 x.1 x.2.1 x.2.2.1 x.2.2.2.1 x.2.2.2.2.1 kind dy x_ y_ t40_ out2)) x.1 x.2.1 x.2.2.1 x.2.2.2.1 x.2.2.2.2.1 := by kernel_rfl
theorem Q58.runs (N : Nat) (out : LMv) (r_ : TRules) (p_ : TPos) (from_ : Int) (w_ : TWay) : ∀ n, (∀ (kind dy x_ y_ t40_ : Int) (out2 : LMv), run tb (Q58.G N) Q58.A 1 (Q58.fin N) n Q58.k0 (Q58.st0 out r_ p_ from_ w_ kind dy x_ y_ t40_ out2) = Q58.l0 N out r_ p_ from_ w_ n kind dy x_ y_ t40_ out2)
 | 0 => fun _ _ _ _ _ _ => rfl
 | n + 1 => by
  have h0 := Q58.runs N out r_ p_ from_ w_ n
  have e0 : (fun (kind dy x_ y_ t40_ : Int) (out2 : LMv) => run tb (Q58.G N) Q58.A 1 (Q58.fin N) n Q58.k0 (Q58.st0 out r_ p_ from_ w_ kind dy x_ y_ t40_ out2)) = Q58.l0 N out r_ p_ from_ w_ n := by funext kind dy x_ y_ t40_ out2; exact h0 kind dy x_ y_ t40_ out2
  have g0 : (∀ (kind dy x_ y_ t40_ : Int) (out2 : LMv), run tb (Q58.G N) Q58.A 1 (Q58.fin N) (n + 1) Q58.k0 (Q58.st0 out r_ p_ from_ w_ kind dy x_ y_ t40_ out2) = Q58.l0 N out r_ p_ from_ w_ (n + 1) kind dy x_ y_ t40_ out2) := by
   intro kind dy x_ y_ t40_ out2
   exact (run_succ (by kernel_rfl)).trans ((Q58.step0 N _ out r_ p_ from_ w_ kind dy x_ y_ t40_ out2).trans ((congrArg (fun r0 => Q58.s0 N out r_ p_ from_ w_ r0 kind dy x_ y_ t40_ out2) e0).trans (Q58.l0_s N out r_ p_ from_ w_ n kind dy x_ y_ t40_ out2).symm))
  exact g0
theorem Q58.ok : FnOk Tryz.prog 58 (Q58.D N) := by
 refine FnOk_of tb_ok (Checked.mixed Tryz.checked) ⟨Tryz.f58, Tryz.func58, by kernel_rfl, by kernel_rfl, fun x y h => ⟨Q58.G N, Q58.A, N, gamOf_ok (gc ⟨Q44.ok N, Q44.fit N⟩ (gc ⟨Q57.ok N, Q57.fit N⟩ (gc ⟨Q78.ok N, Q78.fit N⟩ gn))), ?_⟩⟩ (Q58.fit N)
 rw [absFn_n (n0 := 1) rfl (by kernel_rfl)]
 refine (Q58.entry N (run tb (Q58.G N) Q58.A 1 (Q58.fin N) N) x).trans ?_
 have e0 : (fun (kind dy x_ y_ t40_ : Int) (out2 : LMv) => run tb (Q58.G N) Q58.A 1 (Q58.fin N) N Q58.k0 (Q58.st0 x.1 x.2.1 x.2.2.1 x.2.2.2.1 x.2.2.2.2.1 kind dy x_ y_ t40_ out2)) = Q58.l0 N x.1 x.2.1 x.2.2.1 x.2.2.2.1 x.2.2.2.2.1 N := by funext kind dy x_ y_ t40_ out2; exact (Q58.runs N x.1 x.2.1 x.2.2.1 x.2.2.2.1 x.2.2.2.2.1 N) kind dy x_ y_ t40_ out2
 have h' : (Q58.D N).f x = Q58.e N (Q58.l0 N x.1 x.2.1 x.2.2.1 x.2.2.2.1 x.2.2.2.2.1 N) x.1 x.2.1 x.2.2.1 x.2.2.2.1 x.2.2.2.2.1 := by kernel_rfl
 exact (congrArg (fun r0 => Q58.e N r0 x.1 x.2.1 x.2.2.1 x.2.2.2.1 x.2.2.2.2.1) e0).trans (h'.symm.trans h)
def Q56.as : List MK := [.d true qa, .d true qc, .d false tI]
def Q56.rs : List (Bool × HT) := [(false, (.d .bool))]
def Q56.lc : List AC := []
def Q56.D : DFn := ⟨Q56.as, Q56.rs, Bool, fun x => Q56 N x.1 x.2.1 x.2.2.1, fun r o => r.1, fun b => (b, ()), fun b => (), none⟩
theorem Q56.fit : (Q56.D N).Fit := ⟨fun _ _ => rfl, fun _ _ => rfl, by kernel_rfl, (fun _ _ h => nomatch h), by kernel_rfl⟩
noncomputable def Q56.G (N : Nat) : Gam := gamOf []
def Q56.A : LA := fun k => bif Nat.beq k 0 then some ⟨[3, 4, 7], [], [], [], [], 2, false⟩ else none
noncomputable def Q56.fin : St → Option Bool := resK tb Tryz.f56.results.toList (decRes (Q56.D N) Q56.lc)
noncomputable def Q56.k0 : List Item := stackAt [.r, .r, .l, .r, .t, .r, .b] (bodyOf Tryz.f56) []
def Q56.st0 (r_ : TRules) (p_ : TPos) (s_ low : Int) : St := ⟨rA 3 ++ [.one (.ptr 0 0), .one (.ptr 1 0), oA, oA, oi low] ++ rA 24, [vR r_, vP p_]⟩
theorem Q56.step0 (rec : RK Bool) (r_ : TRules) (p_ : TPos) (s_ low : Int) : seg tb (Q56.G N) Q56.A 0 rec (Q56.fin N) segFuel (loopBody Q56.k0) (Q56.st0 r_ p_ s_ low) = Q56.s0 N r_ p_ s_ (fun low => rec Q56.k0 (Q56.st0 r_ p_ s_ low)) low := by kernel_rfl
theorem Q56.entry (rec : RK Bool) (x : (argH Q56.as).den) : seg tb (Q56.G N) Q56.A 0 rec (Q56.fin N) segFuel [.code (bodyOf Tryz.f56)] (initSt Tryz.f56 (encArgs Q56.as x) (encMem Q56.as x)) = Q56.e N (fun low => rec Q56.k0 (Q56.st0 x.1 x.2.1 x.2.2.1 low)) x.1 x.2.1 x.2.2.1 := by kernel_rfl
theorem Q56.runs (N : Nat) (r_ : TRules) (p_ : TPos) (s_ : Int) : ∀ n, (∀ (low : Int), run tb (Q56.G N) Q56.A 0 (Q56.fin N) n Q56.k0 (Q56.st0 r_ p_ s_ low) = Q56.l0 N r_ p_ s_ n low)
 | 0 => fun _ => rfl
 | n + 1 => by
  have h0 := Q56.runs N r_ p_ s_ n
  have e0 : (fun (low : Int) => run tb (Q56.G N) Q56.A 0 (Q56.fin N) n Q56.k0 (Q56.st0 r_ p_ s_ low)) = Q56.l0 N r_ p_ s_ n := by funext low; exact h0 low
  have g0 : (∀ (low : Int), run tb (Q56.G N) Q56.A 0 (Q56.fin N) (n + 1) Q56.k0 (Q56.st0 r_ p_ s_ low) = Q56.l0 N r_ p_ s_ (n + 1) low) := by
   intro low
   exact (run_succ (by kernel_rfl)).trans ((Q56.step0 N _ r_ p_ s_ low).trans ((congrArg (fun r0 => Q56.s0 N r_ p_ s_ r0 low) e0).trans (Q56.l0_s N r_ p_ s_ n low).symm))
  exact g0
theorem Q56.ok : FnOk Tryz.prog 56 (Q56.D N) := by
 refine FnOk_of tb_ok (Checked.mixed Tryz.checked) ⟨Tryz.f56, Tryz.func56, by kernel_rfl, by kernel_rfl, fun x y h => ⟨Q56.G N, Q56.A, N, gamOf_ok (fun p hp => nomatch hp), ?_⟩⟩ (Q56.fit N)
 rw [absFn_n (n0 := 0) rfl (by kernel_rfl)]
 refine (Q56.entry N (run tb (Q56.G N) Q56.A 0 (Q56.fin N) N) x).trans ?_
 have e0 : (fun (low : Int) => run tb (Q56.G N) Q56.A 0 (Q56.fin N) N Q56.k0 (Q56.st0 x.1 x.2.1 x.2.2.1 low)) = Q56.l0 N x.1 x.2.1 x.2.2.1 N := by funext low; exact (Q56.runs N x.1 x.2.1 x.2.2.1 N) low
 have h' : (Q56.D N).f x = Q56.e N (Q56.l0 N x.1 x.2.1 x.2.2.1 N) x.1 x.2.1 x.2.2.1 := by kernel_rfl
 exact (congrArg (fun r0 => Q56.e N r0 x.1 x.2.1 x.2.2.1) e0).trans (h'.symm.trans h)
def Q33.as : List MK := [.d true qa, .d true qc]
def Q33.rs : List (Bool × HT) := [(false, (.own 80 qd))]
def Q33.lc : List AC := []
def Q33.D : DFn := ⟨Q33.as, Q33.rs, LMv, fun x => Q33 N x.1 x.2.1, fun r o => r.1, fun b => (b, ()), fun b => (), none⟩
theorem Q33.fit : (Q33.D N).Fit := ⟨fun _ _ => rfl, fun _ _ => rfl, by kernel_rfl, (fun _ _ h => nomatch h), by kernel_rfl⟩
noncomputable def Q33.G : Gam := gamOf [(57, Q57.D N), (44, Q44.D N), (59, Q59.D N), (61, Q61.D N), (58, Q58.D N), (56, Q56.D N)]
def Q33.A : LA := fun k => bif Nat.beq k 0 then some ⟨[2, 3, 5, 17, 18, 19], [(5, 80)], [], [], [], 3, false⟩ else bif Nat.beq k 2 then some ⟨[2, 3, 5, 6, 7, 17, 18, 19, 26, 27], [], [], [(false, 5, 0, 2)], [], 3, false⟩ else bif Nat.beq k 4 then some ⟨[2, 3, 5, 47, 48, 49], [], [], [], [], 3, false⟩ else bif Nat.beq k 6 then some ⟨[2, 3, 5, 9, 47, 48, 49, 65, 66, 67], [], [], [(false, 5, 0, 2)], [], 3, false⟩ else none
noncomputable def Q33.fin : St → Option LMv := resK tb Tryz.f33.results.toList (decRes (Q33.D N) Q33.lc)
noncomputable def Q33.k0 : List Item := stackAt [.r, .r, .l, .r, .b] (bodyOf Tryz.f33) []
def Q33.st0 (r_ : TRules) (p_ : TPos) (t17_ : LInt) (t18_ t19_ : Int) (out : LMv) : St := ⟨[oA, oA, .one (.ptr 0 0), .one (.ptr 1 0), oA, .one (.own 2)] ++ rA 11 ++ [.one (.fro 3 tI t17_), oi t18_, oi t19_] ++ rA 63, [vR r_, vP p_, .row 80 qd out]⟩
noncomputable def Q33.k1 : List Item := stackAt [.r, .r, .l, .r, .b, .w, .r, .r, .l, .b, .r, .r, .b] (bodyOf Tryz.f33) []
def Q33.st1 (r_ : TRules) (p_ : TPos) (t_ n_ : Int) (t17_ : LInt) (t18_ t19_ t27_ : Int) (out : LMv) : St := ⟨[oA, oA, .one (.ptr 0 0), .one (.ptr 1 0), oA, .one (.own 2), oi t_, oi n_] ++ rA 9 ++ [.one (.fro 3 tI t17_), oi t18_, oi t19_] ++ rA 6 ++ [oi (p_.1.length : Int), oi t27_] ++ rA 55, [vR r_, vP p_, .row 80 qd out]⟩
noncomputable def Q33.k2 : List Item := stackAt [.r, .r, .r, .l, .r, .b] (bodyOf Tryz.f33) []
def Q33.st2 (r_ : TRules) (p_ : TPos) (t49_ : Int) (out : LMv) : St := ⟨[oA, oA, .one (.ptr 0 0), .one (.ptr 1 0), oA, .one (.own 2)] ++ rA 41 ++ [.one (.fro 3 tI p_.1), oi (p_.1.length : Int), oi t49_] ++ rA 33, [vR r_, vP p_, .row 80 qd out]⟩
noncomputable def Q33.k3 : List Item := stackAt [.r, .r, .r, .l, .r, .b, .w, .r, .r, .l, .b, .r, .r, .t, .r, .b] (bodyOf Tryz.f33) []
def Q33.st3 (r_ : TRules) (p_ : TPos) (s_ t49_ : Int) (t65_ : (List TWay)) (t66_ t67_ : Int) (out : LMv) : St := ⟨[oA, oA, .one (.ptr 0 0), .one (.ptr 1 0), oA, .one (.own 2)] ++ rA 3 ++ [oi s_] ++ rA 37 ++ [.one (.fro 3 tI p_.1), oi (p_.1.length : Int), oi t49_] ++ rA 15 ++ [.one (.fro 122 (.prod tI qd) t65_), oi t66_, oi t67_] ++ rA 15, [vR r_, vP p_, .row 80 qd out]⟩
theorem Q33.step0 (rec : RK LMv) (r_ : TRules) (p_ : TPos) (t17_ : LInt) (t18_ t19_ : Int) (out : LMv) : seg tb (Q33.G N) Q33.A 0 rec (Q33.fin N) segFuel (loopBody Q33.k0) (Q33.st0 r_ p_ t17_ t18_ t19_ out) = Q33.s0 N r_ p_ (fun t17_ t18_ t19_ out => rec Q33.k0 (Q33.st0 r_ p_ t17_ t18_ t19_ out)) (fun t_ n_ t17_ t18_ t19_ t27_ out => rec Q33.k1 (Q33.st1 r_ p_ t_ n_ t17_ t18_ t19_ t27_ out)) (fun t49_ out => rec Q33.k2 (Q33.st2 r_ p_ t49_ out)) (fun s_ t49_ t65_ t66_ t67_ out => rec Q33.k3 (Q33.st3 r_ p_ s_ t49_ t65_ t66_ t67_ out)) t17_ t18_ t19_ out := by kernel_rfl
theorem Q33.step1 (rec : RK LMv) (r_ : TRules) (p_ : TPos) (t_ n_ : Int) (t17_ : LInt) (t18_ t19_ t27_ : Int) (out : LMv) : seg tb (Q33.G N) Q33.A 0 rec (Q33.fin N) segFuel (loopBody Q33.k1) (Q33.st1 r_ p_ t_ n_ t17_ t18_ t19_ t27_ out) = Q33.s1 N r_ p_ (fun t17_ t18_ t19_ out => rec Q33.k0 (Q33.st0 r_ p_ t17_ t18_ t19_ out)) (fun t_ n_ t17_ t18_ t19_ t27_ out => rec Q33.k1 (Q33.st1 r_ p_ t_ n_ t17_ t18_ t19_ t27_ out)) (fun t49_ out => rec Q33.k2 (Q33.st2 r_ p_ t49_ out)) (fun s_ t49_ t65_ t66_ t67_ out => rec Q33.k3 (Q33.st3 r_ p_ s_ t49_ t65_ t66_ t67_ out)) t_ n_ t17_ t18_ t19_ t27_ out := by kernel_rfl
theorem Q33.step2 (rec : RK LMv) (r_ : TRules) (p_ : TPos) (t49_ : Int) (out : LMv) : seg tb (Q33.G N) Q33.A 0 rec (Q33.fin N) segFuel (loopBody Q33.k2) (Q33.st2 r_ p_ t49_ out) = Q33.s2 N r_ p_ (fun t17_ t18_ t19_ out => rec Q33.k0 (Q33.st0 r_ p_ t17_ t18_ t19_ out)) (fun t_ n_ t17_ t18_ t19_ t27_ out => rec Q33.k1 (Q33.st1 r_ p_ t_ n_ t17_ t18_ t19_ t27_ out)) (fun t49_ out => rec Q33.k2 (Q33.st2 r_ p_ t49_ out)) (fun s_ t49_ t65_ t66_ t67_ out => rec Q33.k3 (Q33.st3 r_ p_ s_ t49_ t65_ t66_ t67_ out)) t49_ out := by kernel_rfl
theorem Q33.step3 (rec : RK LMv) (r_ : TRules) (p_ : TPos) (s_ t49_ : Int) (t65_ : (List TWay)) (t66_ t67_ : Int) (out : LMv) : seg tb (Q33.G N) Q33.A 0 rec (Q33.fin N) segFuel (loopBody Q33.k3) (Q33.st3 r_ p_ s_ t49_ t65_ t66_ t67_ out) = Q33.s3 N r_ p_ (fun t17_ t18_ t19_ out => rec Q33.k0 (Q33.st0 r_ p_ t17_ t18_ t19_ out)) (fun t_ n_ t17_ t18_ t19_ t27_ out => rec Q33.k1 (Q33.st1 r_ p_ t_ n_ t17_ t18_ t19_ t27_ out)) (fun t49_ out => rec Q33.k2 (Q33.st2 r_ p_ t49_ out)) (fun s_ t49_ t65_ t66_ t67_ out => rec Q33.k3 (Q33.st3 r_ p_ s_ t49_ t65_ t66_ t67_ out)) s_ t49_ t65_ t66_ t67_ out := by kernel_rfl
theorem Q33.entry (rec : RK LMv) (x : (argH Q33.as).den) : seg tb (Q33.G N) Q33.A 0 rec (Q33.fin N) segFuel [.code (bodyOf Tryz.f33)] (initSt Tryz.f33 (encArgs Q33.as x) (encMem Q33.as x)) = Q33.e N (fun t17_ t18_ t19_ out => rec Q33.k0 (Q33.st0 x.1 x.2.1 t17_ t18_ t19_ out)) (fun t_ n_ t17_ t18_ t19_ t27_ out => rec Q33.k1 (Q33.st1 x.1 x.2.1 t_ n_ t17_ t18_ t19_ t27_ out)) (fun t49_ out => rec Q33.k2 (Q33.st2 x.1 x.2.1 t49_ out)) (fun s_ t49_ t65_ t66_ t67_ out => rec Q33.k3 (Q33.st3 x.1 x.2.1 s_ t49_ t65_ t66_ t67_ out)) x.1 x.2.1 := by kernel_rfl
theorem Q33.runs (N : Nat) (r_ : TRules) (p_ : TPos) : ∀ n, (∀ (t17_ : LInt) (t18_ t19_ : Int) (out : LMv), run tb (Q33.G N) Q33.A 0 (Q33.fin N) n Q33.k0 (Q33.st0 r_ p_ t17_ t18_ t19_ out) = Q33.l0 N r_ p_ n t17_ t18_ t19_ out) ∧ (∀ (t_ n_ : Int) (t17_ : LInt) (t18_ t19_ t27_ : Int) (out : LMv), run tb (Q33.G N) Q33.A 0 (Q33.fin N) n Q33.k1 (Q33.st1 r_ p_ t_ n_ t17_ t18_ t19_ t27_ out) = Q33.l1 N r_ p_ n t_ n_ t17_ t18_ t19_ t27_ out) ∧ (∀ (t49_ : Int) (out : LMv), run tb (Q33.G N) Q33.A 0 (Q33.fin N) n Q33.k2 (Q33.st2 r_ p_ t49_ out) = Q33.l2 N r_ p_ n t49_ out) ∧ (∀ (s_ t49_ : Int) (t65_ : (List TWay)) (t66_ t67_ : Int) (out : LMv), run tb (Q33.G N) Q33.A 0 (Q33.fin N) n Q33.k3 (Q33.st3 r_ p_ s_ t49_ t65_ t66_ t67_ out) = Q33.l3 N r_ p_ n s_ t49_ t65_ t66_ t67_ out)
 | 0 => ⟨fun _ _ _ _ => rfl, fun _ _ _ _ _ _ _ => rfl, fun _ _ => rfl, fun _ _ _ _ _ _ => rfl⟩
 | n + 1 => by
  obtain ⟨h0, h1, h2, h3⟩ := Q33.runs N r_ p_ n
  have e0 : (fun (t17_ : LInt) (t18_ t19_ : Int) (out : LMv) => run tb (Q33.G N) Q33.A 0 (Q33.fin N) n Q33.k0 (Q33.st0 r_ p_ t17_ t18_ t19_ out)) = Q33.l0 N r_ p_ n := by funext t17_ t18_ t19_ out; exact h0 t17_ t18_ t19_ out
  have e1 : (fun (t_ n_ : Int) (t17_ : LInt) (t18_ t19_ t27_ : Int) (out : LMv) => run tb (Q33.G N) Q33.A 0 (Q33.fin N) n Q33.k1 (Q33.st1 r_ p_ t_ n_ t17_ t18_ t19_ t27_ out)) = Q33.l1 N r_ p_ n := by funext t_ n_ t17_ t18_ t19_ t27_ out; exact h1 t_ n_ t17_ t18_ t19_ t27_ out
  have e2 : (fun (t49_ : Int) (out : LMv) => run tb (Q33.G N) Q33.A 0 (Q33.fin N) n Q33.k2 (Q33.st2 r_ p_ t49_ out)) = Q33.l2 N r_ p_ n := by funext t49_ out; exact h2 t49_ out
  have e3 : (fun (s_ t49_ : Int) (t65_ : (List TWay)) (t66_ t67_ : Int) (out : LMv) => run tb (Q33.G N) Q33.A 0 (Q33.fin N) n Q33.k3 (Q33.st3 r_ p_ s_ t49_ t65_ t66_ t67_ out)) = Q33.l3 N r_ p_ n := by funext s_ t49_ t65_ t66_ t67_ out; exact h3 s_ t49_ t65_ t66_ t67_ out
  have g0 : (∀ (t17_ : LInt) (t18_ t19_ : Int) (out : LMv), run tb (Q33.G N) Q33.A 0 (Q33.fin N) (n + 1) Q33.k0 (Q33.st0 r_ p_ t17_ t18_ t19_ out) = Q33.l0 N r_ p_ (n + 1) t17_ t18_ t19_ out) := by
   intro t17_ t18_ t19_ out
   exact (run_succ (by kernel_rfl)).trans ((Q33.step0 N _ r_ p_ t17_ t18_ t19_ out).trans ((congr (congr (congr (congrArg (fun r0 r1 r2 r3 => Q33.s0 N r_ p_ r0 r1 r2 r3 t17_ t18_ t19_ out) e0) e1) e2) e3).trans (Q33.l0_s N r_ p_ n t17_ t18_ t19_ out).symm))
  have g1 : (∀ (t_ n_ : Int) (t17_ : LInt) (t18_ t19_ t27_ : Int) (out : LMv), run tb (Q33.G N) Q33.A 0 (Q33.fin N) (n + 1) Q33.k1 (Q33.st1 r_ p_ t_ n_ t17_ t18_ t19_ t27_ out) = Q33.l1 N r_ p_ (n + 1) t_ n_ t17_ t18_ t19_ t27_ out) := by
   intro t_ n_ t17_ t18_ t19_ t27_ out
   exact (run_succ (by kernel_rfl)).trans ((Q33.step1 N _ r_ p_ t_ n_ t17_ t18_ t19_ t27_ out).trans ((congr (congr (congr (congrArg (fun r0 r1 r2 r3 => Q33.s1 N r_ p_ r0 r1 r2 r3 t_ n_ t17_ t18_ t19_ t27_ out) e0) e1) e2) e3).trans (Q33.l1_s N r_ p_ n t_ n_ t17_ t18_ t19_ t27_ out).symm))
  have g2 : (∀ (t49_ : Int) (out : LMv), run tb (Q33.G N) Q33.A 0 (Q33.fin N) (n + 1) Q33.k2 (Q33.st2 r_ p_ t49_ out) = Q33.l2 N r_ p_ (n + 1) t49_ out) := by
   intro t49_ out
   exact (run_succ (by kernel_rfl)).trans ((Q33.step2 N _ r_ p_ t49_ out).trans ((congr (congr (congr (congrArg (fun r0 r1 r2 r3 => Q33.s2 N r_ p_ r0 r1 r2 r3 t49_ out) e0) e1) e2) e3).trans (Q33.l2_s N r_ p_ n t49_ out).symm))
  have g3 : (∀ (s_ t49_ : Int) (t65_ : (List TWay)) (t66_ t67_ : Int) (out : LMv), run tb (Q33.G N) Q33.A 0 (Q33.fin N) (n + 1) Q33.k3 (Q33.st3 r_ p_ s_ t49_ t65_ t66_ t67_ out) = Q33.l3 N r_ p_ (n + 1) s_ t49_ t65_ t66_ t67_ out) := by
   intro s_ t49_ t65_ t66_ t67_ out
   exact (run_succ (by kernel_rfl)).trans ((Q33.step3 N _ r_ p_ s_ t49_ t65_ t66_ t67_ out).trans ((congr (congr (congr (congrArg (fun r0 r1 r2 r3 => Q33.s3 N r_ p_ r0 r1 r2 r3 s_ t49_ t65_ t66_ t67_ out) e0) e1) e2) e3).trans (Q33.l3_s N r_ p_ n s_ t49_ t65_ t66_ t67_ out).symm))
  exact ⟨g0, g1, g2, g3⟩
theorem Q33.ok : FnOk Tryz.prog 33 (Q33.D N) := by
 refine FnOk_of tb_ok (Checked.mixed Tryz.checked) ⟨Tryz.f33, Tryz.func33, by kernel_rfl, by kernel_rfl, fun x y h => ⟨Q33.G N, Q33.A, N, gamOf_ok (gc ⟨Q57.ok N, Q57.fit N⟩ (gc ⟨Q44.ok N, Q44.fit N⟩ (gc ⟨Q59.ok N, Q59.fit N⟩ (gc ⟨Q61.ok N, Q61.fit N⟩ (gc ⟨Q58.ok N, Q58.fit N⟩ (gc ⟨Q56.ok N, Q56.fit N⟩ gn)))))), ?_⟩⟩ (Q33.fit N)
 rw [absFn_n (n0 := 0) rfl (by kernel_rfl)]
 refine (Q33.entry N (run tb (Q33.G N) Q33.A 0 (Q33.fin N) N) x).trans ?_
 have e0 : (fun (t17_ : LInt) (t18_ t19_ : Int) (out : LMv) => run tb (Q33.G N) Q33.A 0 (Q33.fin N) N Q33.k0 (Q33.st0 x.1 x.2.1 t17_ t18_ t19_ out)) = Q33.l0 N x.1 x.2.1 N := by funext t17_ t18_ t19_ out; exact (Q33.runs N x.1 x.2.1 N).1 t17_ t18_ t19_ out
 have e1 : (fun (t_ n_ : Int) (t17_ : LInt) (t18_ t19_ t27_ : Int) (out : LMv) => run tb (Q33.G N) Q33.A 0 (Q33.fin N) N Q33.k1 (Q33.st1 x.1 x.2.1 t_ n_ t17_ t18_ t19_ t27_ out)) = Q33.l1 N x.1 x.2.1 N := by funext t_ n_ t17_ t18_ t19_ t27_ out; exact (Q33.runs N x.1 x.2.1 N).2.1 t_ n_ t17_ t18_ t19_ t27_ out
 have e2 : (fun (t49_ : Int) (out : LMv) => run tb (Q33.G N) Q33.A 0 (Q33.fin N) N Q33.k2 (Q33.st2 x.1 x.2.1 t49_ out)) = Q33.l2 N x.1 x.2.1 N := by funext t49_ out; exact (Q33.runs N x.1 x.2.1 N).2.2.1 t49_ out
 have e3 : (fun (s_ t49_ : Int) (t65_ : (List TWay)) (t66_ t67_ : Int) (out : LMv) => run tb (Q33.G N) Q33.A 0 (Q33.fin N) N Q33.k3 (Q33.st3 x.1 x.2.1 s_ t49_ t65_ t66_ t67_ out)) = Q33.l3 N x.1 x.2.1 N := by funext s_ t49_ t65_ t66_ t67_ out; exact (Q33.runs N x.1 x.2.1 N).2.2.2 s_ t49_ t65_ t66_ t67_ out
 have h' : (Q33.D N).f x = Q33.e N (Q33.l0 N x.1 x.2.1 N) (Q33.l1 N x.1 x.2.1 N) (Q33.l2 N x.1 x.2.1 N) (Q33.l3 N x.1 x.2.1 N) x.1 x.2.1 := by kernel_rfl
 exact (congr (congr (congr (congrArg (fun r0 r1 r2 r3 => Q33.e N r0 r1 r2 r3 x.1 x.2.1) e0) e1) e2) e3).trans (h'.symm.trans h)
def Q32.as : List MK := [.d true qa, .d true qc]
def Q32.rs : List (Bool × HT) := [(false, (.d tI))]
def Q32.lc : List AC := []
def Q32.D : DFn := ⟨Q32.as, Q32.rs, Int, fun x => Q32 N x.1 x.2.1, fun r o => r.1, fun b => (b, ()), fun b => (), none⟩
theorem Q32.fit : (Q32.D N).Fit := ⟨fun _ _ => rfl, fun _ _ => rfl, by kernel_rfl, (fun _ _ h => nomatch h), by kernel_rfl⟩
noncomputable def Q32.G : Gam := gamOf [(54, Q54.D N), (55, Q55.D N), (33, Q33.D N)]
def Q32.A : LA := fun k => bif Nat.beq k 0 then some ⟨[2, 3, 5, 12, 13, 14], [], [], [], [], 2, false⟩ else none
noncomputable def Q32.fin : St → Option Int := resK tb Tryz.f32.results.toList (decRes (Q32.D N) Q32.lc)
noncomputable def Q32.k0 : List Item := stackAt [.r, .r, .l, .r, .b] (bodyOf Tryz.f32) []
def Q32.st0 (r_ : TRules) (p_ : TPos) (t13_ t14_ : Int) : St := ⟨[oA, oA, .one (.ptr 0 0), .one (.ptr 1 0), oA, oi (w64 (1 - p_.2.2.1))] ++ rA 6 ++ [.one (.fro 91 qe r_.2.2.2.2.2.2.2.1), oi t13_, oi t14_] ++ rA 43, [vR r_, vP p_]⟩
theorem Q32.step0 (rec : RK Int) (r_ : TRules) (p_ : TPos) (t13_ t14_ : Int) : seg tb (Q32.G N) Q32.A 0 rec (Q32.fin N) segFuel (loopBody Q32.k0) (Q32.st0 r_ p_ t13_ t14_) = Q32.s0 N r_ p_ (fun t13_ t14_ => rec Q32.k0 (Q32.st0 r_ p_ t13_ t14_)) t13_ t14_ := by kernel_rfl
theorem Q32.entry (rec : RK Int) (x : (argH Q32.as).den) : seg tb (Q32.G N) Q32.A 0 rec (Q32.fin N) segFuel [.code (bodyOf Tryz.f32)] (initSt Tryz.f32 (encArgs Q32.as x) (encMem Q32.as x)) = Q32.e N (fun t13_ t14_ => rec Q32.k0 (Q32.st0 x.1 x.2.1 t13_ t14_)) x.1 x.2.1 := by kernel_rfl
theorem Q32.runs (N : Nat) (r_ : TRules) (p_ : TPos) : ∀ n, (∀ (t13_ t14_ : Int), run tb (Q32.G N) Q32.A 0 (Q32.fin N) n Q32.k0 (Q32.st0 r_ p_ t13_ t14_) = Q32.l0 N r_ p_ n t13_ t14_)
 | 0 => fun _ _ => rfl
 | n + 1 => by
  have h0 := Q32.runs N r_ p_ n
  have e0 : (fun (t13_ t14_ : Int) => run tb (Q32.G N) Q32.A 0 (Q32.fin N) n Q32.k0 (Q32.st0 r_ p_ t13_ t14_)) = Q32.l0 N r_ p_ n := by funext t13_ t14_; exact h0 t13_ t14_
  have g0 : (∀ (t13_ t14_ : Int), run tb (Q32.G N) Q32.A 0 (Q32.fin N) (n + 1) Q32.k0 (Q32.st0 r_ p_ t13_ t14_) = Q32.l0 N r_ p_ (n + 1) t13_ t14_) := by
   intro t13_ t14_
   exact (run_succ (by kernel_rfl)).trans ((Q32.step0 N _ r_ p_ t13_ t14_).trans ((congrArg (fun r0 => Q32.s0 N r_ p_ r0 t13_ t14_) e0).trans (Q32.l0_s N r_ p_ n t13_ t14_).symm))
  exact g0
theorem Q32.ok : FnOk Tryz.prog 32 (Q32.D N) := by
 refine FnOk_of tb_ok (Checked.mixed Tryz.checked) ⟨Tryz.f32, Tryz.func32, by kernel_rfl, by kernel_rfl, fun x y h => ⟨Q32.G N, Q32.A, N, gamOf_ok (gc ⟨Q54.ok N, Q54.fit N⟩ (gc ⟨Q55.ok N, Q55.fit N⟩ (gc ⟨Q33.ok N, Q33.fit N⟩ gn))), ?_⟩⟩ (Q32.fit N)
 rw [absFn_n (n0 := 0) rfl (by kernel_rfl)]
 refine (Q32.entry N (run tb (Q32.G N) Q32.A 0 (Q32.fin N) N) x).trans ?_
 have e0 : (fun (t13_ t14_ : Int) => run tb (Q32.G N) Q32.A 0 (Q32.fin N) N Q32.k0 (Q32.st0 x.1 x.2.1 t13_ t14_)) = Q32.l0 N x.1 x.2.1 N := by funext t13_ t14_; exact (Q32.runs N x.1 x.2.1 N) t13_ t14_
 have h' : (Q32.D N).f x = Q32.e N (Q32.l0 N x.1 x.2.1 N) x.1 x.2.1 := by kernel_rfl
 exact (congrArg (fun r0 => Q32.e N r0 x.1 x.2.1) e0).trans (h'.symm.trans h)
def Q62.as : List MK := [.d false tI]
def Q62.rs : List (Bool × HT) := [(false, (.d tI))]
def Q62.lc : List AC := []
def Q62.D : DFn := ⟨Q62.as, Q62.rs, Int, fun x => Q62 N x.1, fun r o => r.1, fun b => (b, ()), fun b => (), none⟩
theorem Q62.fit : (Q62.D N).Fit := ⟨fun _ _ => rfl, fun _ _ => rfl, by kernel_rfl, (fun _ _ h => nomatch h), by kernel_rfl⟩
noncomputable def Q62.G (N : Nat) : Gam := gamOf []
def Q62.A : LA := fun _ => none
noncomputable def Q62.fin : St → Option Int := resK tb Tryz.f62.results.toList (decRes (Q62.D N) Q62.lc)
theorem Q62.entry (rec : RK Int) (x : (argH Q62.as).den) : seg tb (Q62.G N) Q62.A 0 rec (Q62.fin N) segFuel [.code (bodyOf Tryz.f62)] (initSt Tryz.f62 (encArgs Q62.as x) (encMem Q62.as x)) = Q62.e N x.1 := by kernel_rfl
theorem Q62.ok : FnOk Tryz.prog 62 (Q62.D N) := by
 refine FnOk_of tb_ok (Checked.mixed Tryz.checked) ⟨Tryz.f62, Tryz.func62, by kernel_rfl, by kernel_rfl, fun x y h => ⟨Q62.G N, Q62.A, N, gamOf_ok (fun p hp => nomatch hp), ?_⟩⟩ (Q62.fit N)
 rw [absFn_n (n0 := 0) rfl (by kernel_rfl)]
 exact (Q62.entry N _ x).trans h
end
end Go.Proofs.YtfihdjjilofklaaGreat.Am
