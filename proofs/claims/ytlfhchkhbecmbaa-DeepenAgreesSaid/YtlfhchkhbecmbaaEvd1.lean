/- PRINTED by gen.py: the abstract machine evaluates the loaded code to these functions. -/
import Derived.Test.YtlfhchkhbecmbaaEvd
set_option linter.unusedVariables false
set_option linter.unusedSimpArgs false
namespace Go.Proofs.Ytlfhchkhbecmbaa.Am
open Go
noncomputable section
variable (N : Nat)
set_option maxRecDepth 100000
def Q82.as : List MK := [.o (.own 31 qc) true, .d false tI, .d false tI, .f 68]
def Q82.rs : List (Bool × HT) := []
def Q82.lc : List AC := [.own 0]
def Q82.D : DFn := ⟨Q82.as, Q82.rs, LMv, fun x => Q82 N x.1 x.2.1 x.2.2.1, fun r o => o.1, fun b => (), fun b => (b, ()), none⟩
theorem Q82.fit : (Q82.D N).Fit := ⟨fun _ _ => rfl, fun _ _ => rfl, by kernel_rfl, (fun _ _ h => nomatch h), by kernel_rfl⟩
noncomputable def Q82.G (N : Nat) : Gam := gamOf []
def Q82.A : LA := fun k => bif Nat.beq k 0 then some ⟨[0, 8, 9], [], [], [], [], 1, false⟩ else none
noncomputable def Q82.fin : St → Option LMv := resK tb Try.f82.results.toList (decRes (Q82.D N) Q82.lc)
noncomputable def Q82.k0 : List Item := stackAt [.r, .r, .b] (bodyOf Try.f82) []
def Q82.st0 (data : LMv) (a_ b_ i_ j_ : Int) (data2 : LMv) : St := ⟨[.one (.own 0)] ++ rA 7 ++ [oi i_, oi j_] ++ rA 24, [.row 31 qc data2]⟩
theorem Q82.step0 (rec : RK LMv) (data : LMv) (a_ b_ i_ j_ : Int) (data2 : LMv) : seg tb (Q82.G N) Q82.A 1 rec (Q82.fin N) segFuel (loopBody Q82.k0) (Q82.st0 data a_ b_ i_ j_ data2) = Q82.s0 N data a_ b_ (fun i_ j_ data2 => rec Q82.k0 (Q82.st0 data a_ b_ i_ j_ data2)) i_ j_ data2 := by kernel_rfl
theorem Q82.entry (rec : RK LMv) (x : (argH Q82.as).den) : seg tb (Q82.G N) Q82.A 1 rec (Q82.fin N) segFuel [.code (bodyOf Try.f82)] (initSt Try.f82 (encArgs Q82.as x) (encMem Q82.as x)) = Q82.e N (fun i_ j_ data2 => rec Q82.k0 (Q82.st0 x.1 x.2.1 x.2.2.1 i_ j_ data2)) x.1 x.2.1 x.2.2.1 := by kernel_rfl
theorem Q82.runs (N : Nat) (data : LMv) (a_ b_ : Int) : ∀ n, (∀ (i_ j_ : Int) (data2 : LMv), run tb (Q82.G N) Q82.A 1 (Q82.fin N) n Q82.k0 (Q82.st0 data a_ b_ i_ j_ data2) = Q82.l0 N data a_ b_ n i_ j_ data2)
 | 0 => fun _ _ _ => rfl
 | n + 1 => by
  have h0 := Q82.runs N data a_ b_ n
  have e0 : (fun (i_ j_ : Int) (data2 : LMv) => run tb (Q82.G N) Q82.A 1 (Q82.fin N) n Q82.k0 (Q82.st0 data a_ b_ i_ j_ data2)) = Q82.l0 N data a_ b_ n := by funext i_ j_ data2; exact h0 i_ j_ data2
  have g0 : (∀ (i_ j_ : Int) (data2 : LMv), run tb (Q82.G N) Q82.A 1 (Q82.fin N) (n + 1) Q82.k0 (Q82.st0 data a_ b_ i_ j_ data2) = Q82.l0 N data a_ b_ (n + 1) i_ j_ data2) := by
   intro i_ j_ data2
   exact (run_succ (by kernel_rfl)).trans ((Q82.step0 N _ data a_ b_ i_ j_ data2).trans ((congrArg (fun r0 => Q82.s0 N data a_ b_ r0 i_ j_ data2) e0).trans (Q82.l0_s N data a_ b_ n i_ j_ data2).symm))
  exact g0
theorem Q82.ok : FnOk Try.prog 82 (Q82.D N) := by
 refine fo ⟨Try.f82, Try.func82, by kernel_rfl, by kernel_rfl, fun x y h => ⟨Q82.G N, Q82.A, N, gamOf_ok (fun p hp => nomatch hp), ?_⟩⟩ (Q82.fit N)
 rw [absFn_n (n0 := 1) rfl (by kernel_rfl)]
 refine (Q82.entry N (run tb (Q82.G N) Q82.A 1 (Q82.fin N) N) x).trans ?_
 have e0 : (fun (i_ j_ : Int) (data2 : LMv) => run tb (Q82.G N) Q82.A 1 (Q82.fin N) N Q82.k0 (Q82.st0 x.1 x.2.1 x.2.2.1 i_ j_ data2)) = Q82.l0 N x.1 x.2.1 x.2.2.1 N := by funext i_ j_ data2; exact (Q82.runs N x.1 x.2.1 x.2.2.1 N) i_ j_ data2
 have h' : (Q82.D N).f x = Q82.e N (Q82.l0 N x.1 x.2.1 x.2.2.1 N) x.1 x.2.1 x.2.2.1 := by kernel_rfl
 exact (congrArg (fun r0 => Q82.e N r0 x.1 x.2.1 x.2.2.1) e0).trans (h'.symm.trans h)
def Q83.as : List MK := [.o (.own 31 qc) true, .d false tI, .d false tI, .f 68]
def Q83.rs : List (Bool × HT) := [(false, (.d .bool))]
def Q83.lc : List AC := [.own 0]
def Q83.D : DFn := ⟨Q83.as, Q83.rs, (Bool × LMv), fun x => Q83 N x.1 x.2.1 x.2.2.1, fun r o => (r.1, o.1), fun b => (b.1, ()), fun b => (b.2, ()), none⟩
theorem Q83.fit : (Q83.D N).Fit := ⟨fun _ _ => rfl, fun _ _ => rfl, by kernel_rfl, (fun _ _ h => nomatch h), by kernel_rfl⟩
noncomputable def Q83.G : Gam := gamOf [(68, Q68.D N)]
def Q83.A : LA := fun k => bif Nat.beq k 0 then some ⟨[0, 1, 2, 3, 9, 10], [], [], [], [], 1, false⟩ else bif Nat.beq k 2 then some ⟨[0, 1, 2, 3, 9, 10], [], [], [], [], 1, false⟩ else bif Nat.beq k 4 then some ⟨[0, 1, 2, 3, 9, 10, 11], [], [], [], [], 1, false⟩ else bif Nat.beq k 6 then some ⟨[0, 1, 2, 3, 9, 10, 12], [], [], [], [], 1, false⟩ else none
noncomputable def Q83.fin : St → Option (Bool × LMv) := resK tb Try.f83.results.toList (decRes (Q83.D N) Q83.lc)
noncomputable def Q83.k0 : List Item := stackAt [.r, .r, .l, .r, .b] (bodyOf Try.f83) []
def Q83.st0 (data : LMv) (a_ b_ i_ j_ : Int) (data2 : LMv) : St := ⟨[.one (.own 0), oi a_, oi b_, .one (.fn 68)] ++ rA 5 ++ [oi i_, oi j_] ++ rA 130, [.row 31 qc data2]⟩
noncomputable def Q83.k1 : List Item := stackAt [.r, .r, .l, .r, .b, .w, .r, .l, .b, .l, .b] (bodyOf Try.f83) []
def Q83.st1 (data : LMv) (a_ b_ i_ j_ : Int) (data2 : LMv) : St := ⟨[.one (.own 0), oi a_, oi b_, .one (.fn 68)] ++ rA 5 ++ [oi i_, oi j_] ++ rA 130, [.row 31 qc data2]⟩
noncomputable def Q83.k2 : List Item := stackAt [.r, .r, .l, .r, .b, .w, .r, .l, .b, .r, .r, .r, .r, .l, .r, .t, .r, .b] (bodyOf Try.f83) []
def Q83.st2 (data : LMv) (a_ b_ i_ j_ j_2 : Int) (data2 : LMv) : St := ⟨[.one (.own 0), oi a_, oi b_, .one (.fn 68)] ++ rA 5 ++ [oi i_, oi j_, oi j_2] ++ rA 129, [.row 31 qc data2]⟩
noncomputable def Q83.k3 : List Item := stackAt [.r, .r, .l, .r, .b, .w, .r, .l, .b, .r, .r, .r, .r, .r, .r, .t, .r, .b] (bodyOf Try.f83) []
def Q83.st3 (data : LMv) (a_ b_ i_ j_ j_2 : Int) (data2 : LMv) : St := ⟨[.one (.own 0), oi a_, oi b_, .one (.fn 68)] ++ rA 5 ++ [oi i_, oi j_, oA, oi j_2] ++ rA 128, [.row 31 qc data2]⟩
theorem Q83.step0 (rec : RK (Bool × LMv)) (data : LMv) (a_ b_ i_ j_ : Int) (data2 : LMv) : seg tb (Q83.G N) Q83.A 1 rec (Q83.fin N) segFuel (loopBody Q83.k0) (Q83.st0 data a_ b_ i_ j_ data2) = Q83.s0 N data a_ b_ (fun i_ j_ data2 => rec Q83.k0 (Q83.st0 data a_ b_ i_ j_ data2)) (fun i_ j_ data2 => rec Q83.k1 (Q83.st1 data a_ b_ i_ j_ data2)) (fun i_ j_ j_2 data2 => rec Q83.k2 (Q83.st2 data a_ b_ i_ j_ j_2 data2)) (fun i_ j_ j_2 data2 => rec Q83.k3 (Q83.st3 data a_ b_ i_ j_ j_2 data2)) i_ j_ data2 := by kernel_rfl
theorem Q83.step1 (rec : RK (Bool × LMv)) (data : LMv) (a_ b_ i_ j_ : Int) (data2 : LMv) : seg tb (Q83.G N) Q83.A 1 rec (Q83.fin N) segFuel (loopBody Q83.k1) (Q83.st1 data a_ b_ i_ j_ data2) = Q83.s1 N data a_ b_ (fun i_ j_ data2 => rec Q83.k0 (Q83.st0 data a_ b_ i_ j_ data2)) (fun i_ j_ data2 => rec Q83.k1 (Q83.st1 data a_ b_ i_ j_ data2)) (fun i_ j_ j_2 data2 => rec Q83.k2 (Q83.st2 data a_ b_ i_ j_ j_2 data2)) (fun i_ j_ j_2 data2 => rec Q83.k3 (Q83.st3 data a_ b_ i_ j_ j_2 data2)) i_ j_ data2 := by kernel_rfl
theorem Q83.step2 (rec : RK (Bool × LMv)) (data : LMv) (a_ b_ i_ j_ j_2 : Int) (data2 : LMv) : seg tb (Q83.G N) Q83.A 1 rec (Q83.fin N) segFuel (loopBody Q83.k2) (Q83.st2 data a_ b_ i_ j_ j_2 data2) = Q83.s2 N data a_ b_ (fun i_ j_ data2 => rec Q83.k0 (Q83.st0 data a_ b_ i_ j_ data2)) (fun i_ j_ data2 => rec Q83.k1 (Q83.st1 data a_ b_ i_ j_ data2)) (fun i_ j_ j_2 data2 => rec Q83.k2 (Q83.st2 data a_ b_ i_ j_ j_2 data2)) (fun i_ j_ j_2 data2 => rec Q83.k3 (Q83.st3 data a_ b_ i_ j_ j_2 data2)) i_ j_ j_2 data2 := by kernel_rfl
theorem Q83.step3 (rec : RK (Bool × LMv)) (data : LMv) (a_ b_ i_ j_ j_2 : Int) (data2 : LMv) : seg tb (Q83.G N) Q83.A 1 rec (Q83.fin N) segFuel (loopBody Q83.k3) (Q83.st3 data a_ b_ i_ j_ j_2 data2) = Q83.s3 N data a_ b_ (fun i_ j_ data2 => rec Q83.k0 (Q83.st0 data a_ b_ i_ j_ data2)) (fun i_ j_ data2 => rec Q83.k1 (Q83.st1 data a_ b_ i_ j_ data2)) (fun i_ j_ j_2 data2 => rec Q83.k2 (Q83.st2 data a_ b_ i_ j_ j_2 data2)) (fun i_ j_ j_2 data2 => rec Q83.k3 (Q83.st3 data a_ b_ i_ j_ j_2 data2)) i_ j_ j_2 data2 := by kernel_rfl
theorem Q83.entry (rec : RK (Bool × LMv)) (x : (argH Q83.as).den) : seg tb (Q83.G N) Q83.A 1 rec (Q83.fin N) segFuel [.code (bodyOf Try.f83)] (initSt Try.f83 (encArgs Q83.as x) (encMem Q83.as x)) = Q83.e N (fun i_ j_ data2 => rec Q83.k0 (Q83.st0 x.1 x.2.1 x.2.2.1 i_ j_ data2)) (fun i_ j_ data2 => rec Q83.k1 (Q83.st1 x.1 x.2.1 x.2.2.1 i_ j_ data2)) (fun i_ j_ j_2 data2 => rec Q83.k2 (Q83.st2 x.1 x.2.1 x.2.2.1 i_ j_ j_2 data2)) (fun i_ j_ j_2 data2 => rec Q83.k3 (Q83.st3 x.1 x.2.1 x.2.2.1 i_ j_ j_2 data2)) x.1 x.2.1 x.2.2.1 := by kernel_rfl
theorem Q83.runs (N : Nat) (data : LMv) (a_ b_ : Int) : ∀ n, (∀ (i_ j_ : Int) (data2 : LMv), run tb (Q83.G N) Q83.A 1 (Q83.fin N) n Q83.k0 (Q83.st0 data a_ b_ i_ j_ data2) = Q83.l0 N data a_ b_ n i_ j_ data2) ∧ (∀ (i_ j_ : Int) (data2 : LMv), run tb (Q83.G N) Q83.A 1 (Q83.fin N) n Q83.k1 (Q83.st1 data a_ b_ i_ j_ data2) = Q83.l1 N data a_ b_ n i_ j_ data2) ∧ (∀ (i_ j_ j_2 : Int) (data2 : LMv), run tb (Q83.G N) Q83.A 1 (Q83.fin N) n Q83.k2 (Q83.st2 data a_ b_ i_ j_ j_2 data2) = Q83.l2 N data a_ b_ n i_ j_ j_2 data2) ∧ (∀ (i_ j_ j_2 : Int) (data2 : LMv), run tb (Q83.G N) Q83.A 1 (Q83.fin N) n Q83.k3 (Q83.st3 data a_ b_ i_ j_ j_2 data2) = Q83.l3 N data a_ b_ n i_ j_ j_2 data2)
 | 0 => ⟨fun _ _ _ => rfl, fun _ _ _ => rfl, fun _ _ _ _ => rfl, fun _ _ _ _ => rfl⟩
 | n + 1 => by
  obtain ⟨h0, h1, h2, h3⟩ := Q83.runs N data a_ b_ n
  have e0 : (fun (i_ j_ : Int) (data2 : LMv) => run tb (Q83.G N) Q83.A 1 (Q83.fin N) n Q83.k0 (Q83.st0 data a_ b_ i_ j_ data2)) = Q83.l0 N data a_ b_ n := by funext i_ j_ data2; exact h0 i_ j_ data2
  have e1 : (fun (i_ j_ : Int) (data2 : LMv) => run tb (Q83.G N) Q83.A 1 (Q83.fin N) n Q83.k1 (Q83.st1 data a_ b_ i_ j_ data2)) = Q83.l1 N data a_ b_ n := by funext i_ j_ data2; exact h1 i_ j_ data2
  have e2 : (fun (i_ j_ j_2 : Int) (data2 : LMv) => run tb (Q83.G N) Q83.A 1 (Q83.fin N) n Q83.k2 (Q83.st2 data a_ b_ i_ j_ j_2 data2)) = Q83.l2 N data a_ b_ n := by funext i_ j_ j_2 data2; exact h2 i_ j_ j_2 data2
  have e3 : (fun (i_ j_ j_2 : Int) (data2 : LMv) => run tb (Q83.G N) Q83.A 1 (Q83.fin N) n Q83.k3 (Q83.st3 data a_ b_ i_ j_ j_2 data2)) = Q83.l3 N data a_ b_ n := by funext i_ j_ j_2 data2; exact h3 i_ j_ j_2 data2
  have g0 : (∀ (i_ j_ : Int) (data2 : LMv), run tb (Q83.G N) Q83.A 1 (Q83.fin N) (n + 1) Q83.k0 (Q83.st0 data a_ b_ i_ j_ data2) = Q83.l0 N data a_ b_ (n + 1) i_ j_ data2) := by
   intro i_ j_ data2
   exact (run_succ (by kernel_rfl)).trans ((Q83.step0 N _ data a_ b_ i_ j_ data2).trans ((congr (congr (congr (congrArg (fun r0 r1 r2 r3 => Q83.s0 N data a_ b_ r0 r1 r2 r3 i_ j_ data2) e0) e1) e2) e3).trans (Q83.l0_s N data a_ b_ n i_ j_ data2).symm))
  have g1 : (∀ (i_ j_ : Int) (data2 : LMv), run tb (Q83.G N) Q83.A 1 (Q83.fin N) (n + 1) Q83.k1 (Q83.st1 data a_ b_ i_ j_ data2) = Q83.l1 N data a_ b_ (n + 1) i_ j_ data2) := by
   intro i_ j_ data2
   exact (run_succ (by kernel_rfl)).trans ((Q83.step1 N _ data a_ b_ i_ j_ data2).trans ((congr (congr (congr (congrArg (fun r0 r1 r2 r3 => Q83.s1 N data a_ b_ r0 r1 r2 r3 i_ j_ data2) e0) e1) e2) e3).trans (Q83.l1_s N data a_ b_ n i_ j_ data2).symm))
  have g2 : (∀ (i_ j_ j_2 : Int) (data2 : LMv), run tb (Q83.G N) Q83.A 1 (Q83.fin N) (n + 1) Q83.k2 (Q83.st2 data a_ b_ i_ j_ j_2 data2) = Q83.l2 N data a_ b_ (n + 1) i_ j_ j_2 data2) := by
   intro i_ j_ j_2 data2
   exact (run_succ (by kernel_rfl)).trans ((Q83.step2 N _ data a_ b_ i_ j_ j_2 data2).trans ((congr (congr (congr (congrArg (fun r0 r1 r2 r3 => Q83.s2 N data a_ b_ r0 r1 r2 r3 i_ j_ j_2 data2) e0) e1) e2) e3).trans (Q83.l2_s N data a_ b_ n i_ j_ j_2 data2).symm))
  have g3 : (∀ (i_ j_ j_2 : Int) (data2 : LMv), run tb (Q83.G N) Q83.A 1 (Q83.fin N) (n + 1) Q83.k3 (Q83.st3 data a_ b_ i_ j_ j_2 data2) = Q83.l3 N data a_ b_ (n + 1) i_ j_ j_2 data2) := by
   intro i_ j_ j_2 data2
   exact (run_succ (by kernel_rfl)).trans ((Q83.step3 N _ data a_ b_ i_ j_ j_2 data2).trans ((congr (congr (congr (congrArg (fun r0 r1 r2 r3 => Q83.s3 N data a_ b_ r0 r1 r2 r3 i_ j_ j_2 data2) e0) e1) e2) e3).trans (Q83.l3_s N data a_ b_ n i_ j_ j_2 data2).symm))
  exact ⟨g0, g1, g2, g3⟩
theorem Q83.ok : FnOk Try.prog 83 (Q83.D N) := by
 refine fo ⟨Try.f83, Try.func83, by kernel_rfl, by kernel_rfl, fun x y h => ⟨Q83.G N, Q83.A, N, gamOf_ok (gc ⟨Q68.ok N, Q68.fit N⟩ gn), ?_⟩⟩ (Q83.fit N)
 rw [absFn_n (n0 := 1) rfl (by kernel_rfl)]
 refine (Q83.entry N (run tb (Q83.G N) Q83.A 1 (Q83.fin N) N) x).trans ?_
 have e0 : (fun (i_ j_ : Int) (data2 : LMv) => run tb (Q83.G N) Q83.A 1 (Q83.fin N) N Q83.k0 (Q83.st0 x.1 x.2.1 x.2.2.1 i_ j_ data2)) = Q83.l0 N x.1 x.2.1 x.2.2.1 N := by funext i_ j_ data2; exact (Q83.runs N x.1 x.2.1 x.2.2.1 N).1 i_ j_ data2
 have e1 : (fun (i_ j_ : Int) (data2 : LMv) => run tb (Q83.G N) Q83.A 1 (Q83.fin N) N Q83.k1 (Q83.st1 x.1 x.2.1 x.2.2.1 i_ j_ data2)) = Q83.l1 N x.1 x.2.1 x.2.2.1 N := by funext i_ j_ data2; exact (Q83.runs N x.1 x.2.1 x.2.2.1 N).2.1 i_ j_ data2
 have e2 : (fun (i_ j_ j_2 : Int) (data2 : LMv) => run tb (Q83.G N) Q83.A 1 (Q83.fin N) N Q83.k2 (Q83.st2 x.1 x.2.1 x.2.2.1 i_ j_ j_2 data2)) = Q83.l2 N x.1 x.2.1 x.2.2.1 N := by funext i_ j_ j_2 data2; exact (Q83.runs N x.1 x.2.1 x.2.2.1 N).2.2.1 i_ j_ j_2 data2
 have e3 : (fun (i_ j_ j_2 : Int) (data2 : LMv) => run tb (Q83.G N) Q83.A 1 (Q83.fin N) N Q83.k3 (Q83.st3 x.1 x.2.1 x.2.2.1 i_ j_ j_2 data2)) = Q83.l3 N x.1 x.2.1 x.2.2.1 N := by funext i_ j_ j_2 data2; exact (Q83.runs N x.1 x.2.1 x.2.2.1 N).2.2.2 i_ j_ j_2 data2
 have h' : (Q83.D N).f x = Q83.e N (Q83.l0 N x.1 x.2.1 x.2.2.1 N) (Q83.l1 N x.1 x.2.1 x.2.2.1 N) (Q83.l2 N x.1 x.2.1 x.2.2.1 N) (Q83.l3 N x.1 x.2.1 x.2.2.1 N) x.1 x.2.1 x.2.2.1 := by kernel_rfl
 exact (congr (congr (congr (congrArg (fun r0 r1 r2 r3 => Q83.e N r0 r1 r2 r3 x.1 x.2.1 x.2.2.1) e0) e1) e2) e3).trans (h'.symm.trans h)
def Q84.as : List MK := [.o (.own 31 qc) true, .d false tI, .d false tI, .d false tI, .f 68]
def Q84.rs : List (Bool × HT) := [(false, (.d tI))]
def Q84.lc : List AC := [.own 0]
def Q84.D : DFn := ⟨Q84.as, Q84.rs, (Int × LMv), fun x => Q84 N x.1 x.2.1 x.2.2.1 x.2.2.2.1, fun r o => (r.1, o.1), fun b => (b.1, ()), fun b => (b.2, ()), none⟩
theorem Q84.fit : (Q84.D N).Fit := ⟨fun _ _ => rfl, fun _ _ => rfl, by kernel_rfl, (fun _ _ h => nomatch h), by kernel_rfl⟩
noncomputable def Q84.G : Gam := gamOf [(68, Q68.D N)]
def Q84.A : LA := fun k => bif Nat.beq k 0 then some ⟨[0, 1, 4, 11, 12], [], [], [], [], 1, false⟩ else bif Nat.beq k 2 then some ⟨[0, 1, 4, 11, 12], [], [], [], [], 1, false⟩ else bif Nat.beq k 4 then some ⟨[0, 1, 4, 11, 12], [], [], [], [], 1, false⟩ else none
noncomputable def Q84.fin : St → Option (Int × LMv) := resK tb Try.f84.results.toList (decRes (Q84.D N) Q84.lc)
noncomputable def Q84.k0 : List Item := stackAt [.r, .r, .r, .l, .b] (bodyOf Try.f84) []
def Q84.st0 (data : LMv) (a_ b_ pivot i_ j_ : Int) (data2 : LMv) : St := ⟨[.one (.own 0), oi a_, oA, oA, .one (.fn 68)] ++ rA 6 ++ [oi i_, oi j_] ++ rA 77, [.row 31 qc data2]⟩
noncomputable def Q84.k1 : List Item := stackAt [.r, .r, .r, .l, .b, .w, .b, .l, .b] (bodyOf Try.f84) []
def Q84.st1 (data : LMv) (a_ b_ pivot i_ j_ : Int) (data2 : LMv) : St := ⟨[.one (.own 0), oi a_, oA, oA, .one (.fn 68)] ++ rA 6 ++ [oi i_, oi j_] ++ rA 77, [.row 31 qc data2]⟩
noncomputable def Q84.k2 : List Item := stackAt [.r, .r, .r, .l, .b, .w, .b, .r, .l, .b] (bodyOf Try.f84) []
def Q84.st2 (data : LMv) (a_ b_ pivot i_ j_ : Int) (data2 : LMv) : St := ⟨[.one (.own 0), oi a_, oA, oA, .one (.fn 68)] ++ rA 6 ++ [oi i_, oi j_] ++ rA 77, [.row 31 qc data2]⟩
theorem Q84.step0 (rec : RK (Int × LMv)) (data : LMv) (a_ b_ pivot i_ j_ : Int) (data2 : LMv) : seg tb (Q84.G N) Q84.A 1 rec (Q84.fin N) segFuel (loopBody Q84.k0) (Q84.st0 data a_ b_ pivot i_ j_ data2) = Q84.s0 N data a_ b_ pivot (fun i_ j_ data2 => rec Q84.k0 (Q84.st0 data a_ b_ pivot i_ j_ data2)) (fun i_ j_ data2 => rec Q84.k1 (Q84.st1 data a_ b_ pivot i_ j_ data2)) (fun i_ j_ data2 => rec Q84.k2 (Q84.st2 data a_ b_ pivot i_ j_ data2)) i_ j_ data2 := by kernel_rfl
theorem Q84.step1 (rec : RK (Int × LMv)) (data : LMv) (a_ b_ pivot i_ j_ : Int) (data2 : LMv) : seg tb (Q84.G N) Q84.A 1 rec (Q84.fin N) segFuel (loopBody Q84.k1) (Q84.st1 data a_ b_ pivot i_ j_ data2) = Q84.s1 N data a_ b_ pivot (fun i_ j_ data2 => rec Q84.k0 (Q84.st0 data a_ b_ pivot i_ j_ data2)) (fun i_ j_ data2 => rec Q84.k1 (Q84.st1 data a_ b_ pivot i_ j_ data2)) (fun i_ j_ data2 => rec Q84.k2 (Q84.st2 data a_ b_ pivot i_ j_ data2)) i_ j_ data2 := by kernel_rfl
theorem Q84.step2 (rec : RK (Int × LMv)) (data : LMv) (a_ b_ pivot i_ j_ : Int) (data2 : LMv) : seg tb (Q84.G N) Q84.A 1 rec (Q84.fin N) segFuel (loopBody Q84.k2) (Q84.st2 data a_ b_ pivot i_ j_ data2) = Q84.s2 N data a_ b_ pivot (fun i_ j_ data2 => rec Q84.k0 (Q84.st0 data a_ b_ pivot i_ j_ data2)) (fun i_ j_ data2 => rec Q84.k1 (Q84.st1 data a_ b_ pivot i_ j_ data2)) (fun i_ j_ data2 => rec Q84.k2 (Q84.st2 data a_ b_ pivot i_ j_ data2)) i_ j_ data2 := by kernel_rfl
theorem Q84.entry (rec : RK (Int × LMv)) (x : (argH Q84.as).den) : seg tb (Q84.G N) Q84.A 1 rec (Q84.fin N) segFuel [.code (bodyOf Try.f84)] (initSt Try.f84 (encArgs Q84.as x) (encMem Q84.as x)) = Q84.e N (fun i_ j_ data2 => rec Q84.k0 (Q84.st0 x.1 x.2.1 x.2.2.1 x.2.2.2.1 i_ j_ data2)) (fun i_ j_ data2 => rec Q84.k1 (Q84.st1 x.1 x.2.1 x.2.2.1 x.2.2.2.1 i_ j_ data2)) (fun i_ j_ data2 => rec Q84.k2 (Q84.st2 x.1 x.2.1 x.2.2.1 x.2.2.2.1 i_ j_ data2)) x.1 x.2.1 x.2.2.1 x.2.2.2.1 := by kernel_rfl
theorem Q84.runs (N : Nat) (data : LMv) (a_ b_ pivot : Int) : ∀ n, (∀ (i_ j_ : Int) (data2 : LMv), run tb (Q84.G N) Q84.A 1 (Q84.fin N) n Q84.k0 (Q84.st0 data a_ b_ pivot i_ j_ data2) = Q84.l0 N data a_ b_ pivot n i_ j_ data2) ∧ (∀ (i_ j_ : Int) (data2 : LMv), run tb (Q84.G N) Q84.A 1 (Q84.fin N) n Q84.k1 (Q84.st1 data a_ b_ pivot i_ j_ data2) = Q84.l1 N data a_ b_ pivot n i_ j_ data2) ∧ (∀ (i_ j_ : Int) (data2 : LMv), run tb (Q84.G N) Q84.A 1 (Q84.fin N) n Q84.k2 (Q84.st2 data a_ b_ pivot i_ j_ data2) = Q84.l2 N data a_ b_ pivot n i_ j_ data2)
 | 0 => ⟨fun _ _ _ => rfl, fun _ _ _ => rfl, fun _ _ _ => rfl⟩
 | n + 1 => by
  obtain ⟨h0, h1, h2⟩ := Q84.runs N data a_ b_ pivot n
  have e0 : (fun (i_ j_ : Int) (data2 : LMv) => run tb (Q84.G N) Q84.A 1 (Q84.fin N) n Q84.k0 (Q84.st0 data a_ b_ pivot i_ j_ data2)) = Q84.l0 N data a_ b_ pivot n := by funext i_ j_ data2; exact h0 i_ j_ data2
  have e1 : (fun (i_ j_ : Int) (data2 : LMv) => run tb (Q84.G N) Q84.A 1 (Q84.fin N) n Q84.k1 (Q84.st1 data a_ b_ pivot i_ j_ data2)) = Q84.l1 N data a_ b_ pivot n := by funext i_ j_ data2; exact h1 i_ j_ data2
  have e2 : (fun (i_ j_ : Int) (data2 : LMv) => run tb (Q84.G N) Q84.A 1 (Q84.fin N) n Q84.k2 (Q84.st2 data a_ b_ pivot i_ j_ data2)) = Q84.l2 N data a_ b_ pivot n := by funext i_ j_ data2; exact h2 i_ j_ data2
  have g0 : (∀ (i_ j_ : Int) (data2 : LMv), run tb (Q84.G N) Q84.A 1 (Q84.fin N) (n + 1) Q84.k0 (Q84.st0 data a_ b_ pivot i_ j_ data2) = Q84.l0 N data a_ b_ pivot (n + 1) i_ j_ data2) := by
   intro i_ j_ data2
   exact (run_succ (by kernel_rfl)).trans ((Q84.step0 N _ data a_ b_ pivot i_ j_ data2).trans ((congr (congr (congrArg (fun r0 r1 r2 => Q84.s0 N data a_ b_ pivot r0 r1 r2 i_ j_ data2) e0) e1) e2).trans (Q84.l0_s N data a_ b_ pivot n i_ j_ data2).symm))
  have g1 : (∀ (i_ j_ : Int) (data2 : LMv), run tb (Q84.G N) Q84.A 1 (Q84.fin N) (n + 1) Q84.k1 (Q84.st1 data a_ b_ pivot i_ j_ data2) = Q84.l1 N data a_ b_ pivot (n + 1) i_ j_ data2) := by
   intro i_ j_ data2
   exact (run_succ (by kernel_rfl)).trans ((Q84.step1 N _ data a_ b_ pivot i_ j_ data2).trans ((congr (congr (congrArg (fun r0 r1 r2 => Q84.s1 N data a_ b_ pivot r0 r1 r2 i_ j_ data2) e0) e1) e2).trans (Q84.l1_s N data a_ b_ pivot n i_ j_ data2).symm))
  have g2 : (∀ (i_ j_ : Int) (data2 : LMv), run tb (Q84.G N) Q84.A 1 (Q84.fin N) (n + 1) Q84.k2 (Q84.st2 data a_ b_ pivot i_ j_ data2) = Q84.l2 N data a_ b_ pivot (n + 1) i_ j_ data2) := by
   intro i_ j_ data2
   exact (run_succ (by kernel_rfl)).trans ((Q84.step2 N _ data a_ b_ pivot i_ j_ data2).trans ((congr (congr (congrArg (fun r0 r1 r2 => Q84.s2 N data a_ b_ pivot r0 r1 r2 i_ j_ data2) e0) e1) e2).trans (Q84.l2_s N data a_ b_ pivot n i_ j_ data2).symm))
  exact ⟨g0, g1, g2⟩
theorem Q84.ok : FnOk Try.prog 84 (Q84.D N) := by
 refine fo ⟨Try.f84, Try.func84, by kernel_rfl, by kernel_rfl, fun x y h => ⟨Q84.G N, Q84.A, N, gamOf_ok (gc ⟨Q68.ok N, Q68.fit N⟩ gn), ?_⟩⟩ (Q84.fit N)
 rw [absFn_n (n0 := 1) rfl (by kernel_rfl)]
 refine (Q84.entry N (run tb (Q84.G N) Q84.A 1 (Q84.fin N) N) x).trans ?_
 have e0 : (fun (i_ j_ : Int) (data2 : LMv) => run tb (Q84.G N) Q84.A 1 (Q84.fin N) N Q84.k0 (Q84.st0 x.1 x.2.1 x.2.2.1 x.2.2.2.1 i_ j_ data2)) = Q84.l0 N x.1 x.2.1 x.2.2.1 x.2.2.2.1 N := by funext i_ j_ data2; exact (Q84.runs N x.1 x.2.1 x.2.2.1 x.2.2.2.1 N).1 i_ j_ data2
 have e1 : (fun (i_ j_ : Int) (data2 : LMv) => run tb (Q84.G N) Q84.A 1 (Q84.fin N) N Q84.k1 (Q84.st1 x.1 x.2.1 x.2.2.1 x.2.2.2.1 i_ j_ data2)) = Q84.l1 N x.1 x.2.1 x.2.2.1 x.2.2.2.1 N := by funext i_ j_ data2; exact (Q84.runs N x.1 x.2.1 x.2.2.1 x.2.2.2.1 N).2.1 i_ j_ data2
 have e2 : (fun (i_ j_ : Int) (data2 : LMv) => run tb (Q84.G N) Q84.A 1 (Q84.fin N) N Q84.k2 (Q84.st2 x.1 x.2.1 x.2.2.1 x.2.2.2.1 i_ j_ data2)) = Q84.l2 N x.1 x.2.1 x.2.2.1 x.2.2.2.1 N := by funext i_ j_ data2; exact (Q84.runs N x.1 x.2.1 x.2.2.1 x.2.2.2.1 N).2.2 i_ j_ data2
 have h' : (Q84.D N).f x = Q84.e N (Q84.l0 N x.1 x.2.1 x.2.2.1 x.2.2.2.1 N) (Q84.l1 N x.1 x.2.1 x.2.2.1 x.2.2.2.1 N) (Q84.l2 N x.1 x.2.1 x.2.2.1 x.2.2.2.1 N) x.1 x.2.1 x.2.2.1 x.2.2.2.1 := by kernel_rfl
 exact (congr (congr (congrArg (fun r0 r1 r2 => Q84.e N r0 r1 r2 x.1 x.2.1 x.2.2.1 x.2.2.2.1) e0) e1) e2).trans (h'.symm.trans h)
def Q85.as : List MK := [.o (.own 31 qc) true, .d false tI, .d false tI, .d false tI, .f 68]
def Q85.rs : List (Bool × HT) := [(false, (.d tI)), (false, (.d .bool))]
def Q85.lc : List AC := [.own 0]
def Q85.D : DFn := ⟨Q85.as, Q85.rs, (Int × Bool × LMv), fun x => Q85 N x.1 x.2.1 x.2.2.1 x.2.2.2.1, fun r o => (r.1, r.2.1, o.1), fun b => (b.1, (b.2.1, ())), fun b => (b.2.2, ()), none⟩
theorem Q85.fit : (Q85.D N).Fit := ⟨fun _ _ => rfl, fun _ _ => rfl, by kernel_rfl, (fun _ _ h => nomatch h), by kernel_rfl⟩
noncomputable def Q85.G : Gam := gamOf [(68, Q68.D N)]
def Q85.A : LA := fun k => bif Nat.beq k 0 then some ⟨[0, 1, 4, 12, 13], [], [], [], [], 1, false⟩ else bif Nat.beq k 2 then some ⟨[0, 1, 4, 12, 13], [], [], [], [], 1, false⟩ else bif Nat.beq k 4 then some ⟨[0, 1, 4, 12, 13], [], [], [], [], 1, false⟩ else bif Nat.beq k 6 then some ⟨[0, 1, 4, 12, 13], [], [], [], [], 1, false⟩ else bif Nat.beq k 8 then some ⟨[0, 1, 4, 12, 13], [], [], [], [], 1, false⟩ else none
noncomputable def Q85.fin : St → Option (Int × Bool × LMv) := resK tb Try.f85.results.toList (decRes (Q85.D N) Q85.lc)
noncomputable def Q85.k0 : List Item := stackAt [.r, .r, .r, .l, .b] (bodyOf Try.f85) []
def Q85.st0 (data : LMv) (a_ b_ pivot i_ : Int) (data2 : LMv) : St := ⟨[.one (.own 0), oi a_, oA, oA, .one (.fn 68)] ++ rA 7 ++ [oi i_, oi (w64 (b_ - 1))] ++ rA 164, [.row 31 qc data2]⟩
noncomputable def Q85.k1 : List Item := stackAt [.r, .r, .r, .r, .l, .b] (bodyOf Try.f85) []
def Q85.st1 (data : LMv) (a_ b_ pivot i_ j_ : Int) (data2 : LMv) : St := ⟨[.one (.own 0), oi a_, oA, oA, .one (.fn 68)] ++ rA 7 ++ [oi i_, oi j_] ++ rA 164, [.row 31 qc data2]⟩
noncomputable def Q85.k2 : List Item := stackAt [.r, .r, .r, .r, .r, .r, .r, .r, .r, .l, .b] (bodyOf Try.f85) []
def Q85.st2 (data : LMv) (a_ b_ pivot i_ j_ : Int) (data2 : LMv) : St := ⟨[.one (.own 0), oi a_, oA, oA, .one (.fn 68)] ++ rA 7 ++ [oi i_, oi j_] ++ rA 164, [.row 31 qc data2]⟩
noncomputable def Q85.k3 : List Item := stackAt [.r, .r, .r, .r, .r, .r, .r, .r, .r, .l, .b, .w, .b, .l, .b] (bodyOf Try.f85) []
def Q85.st3 (data : LMv) (a_ b_ pivot i_ j_ : Int) (data2 : LMv) : St := ⟨[.one (.own 0), oi a_, oA, oA, .one (.fn 68)] ++ rA 7 ++ [oi i_, oi j_] ++ rA 164, [.row 31 qc data2]⟩
noncomputable def Q85.k4 : List Item := stackAt [.r, .r, .r, .r, .r, .r, .r, .r, .r, .l, .b, .w, .b, .r, .l, .b] (bodyOf Try.f85) []
def Q85.st4 (data : LMv) (a_ b_ pivot i_ j_ : Int) (data2 : LMv) : St := ⟨[.one (.own 0), oi a_, oA, oA, .one (.fn 68)] ++ rA 7 ++ [oi i_, oi j_] ++ rA 164, [.row 31 qc data2]⟩
theorem Q85.step0 (rec : RK (Int × Bool × LMv)) (data : LMv) (a_ b_ pivot i_ : Int) (data2 : LMv) : seg tb (Q85.G N) Q85.A 1 rec (Q85.fin N) segFuel (loopBody Q85.k0) (Q85.st0 data a_ b_ pivot i_ data2) = Q85.s0 N data a_ b_ pivot (fun i_ data2 => rec Q85.k0 (Q85.st0 data a_ b_ pivot i_ data2)) (fun i_ j_ data2 => rec Q85.k1 (Q85.st1 data a_ b_ pivot i_ j_ data2)) (fun i_ j_ data2 => rec Q85.k2 (Q85.st2 data a_ b_ pivot i_ j_ data2)) (fun i_ j_ data2 => rec Q85.k3 (Q85.st3 data a_ b_ pivot i_ j_ data2)) (fun i_ j_ data2 => rec Q85.k4 (Q85.st4 data a_ b_ pivot i_ j_ data2)) i_ data2 := by kernel_rfl
theorem Q85.step1 (rec : RK (Int × Bool × LMv)) (data : LMv) (a_ b_ pivot i_ j_ : Int) (data2 : LMv) : seg tb (Q85.G N) Q85.A 1 rec (Q85.fin N) segFuel (loopBody Q85.k1) (Q85.st1 data a_ b_ pivot i_ j_ data2) = Q85.s1 N data a_ b_ pivot (fun i_ data2 => rec Q85.k0 (Q85.st0 data a_ b_ pivot i_ data2)) (fun i_ j_ data2 => rec Q85.k1 (Q85.st1 data a_ b_ pivot i_ j_ data2)) (fun i_ j_ data2 => rec Q85.k2 (Q85.st2 data a_ b_ pivot i_ j_ data2)) (fun i_ j_ data2 => rec Q85.k3 (Q85.st3 data a_ b_ pivot i_ j_ data2)) (fun i_ j_ data2 => rec Q85.k4 (Q85.st4 data a_ b_ pivot i_ j_ data2)) i_ j_ data2 := by kernel_rfl
theorem Q85.step2 (rec : RK (Int × Bool × LMv)) (data : LMv) (a_ b_ pivot i_ j_ : Int) (data2 : LMv) : seg tb (Q85.G N) Q85.A 1 rec (Q85.fin N) segFuel (loopBody Q85.k2) (Q85.st2 data a_ b_ pivot i_ j_ data2) = Q85.s2 N data a_ b_ pivot (fun i_ data2 => rec Q85.k0 (Q85.st0 data a_ b_ pivot i_ data2)) (fun i_ j_ data2 => rec Q85.k1 (Q85.st1 data a_ b_ pivot i_ j_ data2)) (fun i_ j_ data2 => rec Q85.k2 (Q85.st2 data a_ b_ pivot i_ j_ data2)) (fun i_ j_ data2 => rec Q85.k3 (Q85.st3 data a_ b_ pivot i_ j_ data2)) (fun i_ j_ data2 => rec Q85.k4 (Q85.st4 data a_ b_ pivot i_ j_ data2)) i_ j_ data2 := by kernel_rfl
theorem Q85.step3 (rec : RK (Int × Bool × LMv)) (data : LMv) (a_ b_ pivot i_ j_ : Int) (data2 : LMv) : seg tb (Q85.G N) Q85.A 1 rec (Q85.fin N) segFuel (loopBody Q85.k3) (Q85.st3 data a_ b_ pivot i_ j_ data2) = Q85.s3 N data a_ b_ pivot (fun i_ data2 => rec Q85.k0 (Q85.st0 data a_ b_ pivot i_ data2)) (fun i_ j_ data2 => rec Q85.k1 (Q85.st1 data a_ b_ pivot i_ j_ data2)) (fun i_ j_ data2 => rec Q85.k2 (Q85.st2 data a_ b_ pivot i_ j_ data2)) (fun i_ j_ data2 => rec Q85.k3 (Q85.st3 data a_ b_ pivot i_ j_ data2)) (fun i_ j_ data2 => rec Q85.k4 (Q85.st4 data a_ b_ pivot i_ j_ data2)) i_ j_ data2 := by kernel_rfl
theorem Q85.step4 (rec : RK (Int × Bool × LMv)) (data : LMv) (a_ b_ pivot i_ j_ : Int) (data2 : LMv) : seg tb (Q85.G N) Q85.A 1 rec (Q85.fin N) segFuel (loopBody Q85.k4) (Q85.st4 data a_ b_ pivot i_ j_ data2) = Q85.s4 N data a_ b_ pivot (fun i_ data2 => rec Q85.k0 (Q85.st0 data a_ b_ pivot i_ data2)) (fun i_ j_ data2 => rec Q85.k1 (Q85.st1 data a_ b_ pivot i_ j_ data2)) (fun i_ j_ data2 => rec Q85.k2 (Q85.st2 data a_ b_ pivot i_ j_ data2)) (fun i_ j_ data2 => rec Q85.k3 (Q85.st3 data a_ b_ pivot i_ j_ data2)) (fun i_ j_ data2 => rec Q85.k4 (Q85.st4 data a_ b_ pivot i_ j_ data2)) i_ j_ data2 := by kernel_rfl
theorem Q85.entry (rec : RK (Int × Bool × LMv)) (x : (argH Q85.as).den) : seg tb (Q85.G N) Q85.A 1 rec (Q85.fin N) segFuel [.code (bodyOf Try.f85)] (initSt Try.f85 (encArgs Q85.as x) (encMem Q85.as x)) = Q85.e N (fun i_ data2 => rec Q85.k0 (Q85.st0 x.1 x.2.1 x.2.2.1 x.2.2.2.1 i_ data2)) (fun i_ j_ data2 => rec Q85.k1 (Q85.st1 x.1 x.2.1 x.2.2.1 x.2.2.2.1 i_ j_ data2)) (fun i_ j_ data2 => rec Q85.k2 (Q85.st2 x.1 x.2.1 x.2.2.1 x.2.2.2.1 i_ j_ data2)) (fun i_ j_ data2 => rec Q85.k3 (Q85.st3 x.1 x.2.1 x.2.2.1 x.2.2.2.1 i_ j_ data2)) (fun i_ j_ data2 => rec Q85.k4 (Q85.st4 x.1 x.2.1 x.2.2.1 x.2.2.2.1 i_ j_ data2)) x.1 x.2.1 x.2.2.1 x.2.2.2.1 := by kernel_rfl
theorem Q85.runs (N : Nat) (data : LMv) (a_ b_ pivot : Int) : ∀ n, (∀ (i_ : Int) (data2 : LMv), run tb (Q85.G N) Q85.A 1 (Q85.fin N) n Q85.k0 (Q85.st0 data a_ b_ pivot i_ data2) = Q85.l0 N data a_ b_ pivot n i_ data2) ∧ (∀ (i_ j_ : Int) (data2 : LMv), run tb (Q85.G N) Q85.A 1 (Q85.fin N) n Q85.k1 (Q85.st1 data a_ b_ pivot i_ j_ data2) = Q85.l1 N data a_ b_ pivot n i_ j_ data2) ∧ (∀ (i_ j_ : Int) (data2 : LMv), run tb (Q85.G N) Q85.A 1 (Q85.fin N) n Q85.k2 (Q85.st2 data a_ b_ pivot i_ j_ data2) = Q85.l2 N data a_ b_ pivot n i_ j_ data2) ∧ (∀ (i_ j_ : Int) (data2 : LMv), run tb (Q85.G N) Q85.A 1 (Q85.fin N) n Q85.k3 (Q85.st3 data a_ b_ pivot i_ j_ data2) = Q85.l3 N data a_ b_ pivot n i_ j_ data2) ∧ (∀ (i_ j_ : Int) (data2 : LMv), run tb (Q85.G N) Q85.A 1 (Q85.fin N) n Q85.k4 (Q85.st4 data a_ b_ pivot i_ j_ data2) = Q85.l4 N data a_ b_ pivot n i_ j_ data2)
 | 0 => ⟨fun _ _ => rfl, fun _ _ _ => rfl, fun _ _ _ => rfl, fun _ _ _ => rfl, fun _ _ _ => rfl⟩
 | n + 1 => by
  obtain ⟨h0, h1, h2, h3, h4⟩ := Q85.runs N data a_ b_ pivot n
  have e0 : (fun (i_ : Int) (data2 : LMv) => run tb (Q85.G N) Q85.A 1 (Q85.fin N) n Q85.k0 (Q85.st0 data a_ b_ pivot i_ data2)) = Q85.l0 N data a_ b_ pivot n := by funext i_ data2; exact h0 i_ data2
  have e1 : (fun (i_ j_ : Int) (data2 : LMv) => run tb (Q85.G N) Q85.A 1 (Q85.fin N) n Q85.k1 (Q85.st1 data a_ b_ pivot i_ j_ data2)) = Q85.l1 N data a_ b_ pivot n := by funext i_ j_ data2; exact h1 i_ j_ data2
  have e2 : (fun (i_ j_ : Int) (data2 : LMv) => run tb (Q85.G N) Q85.A 1 (Q85.fin N) n Q85.k2 (Q85.st2 data a_ b_ pivot i_ j_ data2)) = Q85.l2 N data a_ b_ pivot n := by funext i_ j_ data2; exact h2 i_ j_ data2
  have e3 : (fun (i_ j_ : Int) (data2 : LMv) => run tb (Q85.G N) Q85.A 1 (Q85.fin N) n Q85.k3 (Q85.st3 data a_ b_ pivot i_ j_ data2)) = Q85.l3 N data a_ b_ pivot n := by funext i_ j_ data2; exact h3 i_ j_ data2
  have e4 : (fun (i_ j_ : Int) (data2 : LMv) => run tb (Q85.G N) Q85.A 1 (Q85.fin N) n Q85.k4 (Q85.st4 data a_ b_ pivot i_ j_ data2)) = Q85.l4 N data a_ b_ pivot n := by funext i_ j_ data2; exact h4 i_ j_ data2
  have g0 : (∀ (i_ : Int) (data2 : LMv), run tb (Q85.G N) Q85.A 1 (Q85.fin N) (n + 1) Q85.k0 (Q85.st0 data a_ b_ pivot i_ data2) = Q85.l0 N data a_ b_ pivot (n + 1) i_ data2) := by
   intro i_ data2
   exact (run_succ (by kernel_rfl)).trans ((Q85.step0 N _ data a_ b_ pivot i_ data2).trans ((congr (congr (congr (congr (congrArg (fun r0 r1 r2 r3 r4 => Q85.s0 N data a_ b_ pivot r0 r1 r2 r3 r4 i_ data2) e0) e1) e2) e3) e4).trans (Q85.l0_s N data a_ b_ pivot n i_ data2).symm))
  have g1 : (∀ (i_ j_ : Int) (data2 : LMv), run tb (Q85.G N) Q85.A 1 (Q85.fin N) (n + 1) Q85.k1 (Q85.st1 data a_ b_ pivot i_ j_ data2) = Q85.l1 N data a_ b_ pivot (n + 1) i_ j_ data2) := by
   intro i_ j_ data2
   exact (run_succ (by kernel_rfl)).trans ((Q85.step1 N _ data a_ b_ pivot i_ j_ data2).trans ((congr (congr (congr (congr (congrArg (fun r0 r1 r2 r3 r4 => Q85.s1 N data a_ b_ pivot r0 r1 r2 r3 r4 i_ j_ data2) e0) e1) e2) e3) e4).trans (Q85.l1_s N data a_ b_ pivot n i_ j_ data2).symm))
  have g2 : (∀ (i_ j_ : Int) (data2 : LMv), run tb (Q85.G N) Q85.A 1 (Q85.fin N) (n + 1) Q85.k2 (Q85.st2 data a_ b_ pivot i_ j_ data2) = Q85.l2 N data a_ b_ pivot (n + 1) i_ j_ data2) := by
   intro i_ j_ data2
   exact (run_succ (by kernel_rfl)).trans ((Q85.step2 N _ data a_ b_ pivot i_ j_ data2).trans ((congr (congr (congr (congr (congrArg (fun r0 r1 r2 r3 r4 => Q85.s2 N data a_ b_ pivot r0 r1 r2 r3 r4 i_ j_ data2) e0) e1) e2) e3) e4).trans (Q85.l2_s N data a_ b_ pivot n i_ j_ data2).symm))
  have g3 : (∀ (i_ j_ : Int) (data2 : LMv), run tb (Q85.G N) Q85.A 1 (Q85.fin N) (n + 1) Q85.k3 (Q85.st3 data a_ b_ pivot i_ j_ data2) = Q85.l3 N data a_ b_ pivot (n + 1) i_ j_ data2) := by
   intro i_ j_ data2
   exact (run_succ (by kernel_rfl)).trans ((Q85.step3 N _ data a_ b_ pivot i_ j_ data2).trans ((congr (congr (congr (congr (congrArg (fun r0 r1 r2 r3 r4 => Q85.s3 N data a_ b_ pivot r0 r1 r2 r3 r4 i_ j_ data2) e0) e1) e2) e3) e4).trans (Q85.l3_s N data a_ b_ pivot n i_ j_ data2).symm))
  have g4 : (∀ (i_ j_ : Int) (data2 : LMv), run tb (Q85.G N) Q85.A 1 (Q85.fin N) (n + 1) Q85.k4 (Q85.st4 data a_ b_ pivot i_ j_ data2) = Q85.l4 N data a_ b_ pivot (n + 1) i_ j_ data2) := by
   intro i_ j_ data2
   exact (run_succ (by kernel_rfl)).trans ((Q85.step4 N _ data a_ b_ pivot i_ j_ data2).trans ((congr (congr (congr (congr (congrArg (fun r0 r1 r2 r3 r4 => Q85.s4 N data a_ b_ pivot r0 r1 r2 r3 r4 i_ j_ data2) e0) e1) e2) e3) e4).trans (Q85.l4_s N data a_ b_ pivot n i_ j_ data2).symm))
  exact ⟨g0, g1, g2, g3, g4⟩
theorem Q85.ok : FnOk Try.prog 85 (Q85.D N) := by
 refine fo ⟨Try.f85, Try.func85, by kernel_rfl, by kernel_rfl, fun x y h => ⟨Q85.G N, Q85.A, N, gamOf_ok (gc ⟨Q68.ok N, Q68.fit N⟩ gn), ?_⟩⟩ (Q85.fit N)
 rw [absFn_n (n0 := 1) rfl (by kernel_rfl)]
 refine (Q85.entry N (run tb (Q85.G N) Q85.A 1 (Q85.fin N) N) x).trans ?_
 have e0 : (fun (i_ : Int) (data2 : LMv) => run tb (Q85.G N) Q85.A 1 (Q85.fin N) N Q85.k0 (Q85.st0 x.1 x.2.1 x.2.2.1 x.2.2.2.1 i_ data2)) = Q85.l0 N x.1 x.2.1 x.2.2.1 x.2.2.2.1 N := by funext i_ data2; exact (Q85.runs N x.1 x.2.1 x.2.2.1 x.2.2.2.1 N).1 i_ data2
 have e1 : (fun (i_ j_ : Int) (data2 : LMv) => run tb (Q85.G N) Q85.A 1 (Q85.fin N) N Q85.k1 (Q85.st1 x.1 x.2.1 x.2.2.1 x.2.2.2.1 i_ j_ data2)) = Q85.l1 N x.1 x.2.1 x.2.2.1 x.2.2.2.1 N := by funext i_ j_ data2; exact (Q85.runs N x.1 x.2.1 x.2.2.1 x.2.2.2.1 N).2.1 i_ j_ data2
 have e2 : (fun (i_ j_ : Int) (data2 : LMv) => run tb (Q85.G N) Q85.A 1 (Q85.fin N) N Q85.k2 (Q85.st2 x.1 x.2.1 x.2.2.1 x.2.2.2.1 i_ j_ data2)) = Q85.l2 N x.1 x.2.1 x.2.2.1 x.2.2.2.1 N := by funext i_ j_ data2; exact (Q85.runs N x.1 x.2.1 x.2.2.1 x.2.2.2.1 N).2.2.1 i_ j_ data2
 have e3 : (fun (i_ j_ : Int) (data2 : LMv) => run tb (Q85.G N) Q85.A 1 (Q85.fin N) N Q85.k3 (Q85.st3 x.1 x.2.1 x.2.2.1 x.2.2.2.1 i_ j_ data2)) = Q85.l3 N x.1 x.2.1 x.2.2.1 x.2.2.2.1 N := by funext i_ j_ data2; exact (Q85.runs N x.1 x.2.1 x.2.2.1 x.2.2.2.1 N).2.2.2.1 i_ j_ data2
 have e4 : (fun (i_ j_ : Int) (data2 : LMv) => run tb (Q85.G N) Q85.A 1 (Q85.fin N) N Q85.k4 (Q85.st4 x.1 x.2.1 x.2.2.1 x.2.2.2.1 i_ j_ data2)) = Q85.l4 N x.1 x.2.1 x.2.2.1 x.2.2.2.1 N := by funext i_ j_ data2; exact (Q85.runs N x.1 x.2.1 x.2.2.1 x.2.2.2.1 N).2.2.2.2 i_ j_ data2
 have h' : (Q85.D N).f x = Q85.e N (Q85.l0 N x.1 x.2.1 x.2.2.1 x.2.2.2.1 N) (Q85.l1 N x.1 x.2.1 x.2.2.1 x.2.2.2.1 N) (Q85.l2 N x.1 x.2.1 x.2.2.1 x.2.2.2.1 N) (Q85.l3 N x.1 x.2.1 x.2.2.1 x.2.2.2.1 N) (Q85.l4 N x.1 x.2.1 x.2.2.1 x.2.2.2.1 N) x.1 x.2.1 x.2.2.1 x.2.2.2.1 := by kernel_rfl
 exact (congr (congr (congr (congr (congrArg (fun r0 r1 r2 r3 r4 => Q85.e N r0 r1 r2 r3 r4 x.1 x.2.1 x.2.2.1 x.2.2.2.1) e0) e1) e2) e3) e4).trans (h'.symm.trans h)
def Q90.as : List MK := [.d false tI]
def Q90.rs : List (Bool × HT) := [(false, (.d (.int .u64)))]
def Q90.lc : List AC := []
def Q90.D : DFn := ⟨Q90.as, Q90.rs, Int, fun x => Q90 N x.1, fun r o => r.1, fun b => (b, ()), fun b => (), none⟩
theorem Q90.fit : (Q90.D N).Fit := ⟨fun _ _ => rfl, fun _ _ => rfl, by kernel_rfl, (fun _ _ h => nomatch h), by kernel_rfl⟩
noncomputable def Q90.G : Gam := gamOf [(74, Q74.D N)]
def Q90.A : LA := fun _ => none
noncomputable def Q90.fin : St → Option Int := resK tb Try.f90.results.toList (decRes (Q90.D N) Q90.lc)
theorem Q90.entry (rec : RK Int) (x : (argH Q90.as).den) : seg tb (Q90.G N) Q90.A 0 rec (Q90.fin N) segFuel [.code (bodyOf Try.f90)] (initSt Try.f90 (encArgs Q90.as x) (encMem Q90.as x)) = Q90.e N x.1 := by kernel_rfl
theorem Q90.ok : FnOk Try.prog 90 (Q90.D N) := by
 refine fo ⟨Try.f90, Try.func90, by kernel_rfl, by kernel_rfl, fun x y h => ⟨Q90.G N, Q90.A, N, gamOf_ok (gc ⟨Q74.ok N, Q74.fit N⟩ gn), ?_⟩⟩ (Q90.fit N)
 rw [absFn_n (n0 := 0) rfl (by kernel_rfl)]
 exact (Q90.entry N _ x).trans h
def Q91.as : List MK := [.o (.ptr 141 (.d (.int .u64))) true]
def Q91.rs : List (Bool × HT) := [(false, (.d (.int .u64)))]
def Q91.lc : List AC := [.ptr 0 0]
def Q91.D : DFn := ⟨Q91.as, Q91.rs, (Int × Int), fun x => Q91 N x.1, fun r o => (r.1, o.1), fun b => (b.1, ()), fun b => (b.2, ()), none⟩
theorem Q91.fit : (Q91.D N).Fit := ⟨fun _ _ => rfl, fun _ _ => rfl, by kernel_rfl, (fun _ _ h => nomatch h), by kernel_rfl⟩
noncomputable def Q91.G (N : Nat) : Gam := gamOf []
def Q91.A : LA := fun _ => none
noncomputable def Q91.fin : St → Option (Int × Int) := resK tb Try.f91.results.toList (decRes (Q91.D N) Q91.lc)
theorem Q91.entry (rec : RK (Int × Int)) (x : (argH Q91.as).den) : seg tb (Q91.G N) Q91.A 1 rec (Q91.fin N) segFuel [.code (bodyOf Try.f91)] (initSt Try.f91 (encArgs Q91.as x) (encMem Q91.as x)) = Q91.e N x.1 := by kernel_rfl
theorem Q91.ok : FnOk Try.prog 91 (Q91.D N) := by
 refine fo ⟨Try.f91, Try.func91, by kernel_rfl, by kernel_rfl, fun x y h => ⟨Q91.G N, Q91.A, N, gamOf_ok (fun p hp => nomatch hp), ?_⟩⟩ (Q91.fit N)
 rw [absFn_n (n0 := 1) rfl (by kernel_rfl)]
 exact (Q91.entry N _ x).trans h
def Q80.as : List MK := [.o (.own 31 qc) true, .d false tI, .d false tI, .f 68]
def Q80.rs : List (Bool × HT) := []
def Q80.lc : List AC := [.own 0]
def Q80.D : DFn := ⟨Q80.as, Q80.rs, LMv, fun x => Q80 N x.1 x.2.1 x.2.2.1, fun r o => o.1, fun b => (), fun b => (b, ()), none⟩
theorem Q80.fit : (Q80.D N).Fit := ⟨fun _ _ => rfl, fun _ _ => rfl, by kernel_rfl, (fun _ _ h => nomatch h), by kernel_rfl⟩
noncomputable def Q80.G : Gam := gamOf [(90, Q90.D N), (91, Q91.D N)]
def Q80.A : LA := fun k => bif Nat.beq k 0 then some ⟨[0, 1, 8, 9, 10, 11], [], [], [], [], 2, false⟩ else none
noncomputable def Q80.fin : St → Option LMv := resK tb Try.f80.results.toList (decRes (Q80.D N) Q80.lc)
noncomputable def Q80.k0 : List Item := stackAt [.r, .r, .t, .r, .r, .r, .b] (bodyOf Try.f80) []
def Q80.st0 (data : LMv) (a_ b_ modulus idx : Int) (data2 : LMv) (random : Int) : St := ⟨[.one (.own 0), oi a_] ++ rA 6 ++ [oi (w64 (b_ - a_)), .one (.ptr 1 0), .one (.int .u64 modulus), oi idx] ++ rA 55, [.row 31 qc data2, .var 141 [.int .u64 random]]⟩
theorem Q80.step0 (rec : RK LMv) (data : LMv) (a_ b_ modulus idx : Int) (data2 : LMv) (random : Int) : seg tb (Q80.G N) Q80.A 1 rec (Q80.fin N) segFuel (loopBody Q80.k0) (Q80.st0 data a_ b_ modulus idx data2 random) = Q80.s0 N data a_ b_ (fun modulus idx data2 random => rec Q80.k0 (Q80.st0 data a_ b_ modulus idx data2 random)) modulus idx data2 random := by kernel_rfl
theorem Q80.entry (rec : RK LMv) (x : (argH Q80.as).den) : seg tb (Q80.G N) Q80.A 1 rec (Q80.fin N) segFuel [.code (bodyOf Try.f80)] (initSt Try.f80 (encArgs Q80.as x) (encMem Q80.as x)) = Q80.e N (fun modulus idx data2 random => rec Q80.k0 (Q80.st0 x.1 x.2.1 x.2.2.1 modulus idx data2 random)) x.1 x.2.1 x.2.2.1 := by kernel_rfl
theorem Q80.runs (N : Nat) (data : LMv) (a_ b_ : Int) : ∀ n, (∀ (modulus idx : Int) (data2 : LMv) (random : Int), run tb (Q80.G N) Q80.A 1 (Q80.fin N) n Q80.k0 (Q80.st0 data a_ b_ modulus idx data2 random) = Q80.l0 N data a_ b_ n modulus idx data2 random)
 | 0 => fun _ _ _ _ => rfl
 | n + 1 => by
  have h0 := Q80.runs N data a_ b_ n
  have e0 : (fun (modulus idx : Int) (data2 : LMv) (random : Int) => run tb (Q80.G N) Q80.A 1 (Q80.fin N) n Q80.k0 (Q80.st0 data a_ b_ modulus idx data2 random)) = Q80.l0 N data a_ b_ n := by funext modulus idx data2 random; exact h0 modulus idx data2 random
  have g0 : (∀ (modulus idx : Int) (data2 : LMv) (random : Int), run tb (Q80.G N) Q80.A 1 (Q80.fin N) (n + 1) Q80.k0 (Q80.st0 data a_ b_ modulus idx data2 random) = Q80.l0 N data a_ b_ (n + 1) modulus idx data2 random) := by
   intro modulus idx data2 random
   exact (run_succ (by kernel_rfl)).trans ((Q80.step0 N _ data a_ b_ modulus idx data2 random).trans ((congrArg (fun r0 => Q80.s0 N data a_ b_ r0 modulus idx data2 random) e0).trans (Q80.l0_s N data a_ b_ n modulus idx data2 random).symm))
  exact g0
theorem Q80.ok : FnOk Try.prog 80 (Q80.D N) := by
 refine fo ⟨Try.f80, Try.func80, by kernel_rfl, by kernel_rfl, fun x y h => ⟨Q80.G N, Q80.A, N, gamOf_ok (gc ⟨Q90.ok N, Q90.fit N⟩ (gc ⟨Q91.ok N, Q91.fit N⟩ gn)), ?_⟩⟩ (Q80.fit N)
 rw [absFn_n (n0 := 1) rfl (by kernel_rfl)]
 refine (Q80.entry N (run tb (Q80.G N) Q80.A 1 (Q80.fin N) N) x).trans ?_
 have e0 : (fun (modulus idx : Int) (data2 : LMv) (random : Int) => run tb (Q80.G N) Q80.A 1 (Q80.fin N) N Q80.k0 (Q80.st0 x.1 x.2.1 x.2.2.1 modulus idx data2 random)) = Q80.l0 N x.1 x.2.1 x.2.2.1 N := by funext modulus idx data2 random; exact (Q80.runs N x.1 x.2.1 x.2.2.1 N) modulus idx data2 random
 have h' : (Q80.D N).f x = Q80.e N (Q80.l0 N x.1 x.2.1 x.2.2.1 N) x.1 x.2.1 x.2.2.1 := by kernel_rfl
 exact (congrArg (fun r0 => Q80.e N r0 x.1 x.2.1 x.2.2.1) e0).trans (h'.symm.trans h)
def Q73.as : List MK := [.o (.own 31 qc) true, .d false tI, .d false tI, .d false tI, .f 68]
def Q73.rs : List (Bool × HT) := []
def Q73.lc : List AC := [.own 0]
def Q73.D : DFn := ⟨Q73.as, Q73.rs, LMv, fun x => Q73 N x.1 x.2.1 x.2.2.1 x.2.2.2.1, fun r o => o.1, fun b => (), fun b => (b, ()), none⟩
theorem Q73.fit : (Q73.D N).Fit := ⟨fun _ _ => rfl, fun _ _ => rfl, by kernel_rfl, (fun _ _ h => nomatch h), by kernel_rfl⟩
noncomputable def Q73.G : Gam := gamOf [(78, Q78.D N), (79, Q79.D N), (80, Q80.D N), (81, Q81.D N), (82, Q82.D N), (83, Q83.D N), (68, Q68.D N), (84, Q84.D N), (85, Q85.D N), (73, Q73.D N)]
def Q73.A : LA := fun k => bif Nat.beq k 0 then some ⟨[0, 1, 2, 3, 4, 10, 11], [], [], [], [], 1, false⟩ else none
noncomputable def Q73.fin : St → Option LMv := resK tb Try.f73.results.toList (decRes (Q73.D (N + 1)) Q73.lc)
noncomputable def Q73.k0 : List Item := stackAt [.r, .r, .b] (bodyOf Try.f73) []
def Q73.st0 (data : LMv) (a_ b_ limit a_2 b_2 limit2 : Int) (wasBalanced wasPartitioned : Bool) (data2 : LMv) : St := ⟨[.one (.own 0), oi a_2, oi b_2, oi limit2, .one (.fn 68)] ++ rA 5 ++ [.one (.bool wasBalanced), .one (.bool wasPartitioned)] ++ rA 136, [.row 31 qc data2]⟩
theorem Q73.step0_tt (rec : RK LMv) (data : LMv) (a_ b_ limit a_2 b_2 limit2 : Int) (data2 : LMv) : seg tb (Q73.G N) Q73.A 1 rec (Q73.fin N) segFuel (loopBody Q73.k0) (Q73.st0 data a_ b_ limit a_2 b_2 limit2 true true data2) = Q73.s0 N (Q73 N) data a_ b_ limit (fun a_2 b_2 limit2 wasBalanced wasPartitioned data2 => rec Q73.k0 (Q73.st0 data a_ b_ limit a_2 b_2 limit2 wasBalanced wasPartitioned data2)) a_2 b_2 limit2 true true data2 := by kernel_rfl
theorem Q73.step0_tf (rec : RK LMv) (data : LMv) (a_ b_ limit a_2 b_2 limit2 : Int) (data2 : LMv) : seg tb (Q73.G N) Q73.A 1 rec (Q73.fin N) segFuel (loopBody Q73.k0) (Q73.st0 data a_ b_ limit a_2 b_2 limit2 true false data2) = Q73.s0 N (Q73 N) data a_ b_ limit (fun a_2 b_2 limit2 wasBalanced wasPartitioned data2 => rec Q73.k0 (Q73.st0 data a_ b_ limit a_2 b_2 limit2 wasBalanced wasPartitioned data2)) a_2 b_2 limit2 true false data2 := by kernel_rfl
theorem Q73.step0_ft (rec : RK LMv) (data : LMv) (a_ b_ limit a_2 b_2 limit2 : Int) (data2 : LMv) : seg tb (Q73.G N) Q73.A 1 rec (Q73.fin N) segFuel (loopBody Q73.k0) (Q73.st0 data a_ b_ limit a_2 b_2 limit2 false true data2) = Q73.s0 N (Q73 N) data a_ b_ limit (fun a_2 b_2 limit2 wasBalanced wasPartitioned data2 => rec Q73.k0 (Q73.st0 data a_ b_ limit a_2 b_2 limit2 wasBalanced wasPartitioned data2)) a_2 b_2 limit2 false true data2 := by kernel_rfl
theorem Q73.step0_ff (rec : RK LMv) (data : LMv) (a_ b_ limit a_2 b_2 limit2 : Int) (data2 : LMv) : seg tb (Q73.G N) Q73.A 1 rec (Q73.fin N) segFuel (loopBody Q73.k0) (Q73.st0 data a_ b_ limit a_2 b_2 limit2 false false data2) = Q73.s0 N (Q73 N) data a_ b_ limit (fun a_2 b_2 limit2 wasBalanced wasPartitioned data2 => rec Q73.k0 (Q73.st0 data a_ b_ limit a_2 b_2 limit2 wasBalanced wasPartitioned data2)) a_2 b_2 limit2 false false data2 := by kernel_rfl
theorem Q73.step0 (rec : RK LMv) (data : LMv) (a_ b_ limit a_2 b_2 limit2 : Int) (wasBalanced wasPartitioned : Bool) (data2 : LMv) : seg tb (Q73.G N) Q73.A 1 rec (Q73.fin N) segFuel (loopBody Q73.k0) (Q73.st0 data a_ b_ limit a_2 b_2 limit2 wasBalanced wasPartitioned data2) = Q73.s0 N (Q73 N) data a_ b_ limit (fun a_2 b_2 limit2 wasBalanced wasPartitioned data2 => rec Q73.k0 (Q73.st0 data a_ b_ limit a_2 b_2 limit2 wasBalanced wasPartitioned data2)) a_2 b_2 limit2 wasBalanced wasPartitioned data2 := match wasBalanced, wasPartitioned with | true, true => Q73.step0_tt N rec data a_ b_ limit a_2 b_2 limit2 data2 | true, false => Q73.step0_tf N rec data a_ b_ limit a_2 b_2 limit2 data2 | false, true => Q73.step0_ft N rec data a_ b_ limit a_2 b_2 limit2 data2 | false, false => Q73.step0_ff N rec data a_ b_ limit a_2 b_2 limit2 data2
theorem Q73.entry (rec : RK LMv) (x : (argH Q73.as).den) : seg tb (Q73.G N) Q73.A 1 rec (Q73.fin N) segFuel [.code (bodyOf Try.f73)] (initSt Try.f73 (encArgs Q73.as x) (encMem Q73.as x)) = Q73.e N (Q73 N) (fun a_2 b_2 limit2 wasBalanced wasPartitioned data2 => rec Q73.k0 (Q73.st0 x.1 x.2.1 x.2.2.1 x.2.2.2.1 a_2 b_2 limit2 wasBalanced wasPartitioned data2)) x.1 x.2.1 x.2.2.1 x.2.2.2.1 := by kernel_rfl
theorem Q73.runs (N : Nat) (data : LMv) (a_ b_ limit : Int) : ∀ n, (∀ (a_2 b_2 limit2 : Int) (wasBalanced wasPartitioned : Bool) (data2 : LMv), run tb (Q73.G N) Q73.A 1 (Q73.fin N) n Q73.k0 (Q73.st0 data a_ b_ limit a_2 b_2 limit2 wasBalanced wasPartitioned data2) = Q73.l0 N (Q73 N) data a_ b_ limit n a_2 b_2 limit2 wasBalanced wasPartitioned data2)
 | 0 => fun _ _ _ _ _ _ => rfl
 | n + 1 => by
  have h0 := Q73.runs N data a_ b_ limit n
  have e0 : (fun (a_2 b_2 limit2 : Int) (wasBalanced wasPartitioned : Bool) (data2 : LMv) => run tb (Q73.G N) Q73.A 1 (Q73.fin N) n Q73.k0 (Q73.st0 data a_ b_ limit a_2 b_2 limit2 wasBalanced wasPartitioned data2)) = Q73.l0 N (Q73 N) data a_ b_ limit n := by funext a_2 b_2 limit2 wasBalanced wasPartitioned data2; exact h0 a_2 b_2 limit2 wasBalanced wasPartitioned data2
  have g0 : (∀ (a_2 b_2 limit2 : Int) (wasBalanced wasPartitioned : Bool) (data2 : LMv), run tb (Q73.G N) Q73.A 1 (Q73.fin N) (n + 1) Q73.k0 (Q73.st0 data a_ b_ limit a_2 b_2 limit2 wasBalanced wasPartitioned data2) = Q73.l0 N (Q73 N) data a_ b_ limit (n + 1) a_2 b_2 limit2 wasBalanced wasPartitioned data2) := by
   intro a_2 b_2 limit2 wasBalanced wasPartitioned data2
   exact (run_succ (by kernel_rfl)).trans ((Q73.step0 N _ data a_ b_ limit a_2 b_2 limit2 wasBalanced wasPartitioned data2).trans ((congrArg (fun r0 => Q73.s0 N (Q73 N) data a_ b_ limit r0 a_2 b_2 limit2 wasBalanced wasPartitioned data2) e0).trans (Q73.l0_s N (Q73 N) data a_ b_ limit n a_2 b_2 limit2 wasBalanced wasPartitioned data2).symm))
  exact g0
theorem Q73.ok1 (ih : FnOk Try.prog 73 (Q73.D N)) : FnOk Try.prog 73 (Q73.D (N + 1)) := by
 refine fo ⟨Try.f73, Try.func73, by kernel_rfl, by kernel_rfl, fun x y h => ⟨Q73.G N, Q73.A, N, gamOf_ok (by simp only [List.forall_mem_cons, List.not_mem_nil, false_implies, implies_true, and_true]; exact ⟨⟨Q78.ok N, Q78.fit N⟩, ⟨Q79.ok N, Q79.fit N⟩, ⟨Q80.ok N, Q80.fit N⟩, ⟨Q81.ok N, Q81.fit N⟩, ⟨Q82.ok N, Q82.fit N⟩, ⟨Q83.ok N, Q83.fit N⟩, ⟨Q68.ok N, Q68.fit N⟩, ⟨Q84.ok N, Q84.fit N⟩, ⟨Q85.ok N, Q85.fit N⟩, ⟨ih, Q73.fit N⟩⟩), ?_⟩⟩ (Q73.fit (N + 1))
 rw [absFn_n (n0 := 1) rfl (by kernel_rfl)]
 refine (Q73.entry N (run tb (Q73.G N) Q73.A 1 (Q73.fin N) N) x).trans ?_
 have e0 : (fun (a_2 b_2 limit2 : Int) (wasBalanced wasPartitioned : Bool) (data2 : LMv) => run tb (Q73.G N) Q73.A 1 (Q73.fin N) N Q73.k0 (Q73.st0 x.1 x.2.1 x.2.2.1 x.2.2.2.1 a_2 b_2 limit2 wasBalanced wasPartitioned data2)) = Q73.l0 N (Q73 N) x.1 x.2.1 x.2.2.1 x.2.2.2.1 N := by funext a_2 b_2 limit2 wasBalanced wasPartitioned data2; exact (Q73.runs N x.1 x.2.1 x.2.2.1 x.2.2.2.1 N) a_2 b_2 limit2 wasBalanced wasPartitioned data2
 have h' : (Q73.D (N + 1)).f x = Q73.e N (Q73 N) (Q73.l0 N (Q73 N) x.1 x.2.1 x.2.2.1 x.2.2.2.1 N) x.1 x.2.1 x.2.2.1 x.2.2.2.1 := by kernel_rfl
 exact (congrArg (fun r0 => Q73.e N (Q73 N) r0 x.1 x.2.1 x.2.2.1 x.2.2.2.1) e0).trans (h'.symm.trans h)
theorem Q73.ok : ∀ N, FnOk Try.prog 73 (Q73.D N)
 | 0 => FnOk_none Try.func73 (by kernel_rfl) (by kernel_rfl) (fun x => rfl)
 | N + 1 => Q73.ok1 N (Q73.ok N)
def Q67.as : List MK := [.o (.own 31 qc) true, .f 68]
def Q67.rs : List (Bool × HT) := []
def Q67.lc : List AC := [.own 0]
def Q67.D : DFn := ⟨Q67.as, Q67.rs, LMv, fun x => Q67 N x.1, fun r o => o.1, fun b => (), fun b => (b, ()), none⟩
theorem Q67.fit : (Q67.D N).Fit := ⟨fun _ _ => rfl, fun _ _ => rfl, by kernel_rfl, (fun _ _ h => nomatch h), by kernel_rfl⟩
noncomputable def Q67.G : Gam := gamOf [(74, Q74.D N), (73, Q73.D N)]
def Q67.A : LA := fun _ => none
noncomputable def Q67.fin : St → Option LMv := resK tb Try.f67.results.toList (decRes (Q67.D N) Q67.lc)
theorem Q67.entry (rec : RK LMv) (x : (argH Q67.as).den) : seg tb (Q67.G N) Q67.A 1 rec (Q67.fin N) segFuel [.code (bodyOf Try.f67)] (initSt Try.f67 (encArgs Q67.as x) (encMem Q67.as x)) = Q67.e N x.1 := by kernel_rfl
theorem Q67.ok : FnOk Try.prog 67 (Q67.D N) := by
 refine fo ⟨Try.f67, Try.func67, by kernel_rfl, by kernel_rfl, fun x y h => ⟨Q67.G N, Q67.A, N, gamOf_ok (gc ⟨Q74.ok N, Q74.fit N⟩ (gc ⟨Q73.ok N, Q73.fit N⟩ gn)), ?_⟩⟩ (Q67.fit N)
 rw [absFn_n (n0 := 1) rfl (by kernel_rfl)]
 exact (Q67.entry N _ x).trans h
def Q69.as : List MK := [.o (.own 31 qc) false]
def Q69.rs : List (Bool × HT) := [(false, (.own 31 qc))]
def Q69.lc : List AC := []
def Q69.D : DFn := ⟨Q69.as, Q69.rs, LMv, fun x => Q69 N x.1, fun r o => r.1, fun b => (b, ()), fun b => (), none⟩
theorem Q69.fit : (Q69.D N).Fit := ⟨fun _ _ => rfl, fun _ _ => rfl, by kernel_rfl, (fun _ _ h => nomatch h), by kernel_rfl⟩
noncomputable def Q69.G (N : Nat) : Gam := gamOf []
def Q69.A : LA := fun k => bif Nat.beq k 0 then some ⟨[0, 3], [], [], [], [], 1, false⟩ else bif Nat.beq k 2 then some ⟨[0, 3, 4, 5], [], [], [], [], 1, false⟩ else none
noncomputable def Q69.fin : St → Option LMv := resK tb Try.f69.results.toList (decRes (Q69.D N) Q69.lc)
noncomputable def Q69.k0 : List Item := stackAt [.r, .r, .l, .r, .b] (bodyOf Try.f69) []
def Q69.st0 (s_ : LMv) (k_ : Int) : St := ⟨[.one (.own 0), oA, oA, oi k_] ++ rA 57, [.row 31 qc s_]⟩
noncomputable def Q69.k1 : List Item := stackAt [.r, .r, .l, .r, .b, .w, .r, .l, .b, .r, .t, .r, .l, .r, .b] (bodyOf Try.f69) []
def Q69.st1 (s_ : LMv) (k_ s2_ k2_ : Int) (s_2 : LMv) : St := ⟨[.one (.own 0), oA, oA, oi k_, .one (.vw 0 s2_ 3), oi k2_] ++ rA 55, [.row 31 qc s_2]⟩
theorem Q69.step0 (rec : RK LMv) (s_ : LMv) (k_ : Int) : seg tb (Q69.G N) Q69.A 1 rec (Q69.fin N) segFuel (loopBody Q69.k0) (Q69.st0 s_ k_) = Q69.s0 N s_ (fun k_ => rec Q69.k0 (Q69.st0 s_ k_)) (fun k_ s2_ k2_ s_2 => rec Q69.k1 (Q69.st1 s_ k_ s2_ k2_ s_2)) k_ := by kernel_rfl
theorem Q69.step1 (rec : RK LMv) (s_ : LMv) (k_ s2_ k2_ : Int) (s_2 : LMv) : seg tb (Q69.G N) Q69.A 1 rec (Q69.fin N) segFuel (loopBody Q69.k1) (Q69.st1 s_ k_ s2_ k2_ s_2) = Q69.s1 N s_ (fun k_ => rec Q69.k0 (Q69.st0 s_ k_)) (fun k_ s2_ k2_ s_2 => rec Q69.k1 (Q69.st1 s_ k_ s2_ k2_ s_2)) k_ s2_ k2_ s_2 := by kernel_rfl
theorem Q69.entry (rec : RK LMv) (x : (argH Q69.as).den) : seg tb (Q69.G N) Q69.A 1 rec (Q69.fin N) segFuel [.code (bodyOf Try.f69)] (initSt Try.f69 (encArgs Q69.as x) (encMem Q69.as x)) = Q69.e N (fun k_ => rec Q69.k0 (Q69.st0 x.1 k_)) (fun k_ s2_ k2_ s_2 => rec Q69.k1 (Q69.st1 x.1 k_ s2_ k2_ s_2)) x.1 := by kernel_rfl
theorem Q69.runs (N : Nat) (s_ : LMv) : ∀ n, (∀ (k_ : Int), run tb (Q69.G N) Q69.A 1 (Q69.fin N) n Q69.k0 (Q69.st0 s_ k_) = Q69.l0 N s_ n k_) ∧ (∀ (k_ s2_ k2_ : Int) (s_2 : LMv), run tb (Q69.G N) Q69.A 1 (Q69.fin N) n Q69.k1 (Q69.st1 s_ k_ s2_ k2_ s_2) = Q69.l1 N s_ n k_ s2_ k2_ s_2)
 | 0 => ⟨fun _ => rfl, fun _ _ _ _ => rfl⟩
 | n + 1 => by
  obtain ⟨h0, h1⟩ := Q69.runs N s_ n
  have e0 : (fun (k_ : Int) => run tb (Q69.G N) Q69.A 1 (Q69.fin N) n Q69.k0 (Q69.st0 s_ k_)) = Q69.l0 N s_ n := by funext k_; exact h0 k_
  have e1 : (fun (k_ s2_ k2_ : Int) (s_2 : LMv) => run tb (Q69.G N) Q69.A 1 (Q69.fin N) n Q69.k1 (Q69.st1 s_ k_ s2_ k2_ s_2)) = Q69.l1 N s_ n := by funext k_ s2_ k2_ s_2; exact h1 k_ s2_ k2_ s_2
  have g0 : (∀ (k_ : Int), run tb (Q69.G N) Q69.A 1 (Q69.fin N) (n + 1) Q69.k0 (Q69.st0 s_ k_) = Q69.l0 N s_ (n + 1) k_) := by
   intro k_
   exact (run_succ (by kernel_rfl)).trans ((Q69.step0 N _ s_ k_).trans ((congr (congrArg (fun r0 r1 => Q69.s0 N s_ r0 r1 k_) e0) e1).trans (Q69.l0_s N s_ n k_).symm))
  have g1 : (∀ (k_ s2_ k2_ : Int) (s_2 : LMv), run tb (Q69.G N) Q69.A 1 (Q69.fin N) (n + 1) Q69.k1 (Q69.st1 s_ k_ s2_ k2_ s_2) = Q69.l1 N s_ (n + 1) k_ s2_ k2_ s_2) := by
   intro k_ s2_ k2_ s_2
   exact (run_succ (by kernel_rfl)).trans ((Q69.step1 N _ s_ k_ s2_ k2_ s_2).trans ((congr (congrArg (fun r0 r1 => Q69.s1 N s_ r0 r1 k_ s2_ k2_ s_2) e0) e1).trans (Q69.l1_s N s_ n k_ s2_ k2_ s_2).symm))
  exact ⟨g0, g1⟩
theorem Q69.ok : FnOk Try.prog 69 (Q69.D N) := by
 refine fo ⟨Try.f69, Try.func69, by kernel_rfl, by kernel_rfl, fun x y h => ⟨Q69.G N, Q69.A, N, gamOf_ok (fun p hp => nomatch hp), ?_⟩⟩ (Q69.fit N)
 rw [absFn_n (n0 := 1) rfl (by kernel_rfl)]
 refine (Q69.entry N (run tb (Q69.G N) Q69.A 1 (Q69.fin N) N) x).trans ?_
 have e0 : (fun (k_ : Int) => run tb (Q69.G N) Q69.A 1 (Q69.fin N) N Q69.k0 (Q69.st0 x.1 k_)) = Q69.l0 N x.1 N := by funext k_; exact (Q69.runs N x.1 N).1 k_
 have e1 : (fun (k_ s2_ k2_ : Int) (s_2 : LMv) => run tb (Q69.G N) Q69.A 1 (Q69.fin N) N Q69.k1 (Q69.st1 x.1 k_ s2_ k2_ s_2)) = Q69.l1 N x.1 N := by funext k_ s2_ k2_ s_2; exact (Q69.runs N x.1 N).2 k_ s2_ k2_ s_2
 have h' : (Q69.D N).f x = Q69.e N (Q69.l0 N x.1 N) (Q69.l1 N x.1 N) x.1 := by kernel_rfl
 exact (congr (congrArg (fun r0 r1 => Q69.e N r0 r1 x.1) e0) e1).trans (h'.symm.trans h)
def Q72.as : List MK := [.d true qa, .d false tI, .d false tI, .d false tI]
def Q72.rs : List (Bool × HT) := [(false, (.d tI))]
def Q72.lc : List AC := []
def Q72.D : DFn := ⟨Q72.as, Q72.rs, Int, fun x => Q72 N x.1 x.2.1 x.2.2.1 x.2.2.2.1, fun r o => r.1, fun b => (b, ()), fun b => (), none⟩
theorem Q72.fit : (Q72.D N).Fit := ⟨fun _ _ => rfl, fun _ _ => rfl, by kernel_rfl, (fun _ _ h => nomatch h), by kernel_rfl⟩
noncomputable def Q72.G : Gam := gamOf [(63, Q63.D N)]
def Q72.A : LA := fun _ => none
noncomputable def Q72.fin : St → Option Int := resK tb Try.f72.results.toList (decRes (Q72.D N) Q72.lc)
theorem Q72.entry (rec : RK Int) (x : (argH Q72.as).den) : seg tb (Q72.G N) Q72.A 0 rec (Q72.fin N) segFuel [.code (bodyOf Try.f72)] (initSt Try.f72 (encArgs Q72.as x) (encMem Q72.as x)) = Q72.e N x.1 x.2.1 x.2.2.1 x.2.2.2.1 := by kernel_rfl
theorem Q72.ok : FnOk Try.prog 72 (Q72.D N) := by
 refine fo ⟨Try.f72, Try.func72, by kernel_rfl, by kernel_rfl, fun x y h => ⟨Q72.G N, Q72.A, N, gamOf_ok (gc ⟨Q63.ok N, Q63.fit N⟩ gn), ?_⟩⟩ (Q72.fit N)
 rw [absFn_n (n0 := 0) rfl (by kernel_rfl)]
 exact (Q72.entry N _ x).trans h
def Q66.as : List MK := [.o (.own 31 qc) false, .d true qa, .d true qd, .d false tI, .d true (.prod tI qc)]
def Q66.rs : List (Bool × HT) := [(false, (.own 31 qc))]
def Q66.lc : List AC := []
def Q66.D : DFn := ⟨Q66.as, Q66.rs, LMv, fun x => Q66 N x.1 x.2.1 x.2.2.1 x.2.2.2.1 x.2.2.2.2.1, fun r o => r.1, fun b => (b, ()), fun b => (), none⟩
theorem Q66.fit : (Q66.D N).Fit := ⟨fun _ _ => rfl, fun _ _ => rfl, by kernel_rfl, (fun _ _ h => nomatch h), by kernel_rfl⟩
noncomputable def Q66.G : Gam := gamOf [(54, Q54.D N), (65, Q65.D N), (72, Q72.D N)]
def Q66.A : LA := fun k => bif Nat.beq k 0 then some ⟨[0, 3, 6, 7, 9, 11, 12, 13, 14, 39, 40], [], [], [(false, 0, 0, 4)], [], 5, false⟩ else none
noncomputable def Q66.fin : St → Option LMv := resK tb Try.f66.results.toList (decRes (Q66.D N) Q66.lc)
noncomputable def Q66.k0 : List Item := stackAt [.r, .r, .r, .r, .r, .l, .r, .b] (bodyOf Try.f66) []
def Q66.st0 (out : LMv) (r_ : TRules) (p_ : TPos) (from_ : Int) (w_ : TWay) (kind dy x_ y_ t40_ : Int) (out2 : LMv) : St := ⟨[.one (.own 4), oA, oA, oi from_, oA, oA, .one (.ptr 1 0), .one (.ptr 2 0), oA, .one (.ptr 3 0), oA, oi kind, oi dy, oi x_, oi y_] ++ rA 24 ++ [oi w_.2.2.1, oi t40_] ++ rA 75, [.gone, vR r_, vP p_, .var 115 [.int .i64 w_.1, .int .i64 w_.2.1, .int .i64 w_.2.2.1, .int .i64 w_.2.2.2], .row 31 qc out2]⟩
theorem Q66.step0 (rec : RK LMv) (out : LMv) (r_ : TRules) (p_ : TPos) (from_ : Int) (w_ : TWay) (kind dy x_ y_ t40_ : Int) (out2 : LMv) : seg tb (Q66.G N) Q66.A 1 rec (Q66.fin N) segFuel (loopBody Q66.k0) (Q66.st0 out r_ p_ from_ w_ kind dy x_ y_ t40_ out2) = Q66.s0 N out r_ p_ from_ w_ (fun kind dy x_ y_ t40_ out2 => rec Q66.k0 (Q66.st0 out r_ p_ from_ w_ kind dy x_ y_ t40_ out2)) kind dy x_ y_ t40_ out2 := by kernel_rfl
theorem Q66.entry (rec : RK LMv) (x : (argH Q66.as).den) : seg tb (Q66.G N) Q66.A 1 rec (Q66.fin N) segFuel [.code (bodyOf Try.f66)] (initSt Try.f66 (encArgs Q66.as x) (encMem Q66.as x)) = Q66.e N (fun kind dy x_ y_ t40_ out2 => rec Q66.k0 (Q66.st0 x.1 x.2.1 x.2.2.1 x.2.2.2.1 x.2.2.2.2.1 kind dy x_ y_ t40_ out2)) x.1 x.2.1 x.2.2.1 x.2.2.2.1 x.2.2.2.2.1 := by kernel_rfl
theorem Q66.runs (N : Nat) (out : LMv) (r_ : TRules) (p_ : TPos) (from_ : Int) (w_ : TWay) : ∀ n, (∀ (kind dy x_ y_ t40_ : Int) (out2 : LMv), run tb (Q66.G N) Q66.A 1 (Q66.fin N) n Q66.k0 (Q66.st0 out r_ p_ from_ w_ kind dy x_ y_ t40_ out2) = Q66.l0 N out r_ p_ from_ w_ n kind dy x_ y_ t40_ out2)
 | 0 => fun _ _ _ _ _ _ => rfl
 | n + 1 => by
  have h0 := Q66.runs N out r_ p_ from_ w_ n
  have e0 : (fun (kind dy x_ y_ t40_ : Int) (out2 : LMv) => run tb (Q66.G N) Q66.A 1 (Q66.fin N) n Q66.k0 (Q66.st0 out r_ p_ from_ w_ kind dy x_ y_ t40_ out2)) = Q66.l0 N out r_ p_ from_ w_ n := by funext kind dy x_ y_ t40_ out2; exact h0 kind dy x_ y_ t40_ out2
  have g0 : (∀ (kind dy x_ y_ t40_ : Int) (out2 : LMv), run tb (Q66.G N) Q66.A 1 (Q66.fin N) (n + 1) Q66.k0 (Q66.st0 out r_ p_ from_ w_ kind dy x_ y_ t40_ out2) = Q66.l0 N out r_ p_ from_ w_ (n + 1) kind dy x_ y_ t40_ out2) := by
   intro kind dy x_ y_ t40_ out2
   exact (run_succ (by kernel_rfl)).trans ((Q66.step0 N _ out r_ p_ from_ w_ kind dy x_ y_ t40_ out2).trans ((congrArg (fun r0 => Q66.s0 N out r_ p_ from_ w_ r0 kind dy x_ y_ t40_ out2) e0).trans (Q66.l0_s N out r_ p_ from_ w_ n kind dy x_ y_ t40_ out2).symm))
  exact g0
theorem Q66.ok : FnOk Try.prog 66 (Q66.D N) := by
 refine fo ⟨Try.f66, Try.func66, by kernel_rfl, by kernel_rfl, fun x y h => ⟨Q66.G N, Q66.A, N, gamOf_ok (gc ⟨Q54.ok N, Q54.fit N⟩ (gc ⟨Q65.ok N, Q65.fit N⟩ (gc ⟨Q72.ok N, Q72.fit N⟩ gn))), ?_⟩⟩ (Q66.fit N)
 rw [absFn_n (n0 := 1) rfl (by kernel_rfl)]
 refine (Q66.entry N (run tb (Q66.G N) Q66.A 1 (Q66.fin N) N) x).trans ?_
 have e0 : (fun (kind dy x_ y_ t40_ : Int) (out2 : LMv) => run tb (Q66.G N) Q66.A 1 (Q66.fin N) N Q66.k0 (Q66.st0 x.1 x.2.1 x.2.2.1 x.2.2.2.1 x.2.2.2.2.1 kind dy x_ y_ t40_ out2)) = Q66.l0 N x.1 x.2.1 x.2.2.1 x.2.2.2.1 x.2.2.2.2.1 N := by funext kind dy x_ y_ t40_ out2; exact (Q66.runs N x.1 x.2.1 x.2.2.1 x.2.2.2.1 x.2.2.2.2.1 N) kind dy x_ y_ t40_ out2
 have h' : (Q66.D N).f x = Q66.e N (Q66.l0 N x.1 x.2.1 x.2.2.1 x.2.2.2.1 x.2.2.2.2.1 N) x.1 x.2.1 x.2.2.1 x.2.2.2.1 x.2.2.2.2.1 := by kernel_rfl
 exact (congrArg (fun r0 => Q66.e N r0 x.1 x.2.1 x.2.2.1 x.2.2.2.1 x.2.2.2.2.1) e0).trans (h'.symm.trans h)
def Q64.as : List MK := [.d true qa, .d true qd, .d false tI]
def Q64.rs : List (Bool × HT) := [(false, (.d .bool))]
def Q64.lc : List AC := []
def Q64.D : DFn := ⟨Q64.as, Q64.rs, Bool, fun x => Q64 N x.1 x.2.1 x.2.2.1, fun r o => r.1, fun b => (b, ()), fun b => (), none⟩
theorem Q64.fit : (Q64.D N).Fit := ⟨fun _ _ => rfl, fun _ _ => rfl, by kernel_rfl, (fun _ _ h => nomatch h), by kernel_rfl⟩
noncomputable def Q64.G (N : Nat) : Gam := gamOf []
def Q64.A : LA := fun k => bif Nat.beq k 0 then some ⟨[3, 4, 7], [], [], [], [], 2, false⟩ else none
noncomputable def Q64.fin : St → Option Bool := resK tb Try.f64.results.toList (decRes (Q64.D N) Q64.lc)
noncomputable def Q64.k0 : List Item := stackAt [.r, .r, .l, .r, .t, .r, .b] (bodyOf Try.f64) []
def Q64.st0 (r_ : TRules) (p_ : TPos) (s_ low : Int) : St := ⟨rA 3 ++ [.one (.ptr 0 0), .one (.ptr 1 0), oA, oA, oi low] ++ rA 24, [vR r_, vP p_]⟩
theorem Q64.step0 (rec : RK Bool) (r_ : TRules) (p_ : TPos) (s_ low : Int) : seg tb (Q64.G N) Q64.A 0 rec (Q64.fin N) segFuel (loopBody Q64.k0) (Q64.st0 r_ p_ s_ low) = Q64.s0 N r_ p_ s_ (fun low => rec Q64.k0 (Q64.st0 r_ p_ s_ low)) low := by kernel_rfl
theorem Q64.entry (rec : RK Bool) (x : (argH Q64.as).den) : seg tb (Q64.G N) Q64.A 0 rec (Q64.fin N) segFuel [.code (bodyOf Try.f64)] (initSt Try.f64 (encArgs Q64.as x) (encMem Q64.as x)) = Q64.e N (fun low => rec Q64.k0 (Q64.st0 x.1 x.2.1 x.2.2.1 low)) x.1 x.2.1 x.2.2.1 := by kernel_rfl
theorem Q64.runs (N : Nat) (r_ : TRules) (p_ : TPos) (s_ : Int) : ∀ n, (∀ (low : Int), run tb (Q64.G N) Q64.A 0 (Q64.fin N) n Q64.k0 (Q64.st0 r_ p_ s_ low) = Q64.l0 N r_ p_ s_ n low)
 | 0 => fun _ => rfl
 | n + 1 => by
  have h0 := Q64.runs N r_ p_ s_ n
  have e0 : (fun (low : Int) => run tb (Q64.G N) Q64.A 0 (Q64.fin N) n Q64.k0 (Q64.st0 r_ p_ s_ low)) = Q64.l0 N r_ p_ s_ n := by funext low; exact h0 low
  have g0 : (∀ (low : Int), run tb (Q64.G N) Q64.A 0 (Q64.fin N) (n + 1) Q64.k0 (Q64.st0 r_ p_ s_ low) = Q64.l0 N r_ p_ s_ (n + 1) low) := by
   intro low
   exact (run_succ (by kernel_rfl)).trans ((Q64.step0 N _ r_ p_ s_ low).trans ((congrArg (fun r0 => Q64.s0 N r_ p_ s_ r0 low) e0).trans (Q64.l0_s N r_ p_ s_ n low).symm))
  exact g0
theorem Q64.ok : FnOk Try.prog 64 (Q64.D N) := by
 refine fo ⟨Try.f64, Try.func64, by kernel_rfl, by kernel_rfl, fun x y h => ⟨Q64.G N, Q64.A, N, gamOf_ok (fun p hp => nomatch hp), ?_⟩⟩ (Q64.fit N)
 rw [absFn_n (n0 := 0) rfl (by kernel_rfl)]
 refine (Q64.entry N (run tb (Q64.G N) Q64.A 0 (Q64.fin N) N) x).trans ?_
 have e0 : (fun (low : Int) => run tb (Q64.G N) Q64.A 0 (Q64.fin N) N Q64.k0 (Q64.st0 x.1 x.2.1 x.2.2.1 low)) = Q64.l0 N x.1 x.2.1 x.2.2.1 N := by funext low; exact (Q64.runs N x.1 x.2.1 x.2.2.1 N) low
 have h' : (Q64.D N).f x = Q64.e N (Q64.l0 N x.1 x.2.1 x.2.2.1 N) x.1 x.2.1 x.2.2.1 := by kernel_rfl
 exact (congrArg (fun r0 => Q64.e N r0 x.1 x.2.1 x.2.2.1) e0).trans (h'.symm.trans h)
def Q50.as : List MK := [.d true qa, .d true qd]
def Q50.rs : List (Bool × HT) := [(false, (.own 31 qc))]
def Q50.lc : List AC := []
def Q50.D : DFn := ⟨Q50.as, Q50.rs, LMv, fun x => Q50 N x.1 x.2.1, fun r o => r.1, fun b => (b, ()), fun b => (), none⟩
theorem Q50.fit : (Q50.D N).Fit := ⟨fun _ _ => rfl, fun _ _ => rfl, by kernel_rfl, (fun _ _ h => nomatch h), by kernel_rfl⟩
noncomputable def Q50.G : Gam := gamOf [(65, Q65.D N), (54, Q54.D N), (67, Q67.D N), (69, Q69.D N), (66, Q66.D N), (64, Q64.D N)]
def Q50.A : LA := fun k => bif Nat.beq k 0 then some ⟨[2, 3, 5, 17, 18, 19], [(5, 31)], [], [], [], 3, false⟩ else bif Nat.beq k 2 then some ⟨[2, 3, 5, 6, 7, 17, 18, 19, 26, 27], [], [], [(false, 5, 0, 2)], [], 3, false⟩ else bif Nat.beq k 4 then some ⟨[2, 3, 5, 47, 48, 49], [], [], [], [], 3, false⟩ else bif Nat.beq k 6 then some ⟨[2, 3, 5, 9, 47, 48, 49, 65, 66, 67], [], [], [(false, 5, 0, 2)], [], 3, false⟩ else none
noncomputable def Q50.fin : St → Option LMv := resK tb Try.f50.results.toList (decRes (Q50.D N) Q50.lc)
noncomputable def Q50.k0 : List Item := stackAt [.r, .r, .l, .r, .b] (bodyOf Try.f50) []
def Q50.st0 (r_ : TRules) (p_ : TPos) (t17_ : LInt) (t18_ t19_ : Int) (out : LMv) : St := ⟨[oA, oA, .one (.ptr 0 0), .one (.ptr 1 0), oA, .one (.own 2)] ++ rA 11 ++ [.one (.fro 3 tI t17_), oi t18_, oi t19_] ++ rA 63, [vR r_, vP p_, .row 31 qc out]⟩
noncomputable def Q50.k1 : List Item := stackAt [.r, .r, .l, .r, .b, .w, .r, .r, .l, .b, .r, .r, .b] (bodyOf Try.f50) []
def Q50.st1 (r_ : TRules) (p_ : TPos) (t_ n_ : Int) (t17_ : LInt) (t18_ t19_ t27_ : Int) (out : LMv) : St := ⟨[oA, oA, .one (.ptr 0 0), .one (.ptr 1 0), oA, .one (.own 2), oi t_, oi n_] ++ rA 9 ++ [.one (.fro 3 tI t17_), oi t18_, oi t19_] ++ rA 6 ++ [oi (p_.1.length : Int), oi t27_] ++ rA 55, [vR r_, vP p_, .row 31 qc out]⟩
noncomputable def Q50.k2 : List Item := stackAt [.r, .r, .r, .l, .r, .b] (bodyOf Try.f50) []
def Q50.st2 (r_ : TRules) (p_ : TPos) (t49_ : Int) (out : LMv) : St := ⟨[oA, oA, .one (.ptr 0 0), .one (.ptr 1 0), oA, .one (.own 2)] ++ rA 41 ++ [.one (.fro 3 tI p_.1), oi (p_.1.length : Int), oi t49_] ++ rA 33, [vR r_, vP p_, .row 31 qc out]⟩
noncomputable def Q50.k3 : List Item := stackAt [.r, .r, .r, .l, .r, .b, .w, .r, .r, .l, .b, .r, .r, .t, .r, .b] (bodyOf Try.f50) []
def Q50.st3 (r_ : TRules) (p_ : TPos) (s_ t49_ : Int) (t65_ : (List TWay)) (t66_ t67_ : Int) (out : LMv) : St := ⟨[oA, oA, .one (.ptr 0 0), .one (.ptr 1 0), oA, .one (.own 2)] ++ rA 3 ++ [oi s_] ++ rA 37 ++ [.one (.fro 3 tI p_.1), oi (p_.1.length : Int), oi t49_] ++ rA 15 ++ [.one (.fro 115 (.prod tI qc) t65_), oi t66_, oi t67_] ++ rA 15, [vR r_, vP p_, .row 31 qc out]⟩
theorem Q50.step0 (rec : RK LMv) (r_ : TRules) (p_ : TPos) (t17_ : LInt) (t18_ t19_ : Int) (out : LMv) : seg tb (Q50.G N) Q50.A 0 rec (Q50.fin N) segFuel (loopBody Q50.k0) (Q50.st0 r_ p_ t17_ t18_ t19_ out) = Q50.s0 N r_ p_ (fun t17_ t18_ t19_ out => rec Q50.k0 (Q50.st0 r_ p_ t17_ t18_ t19_ out)) (fun t_ n_ t17_ t18_ t19_ t27_ out => rec Q50.k1 (Q50.st1 r_ p_ t_ n_ t17_ t18_ t19_ t27_ out)) (fun t49_ out => rec Q50.k2 (Q50.st2 r_ p_ t49_ out)) (fun s_ t49_ t65_ t66_ t67_ out => rec Q50.k3 (Q50.st3 r_ p_ s_ t49_ t65_ t66_ t67_ out)) t17_ t18_ t19_ out := by kernel_rfl
theorem Q50.step1 (rec : RK LMv) (r_ : TRules) (p_ : TPos) (t_ n_ : Int) (t17_ : LInt) (t18_ t19_ t27_ : Int) (out : LMv) : seg tb (Q50.G N) Q50.A 0 rec (Q50.fin N) segFuel (loopBody Q50.k1) (Q50.st1 r_ p_ t_ n_ t17_ t18_ t19_ t27_ out) = Q50.s1 N r_ p_ (fun t17_ t18_ t19_ out => rec Q50.k0 (Q50.st0 r_ p_ t17_ t18_ t19_ out)) (fun t_ n_ t17_ t18_ t19_ t27_ out => rec Q50.k1 (Q50.st1 r_ p_ t_ n_ t17_ t18_ t19_ t27_ out)) (fun t49_ out => rec Q50.k2 (Q50.st2 r_ p_ t49_ out)) (fun s_ t49_ t65_ t66_ t67_ out => rec Q50.k3 (Q50.st3 r_ p_ s_ t49_ t65_ t66_ t67_ out)) t_ n_ t17_ t18_ t19_ t27_ out := by kernel_rfl
theorem Q50.step2 (rec : RK LMv) (r_ : TRules) (p_ : TPos) (t49_ : Int) (out : LMv) : seg tb (Q50.G N) Q50.A 0 rec (Q50.fin N) segFuel (loopBody Q50.k2) (Q50.st2 r_ p_ t49_ out) = Q50.s2 N r_ p_ (fun t17_ t18_ t19_ out => rec Q50.k0 (Q50.st0 r_ p_ t17_ t18_ t19_ out)) (fun t_ n_ t17_ t18_ t19_ t27_ out => rec Q50.k1 (Q50.st1 r_ p_ t_ n_ t17_ t18_ t19_ t27_ out)) (fun t49_ out => rec Q50.k2 (Q50.st2 r_ p_ t49_ out)) (fun s_ t49_ t65_ t66_ t67_ out => rec Q50.k3 (Q50.st3 r_ p_ s_ t49_ t65_ t66_ t67_ out)) t49_ out := by kernel_rfl
theorem Q50.step3 (rec : RK LMv) (r_ : TRules) (p_ : TPos) (s_ t49_ : Int) (t65_ : (List TWay)) (t66_ t67_ : Int) (out : LMv) : seg tb (Q50.G N) Q50.A 0 rec (Q50.fin N) segFuel (loopBody Q50.k3) (Q50.st3 r_ p_ s_ t49_ t65_ t66_ t67_ out) = Q50.s3 N r_ p_ (fun t17_ t18_ t19_ out => rec Q50.k0 (Q50.st0 r_ p_ t17_ t18_ t19_ out)) (fun t_ n_ t17_ t18_ t19_ t27_ out => rec Q50.k1 (Q50.st1 r_ p_ t_ n_ t17_ t18_ t19_ t27_ out)) (fun t49_ out => rec Q50.k2 (Q50.st2 r_ p_ t49_ out)) (fun s_ t49_ t65_ t66_ t67_ out => rec Q50.k3 (Q50.st3 r_ p_ s_ t49_ t65_ t66_ t67_ out)) s_ t49_ t65_ t66_ t67_ out := by kernel_rfl
theorem Q50.entry (rec : RK LMv) (x : (argH Q50.as).den) : seg tb (Q50.G N) Q50.A 0 rec (Q50.fin N) segFuel [.code (bodyOf Try.f50)] (initSt Try.f50 (encArgs Q50.as x) (encMem Q50.as x)) = Q50.e N (fun t17_ t18_ t19_ out => rec Q50.k0 (Q50.st0 x.1 x.2.1 t17_ t18_ t19_ out)) (fun t_ n_ t17_ t18_ t19_ t27_ out => rec Q50.k1 (Q50.st1 x.1 x.2.1 t_ n_ t17_ t18_ t19_ t27_ out)) (fun t49_ out => rec Q50.k2 (Q50.st2 x.1 x.2.1 t49_ out)) (fun s_ t49_ t65_ t66_ t67_ out => rec Q50.k3 (Q50.st3 x.1 x.2.1 s_ t49_ t65_ t66_ t67_ out)) x.1 x.2.1 := by kernel_rfl
theorem Q50.runs (N : Nat) (r_ : TRules) (p_ : TPos) : ∀ n, (∀ (t17_ : LInt) (t18_ t19_ : Int) (out : LMv), run tb (Q50.G N) Q50.A 0 (Q50.fin N) n Q50.k0 (Q50.st0 r_ p_ t17_ t18_ t19_ out) = Q50.l0 N r_ p_ n t17_ t18_ t19_ out) ∧ (∀ (t_ n_ : Int) (t17_ : LInt) (t18_ t19_ t27_ : Int) (out : LMv), run tb (Q50.G N) Q50.A 0 (Q50.fin N) n Q50.k1 (Q50.st1 r_ p_ t_ n_ t17_ t18_ t19_ t27_ out) = Q50.l1 N r_ p_ n t_ n_ t17_ t18_ t19_ t27_ out) ∧ (∀ (t49_ : Int) (out : LMv), run tb (Q50.G N) Q50.A 0 (Q50.fin N) n Q50.k2 (Q50.st2 r_ p_ t49_ out) = Q50.l2 N r_ p_ n t49_ out) ∧ (∀ (s_ t49_ : Int) (t65_ : (List TWay)) (t66_ t67_ : Int) (out : LMv), run tb (Q50.G N) Q50.A 0 (Q50.fin N) n Q50.k3 (Q50.st3 r_ p_ s_ t49_ t65_ t66_ t67_ out) = Q50.l3 N r_ p_ n s_ t49_ t65_ t66_ t67_ out)
 | 0 => ⟨fun _ _ _ _ => rfl, fun _ _ _ _ _ _ _ => rfl, fun _ _ => rfl, fun _ _ _ _ _ _ => rfl⟩
 | n + 1 => by
  obtain ⟨h0, h1, h2, h3⟩ := Q50.runs N r_ p_ n
  have e0 : (fun (t17_ : LInt) (t18_ t19_ : Int) (out : LMv) => run tb (Q50.G N) Q50.A 0 (Q50.fin N) n Q50.k0 (Q50.st0 r_ p_ t17_ t18_ t19_ out)) = Q50.l0 N r_ p_ n := by funext t17_ t18_ t19_ out; exact h0 t17_ t18_ t19_ out
  have e1 : (fun (t_ n_ : Int) (t17_ : LInt) (t18_ t19_ t27_ : Int) (out : LMv) => run tb (Q50.G N) Q50.A 0 (Q50.fin N) n Q50.k1 (Q50.st1 r_ p_ t_ n_ t17_ t18_ t19_ t27_ out)) = Q50.l1 N r_ p_ n := by funext t_ n_ t17_ t18_ t19_ t27_ out; exact h1 t_ n_ t17_ t18_ t19_ t27_ out
  have e2 : (fun (t49_ : Int) (out : LMv) => run tb (Q50.G N) Q50.A 0 (Q50.fin N) n Q50.k2 (Q50.st2 r_ p_ t49_ out)) = Q50.l2 N r_ p_ n := by funext t49_ out; exact h2 t49_ out
  have e3 : (fun (s_ t49_ : Int) (t65_ : (List TWay)) (t66_ t67_ : Int) (out : LMv) => run tb (Q50.G N) Q50.A 0 (Q50.fin N) n Q50.k3 (Q50.st3 r_ p_ s_ t49_ t65_ t66_ t67_ out)) = Q50.l3 N r_ p_ n := by funext s_ t49_ t65_ t66_ t67_ out; exact h3 s_ t49_ t65_ t66_ t67_ out
  have g0 : (∀ (t17_ : LInt) (t18_ t19_ : Int) (out : LMv), run tb (Q50.G N) Q50.A 0 (Q50.fin N) (n + 1) Q50.k0 (Q50.st0 r_ p_ t17_ t18_ t19_ out) = Q50.l0 N r_ p_ (n + 1) t17_ t18_ t19_ out) := by
   intro t17_ t18_ t19_ out
   exact (run_succ (by kernel_rfl)).trans ((Q50.step0 N _ r_ p_ t17_ t18_ t19_ out).trans ((congr (congr (congr (congrArg (fun r0 r1 r2 r3 => Q50.s0 N r_ p_ r0 r1 r2 r3 t17_ t18_ t19_ out) e0) e1) e2) e3).trans (Q50.l0_s N r_ p_ n t17_ t18_ t19_ out).symm))
  have g1 : (∀ (t_ n_ : Int) (t17_ : LInt) (t18_ t19_ t27_ : Int) (out : LMv), run tb (Q50.G N) Q50.A 0 (Q50.fin N) (n + 1) Q50.k1 (Q50.st1 r_ p_ t_ n_ t17_ t18_ t19_ t27_ out) = Q50.l1 N r_ p_ (n + 1) t_ n_ t17_ t18_ t19_ t27_ out) := by
   intro t_ n_ t17_ t18_ t19_ t27_ out
   exact (run_succ (by kernel_rfl)).trans ((Q50.step1 N _ r_ p_ t_ n_ t17_ t18_ t19_ t27_ out).trans ((congr (congr (congr (congrArg (fun r0 r1 r2 r3 => Q50.s1 N r_ p_ r0 r1 r2 r3 t_ n_ t17_ t18_ t19_ t27_ out) e0) e1) e2) e3).trans (Q50.l1_s N r_ p_ n t_ n_ t17_ t18_ t19_ t27_ out).symm))
  have g2 : (∀ (t49_ : Int) (out : LMv), run tb (Q50.G N) Q50.A 0 (Q50.fin N) (n + 1) Q50.k2 (Q50.st2 r_ p_ t49_ out) = Q50.l2 N r_ p_ (n + 1) t49_ out) := by
   intro t49_ out
   exact (run_succ (by kernel_rfl)).trans ((Q50.step2 N _ r_ p_ t49_ out).trans ((congr (congr (congr (congrArg (fun r0 r1 r2 r3 => Q50.s2 N r_ p_ r0 r1 r2 r3 t49_ out) e0) e1) e2) e3).trans (Q50.l2_s N r_ p_ n t49_ out).symm))
  have g3 : (∀ (s_ t49_ : Int) (t65_ : (List TWay)) (t66_ t67_ : Int) (out : LMv), run tb (Q50.G N) Q50.A 0 (Q50.fin N) (n + 1) Q50.k3 (Q50.st3 r_ p_ s_ t49_ t65_ t66_ t67_ out) = Q50.l3 N r_ p_ (n + 1) s_ t49_ t65_ t66_ t67_ out) := by
   intro s_ t49_ t65_ t66_ t67_ out
   exact (run_succ (by kernel_rfl)).trans ((Q50.step3 N _ r_ p_ s_ t49_ t65_ t66_ t67_ out).trans ((congr (congr (congr (congrArg (fun r0 r1 r2 r3 => Q50.s3 N r_ p_ r0 r1 r2 r3 s_ t49_ t65_ t66_ t67_ out) e0) e1) e2) e3).trans (Q50.l3_s N r_ p_ n s_ t49_ t65_ t66_ t67_ out).symm))
  exact ⟨g0, g1, g2, g3⟩
theorem Q50.ok : FnOk Try.prog 50 (Q50.D N) := by
 refine fo ⟨Try.f50, Try.func50, by kernel_rfl, by kernel_rfl, fun x y h => ⟨Q50.G N, Q50.A, N, gamOf_ok (gc ⟨Q65.ok N, Q65.fit N⟩ (gc ⟨Q54.ok N, Q54.fit N⟩ (gc ⟨Q67.ok N, Q67.fit N⟩ (gc ⟨Q69.ok N, Q69.fit N⟩ (gc ⟨Q66.ok N, Q66.fit N⟩ (gc ⟨Q64.ok N, Q64.fit N⟩ gn)))))), ?_⟩⟩ (Q50.fit N)
 rw [absFn_n (n0 := 0) rfl (by kernel_rfl)]
 refine (Q50.entry N (run tb (Q50.G N) Q50.A 0 (Q50.fin N) N) x).trans ?_
 have e0 : (fun (t17_ : LInt) (t18_ t19_ : Int) (out : LMv) => run tb (Q50.G N) Q50.A 0 (Q50.fin N) N Q50.k0 (Q50.st0 x.1 x.2.1 t17_ t18_ t19_ out)) = Q50.l0 N x.1 x.2.1 N := by funext t17_ t18_ t19_ out; exact (Q50.runs N x.1 x.2.1 N).1 t17_ t18_ t19_ out
 have e1 : (fun (t_ n_ : Int) (t17_ : LInt) (t18_ t19_ t27_ : Int) (out : LMv) => run tb (Q50.G N) Q50.A 0 (Q50.fin N) N Q50.k1 (Q50.st1 x.1 x.2.1 t_ n_ t17_ t18_ t19_ t27_ out)) = Q50.l1 N x.1 x.2.1 N := by funext t_ n_ t17_ t18_ t19_ t27_ out; exact (Q50.runs N x.1 x.2.1 N).2.1 t_ n_ t17_ t18_ t19_ t27_ out
 have e2 : (fun (t49_ : Int) (out : LMv) => run tb (Q50.G N) Q50.A 0 (Q50.fin N) N Q50.k2 (Q50.st2 x.1 x.2.1 t49_ out)) = Q50.l2 N x.1 x.2.1 N := by funext t49_ out; exact (Q50.runs N x.1 x.2.1 N).2.2.1 t49_ out
 have e3 : (fun (s_ t49_ : Int) (t65_ : (List TWay)) (t66_ t67_ : Int) (out : LMv) => run tb (Q50.G N) Q50.A 0 (Q50.fin N) N Q50.k3 (Q50.st3 x.1 x.2.1 s_ t49_ t65_ t66_ t67_ out)) = Q50.l3 N x.1 x.2.1 N := by funext s_ t49_ t65_ t66_ t67_ out; exact (Q50.runs N x.1 x.2.1 N).2.2.2 s_ t49_ t65_ t66_ t67_ out
 have h' : (Q50.D N).f x = Q50.e N (Q50.l0 N x.1 x.2.1 N) (Q50.l1 N x.1 x.2.1 N) (Q50.l2 N x.1 x.2.1 N) (Q50.l3 N x.1 x.2.1 N) x.1 x.2.1 := by kernel_rfl
 exact (congr (congr (congr (congrArg (fun r0 r1 r2 r3 => Q50.e N r0 r1 r2 r3 x.1 x.2.1) e0) e1) e2) e3).trans (h'.symm.trans h)
def Q31.as : List MK := [.d true qa, .d true qd]
def Q31.rs : List (Bool × HT) := [(false, (.d tI))]
def Q31.lc : List AC := []
def Q31.D : DFn := ⟨Q31.as, Q31.rs, Int, fun x => Q31 N x.1 x.2.1, fun r o => r.1, fun b => (b, ()), fun b => (), none⟩
theorem Q31.fit : (Q31.D N).Fit := ⟨fun _ _ => rfl, fun _ _ => rfl, by kernel_rfl, (fun _ _ h => nomatch h), by kernel_rfl⟩
noncomputable def Q31.G : Gam := gamOf [(48, Q48.D N), (49, Q49.D N), (50, Q50.D N)]
def Q31.A : LA := fun k => bif Nat.beq k 0 then some ⟨[2, 3, 5, 12, 13, 14], [], [], [], [], 2, false⟩ else none
noncomputable def Q31.fin : St → Option Int := resK tb Try.f31.results.toList (decRes (Q31.D N) Q31.lc)
noncomputable def Q31.k0 : List Item := stackAt [.r, .r, .l, .r, .b] (bodyOf Try.f31) []
def Q31.st0 (r_ : TRules) (p_ : TPos) (t13_ t14_ : Int) : St := ⟨[oA, oA, .one (.ptr 0 0), .one (.ptr 1 0), oA, oi (w64 (1 - p_.2.2.1))] ++ rA 6 ++ [.one (.fro 63 qe r_.2.2.2.2.2.2.2.1), oi t13_, oi t14_] ++ rA 43, [vR r_, vP p_]⟩
theorem Q31.step0 (rec : RK Int) (r_ : TRules) (p_ : TPos) (t13_ t14_ : Int) : seg tb (Q31.G N) Q31.A 0 rec (Q31.fin N) segFuel (loopBody Q31.k0) (Q31.st0 r_ p_ t13_ t14_) = Q31.s0 N r_ p_ (fun t13_ t14_ => rec Q31.k0 (Q31.st0 r_ p_ t13_ t14_)) t13_ t14_ := by kernel_rfl
theorem Q31.entry (rec : RK Int) (x : (argH Q31.as).den) : seg tb (Q31.G N) Q31.A 0 rec (Q31.fin N) segFuel [.code (bodyOf Try.f31)] (initSt Try.f31 (encArgs Q31.as x) (encMem Q31.as x)) = Q31.e N (fun t13_ t14_ => rec Q31.k0 (Q31.st0 x.1 x.2.1 t13_ t14_)) x.1 x.2.1 := by kernel_rfl
theorem Q31.runs (N : Nat) (r_ : TRules) (p_ : TPos) : ∀ n, (∀ (t13_ t14_ : Int), run tb (Q31.G N) Q31.A 0 (Q31.fin N) n Q31.k0 (Q31.st0 r_ p_ t13_ t14_) = Q31.l0 N r_ p_ n t13_ t14_)
 | 0 => fun _ _ => rfl
 | n + 1 => by
  have h0 := Q31.runs N r_ p_ n
  have e0 : (fun (t13_ t14_ : Int) => run tb (Q31.G N) Q31.A 0 (Q31.fin N) n Q31.k0 (Q31.st0 r_ p_ t13_ t14_)) = Q31.l0 N r_ p_ n := by funext t13_ t14_; exact h0 t13_ t14_
  have g0 : (∀ (t13_ t14_ : Int), run tb (Q31.G N) Q31.A 0 (Q31.fin N) (n + 1) Q31.k0 (Q31.st0 r_ p_ t13_ t14_) = Q31.l0 N r_ p_ (n + 1) t13_ t14_) := by
   intro t13_ t14_
   exact (run_succ (by kernel_rfl)).trans ((Q31.step0 N _ r_ p_ t13_ t14_).trans ((congrArg (fun r0 => Q31.s0 N r_ p_ r0 t13_ t14_) e0).trans (Q31.l0_s N r_ p_ n t13_ t14_).symm))
  exact g0
theorem Q31.ok : FnOk Try.prog 31 (Q31.D N) := by
 refine fo ⟨Try.f31, Try.func31, by kernel_rfl, by kernel_rfl, fun x y h => ⟨Q31.G N, Q31.A, N, gamOf_ok (gc ⟨Q48.ok N, Q48.fit N⟩ (gc ⟨Q49.ok N, Q49.fit N⟩ (gc ⟨Q50.ok N, Q50.fit N⟩ gn))), ?_⟩⟩ (Q31.fit N)
 rw [absFn_n (n0 := 0) rfl (by kernel_rfl)]
 refine (Q31.entry N (run tb (Q31.G N) Q31.A 0 (Q31.fin N) N) x).trans ?_
 have e0 : (fun (t13_ t14_ : Int) => run tb (Q31.G N) Q31.A 0 (Q31.fin N) N Q31.k0 (Q31.st0 x.1 x.2.1 t13_ t14_)) = Q31.l0 N x.1 x.2.1 N := by funext t13_ t14_; exact (Q31.runs N x.1 x.2.1 N) t13_ t14_
 have h' : (Q31.D N).f x = Q31.e N (Q31.l0 N x.1 x.2.1 N) x.1 x.2.1 := by kernel_rfl
 exact (congrArg (fun r0 => Q31.e N r0 x.1 x.2.1) e0).trans (h'.symm.trans h)
def Q15.as : List MK := [.r (.prod qa (.prod qd (.prod (.int .u64) (.slice 107 qf))))]
def Q15.rs : List (Bool × HT) := [(false, (.d tI))]
def Q15.lc : List AC := []
def Q15.D : DFn := ⟨Q15.as, Q15.rs, Int, fun x => Q15 N x.1, fun r o => r.1, fun b => (b, ()), fun b => (), none⟩
theorem Q15.fit : (Q15.D N).Fit := ⟨fun _ _ => rfl, fun _ _ => rfl, by kernel_rfl, (fun _ _ h => nomatch h), by kernel_rfl⟩
noncomputable def Q15.G : Gam := gamOf [(31, Q31.D N)]
def Q15.A : LA := fun _ => none
noncomputable def Q15.fin : St → Option Int := resK tb Try.f15.results.toList (decRes (Q15.D N) Q15.lc)
theorem Q15.entry (rec : RK Int) (x : (argH Q15.as).den) : seg tb (Q15.G N) Q15.A 0 rec (Q15.fin N) segFuel [.code (bodyOf Try.f15)] (initSt Try.f15 (encArgs Q15.as x) (encMem Q15.as x)) = Q15.e N x.1 := by kernel_rfl
theorem Q15.ok : FnOk Try.prog 15 (Q15.D N) := by
 refine fo ⟨Try.f15, Try.func15, by kernel_rfl, by kernel_rfl, fun x y h => ⟨Q15.G N, Q15.A, N, gamOf_ok (gc ⟨Q31.ok N, Q31.fit N⟩ gn), ?_⟩⟩ (Q15.fit N)
 rw [absFn_n (n0 := 0) rfl (by kernel_rfl)]
 exact (Q15.entry N _ x).trans h
def Q23.as : List MK := [.d true qa, .d true qd, .d false tI]
def Q23.rs : List (Bool × HT) := [(false, (.opt 81 (.prod (.prod (.d .str) (.prod (.d tI) (.prod (.d tI) (.prod (.own 61 qb) (.prod (.own 3 tI) (.prod (.d .bool) (.prod (.d .bool) (.prod (.own 63 qe) (.d qc))))))))) (.prod (.prod (.own 3 tI) (.prod (.prod (.own 3 tI) (.own 3 tI)) (.d (.prod tI tI)))) (.prod (.d (.int .u64)) (.own 107 qf)))))), (false, (.d tI))]
def Q23.lc : List AC := []
def Q23.D : DFn := ⟨Q23.as, Q23.rs, ((Option TBoard) × Int), fun x => Q23 N x.1 x.2.1 x.2.2.1, fun r o => (r.1, r.2.1), fun b => (b.1, (b.2, ())), fun b => (), none⟩
theorem Q23.fit : (Q23.D N).Fit := ⟨fun _ _ => rfl, fun _ _ => rfl, by kernel_rfl, (fun _ _ h => nomatch h), by kernel_rfl⟩
noncomputable def Q23.G : Gam := gamOf [(14, Q14.D N)]
def Q23.A : LA := fun _ => none
noncomputable def Q23.fin : St → Option ((Option TBoard) × Int) := resK tb Try.f23.results.toList (decRes (Q23.D N) Q23.lc)
theorem Q23.entry (rec : RK ((Option TBoard) × Int)) (x : (argH Q23.as).den) : seg tb (Q23.G N) Q23.A 0 rec (Q23.fin N) segFuel [.code (bodyOf Try.f23)] (initSt Try.f23 (encArgs Q23.as x) (encMem Q23.as x)) = Q23.e N x.1 x.2.1 x.2.2.1 := by kernel_rfl
theorem Q23.ok : FnOk Try.prog 23 (Q23.D N) := by
 refine fo ⟨Try.f23, Try.func23, by kernel_rfl, by kernel_rfl, fun x y h => ⟨Q23.G N, Q23.A, N, gamOf_ok (gc ⟨Q14.ok N, Q14.fit N⟩ gn), ?_⟩⟩ (Q23.fit N)
 rw [absFn_n (n0 := 0) rfl (by kernel_rfl)]
 exact (Q23.entry N _ x).trans h
def Q36.as : List MK := [.r (.prod qa (.prod qd (.prod (.int .u64) (.slice 107 qf))))]
def Q36.rs : List (Bool × HT) := [(false, (.own 31 qc))]
def Q36.lc : List AC := []
def Q36.D : DFn := ⟨Q36.as, Q36.rs, LMv, fun x => Q36 N x.1, fun r o => r.1, fun b => (b, ()), fun b => (), none⟩
theorem Q36.fit : (Q36.D N).Fit := ⟨fun _ _ => rfl, fun _ _ => rfl, by kernel_rfl, (fun _ _ h => nomatch h), by kernel_rfl⟩
noncomputable def Q36.G : Gam := gamOf [(15, Q15.D N), (50, Q50.D N)]
def Q36.A : LA := fun _ => none
noncomputable def Q36.fin : St → Option LMv := resK tb Try.f36.results.toList (decRes (Q36.D N) Q36.lc)
theorem Q36.entry (rec : RK LMv) (x : (argH Q36.as).den) : seg tb (Q36.G N) Q36.A 0 rec (Q36.fin N) segFuel [.code (bodyOf Try.f36)] (initSt Try.f36 (encArgs Q36.as x) (encMem Q36.as x)) = Q36.e N x.1 := by kernel_rfl
theorem Q36.ok : FnOk Try.prog 36 (Q36.D N) := by
 refine fo ⟨Try.f36, Try.func36, by kernel_rfl, by kernel_rfl, fun x y h => ⟨Q36.G N, Q36.A, N, gamOf_ok (gc ⟨Q15.ok N, Q15.fit N⟩ (gc ⟨Q50.ok N, Q50.fit N⟩ gn)), ?_⟩⟩ (Q36.fit N)
 rw [absFn_n (n0 := 0) rfl (by kernel_rfl)]
 exact (Q36.entry N _ x).trans h
end
end Go.Proofs.Ytlfhchkhbecmbaa.Am
