/- PRINTED by gen.py: the abstract machine evaluates the loaded code to these functions. -/
import Derived.Test.YtnddjmhpofhfjaaEvw
set_option linter.unusedVariables false
set_option linter.unusedSimpArgs false
namespace Go.Proofs.Ytnddjmhpofhfjaa.Am
open Go
noncomputable section
variable (N : Nat)
set_option maxRecDepth 100000
def Q97.as : List MK := [.d false (.slice 37 qc), .d false tI, .d false tI, .f 78]
def Q97.rs : List (Bool × HT) := [(false, (.d tI)), (false, (.d tI))]
def Q97.lc : List AC := []
def Q97.D : DFn := ⟨Q97.as, Q97.rs, (Int × Int), fun x => Q97 N x.1 x.2.1 x.2.2.1, fun r o => (r.1, r.2.1), fun b => (b.1, (b.2, ())), fun b => (), none⟩
theorem Q97.fit : (Q97.D N).Fit := ⟨fun _ _ => rfl, fun _ _ => rfl, by kernel_rfl, (fun _ _ h => nomatch h), by kernel_rfl⟩
noncomputable def Q97.G : Gam := gamOf [(108, Q108.D N), (109, Q109.D N)]
def Q97.A : LA := fun _ => none
noncomputable def Q97.fin : St → Option (Int × Int) := resK tb Try.f97.results.toList (decRes (Q97.D N) Q97.lc)
theorem Q97.entry (rec : RK (Int × Int)) (x : (argH Q97.as).den) : seg tb (Q97.G N) Q97.A 0 rec (Q97.fin N) segFuel [.code (bodyOf Try.f97)] (initSt Try.f97 (encArgs Q97.as x) (encMem Q97.as x)) = Q97.e N x.1 x.2.1 x.2.2.1 := by kernel_rfl
theorem Q97.ok : FnOk Try.prog 97 (Q97.D N) := by
 refine fo ⟨Try.f97, Try.func97, by kernel_rfl, by kernel_rfl, fun x y h => ⟨Q97.G N, Q97.A, N, gamOf_ok (gc ⟨Q108.ok N, Q108.fit N⟩ (gc ⟨Q109.ok N, Q109.fit N⟩ gn)), ?_⟩⟩ (Q97.fit N)
 rw [absFn_n (n0 := 0) rfl (by kernel_rfl)]
 exact (Q97.entry N _ x).trans h
def Q98.as : List MK := [.o (.own 37 qc) true, .d false tI, .d false tI, .f 78]
def Q98.rs : List (Bool × HT) := []
def Q98.lc : List AC := [.own 0]
def Q98.D : DFn := ⟨Q98.as, Q98.rs, LMv, fun x => Q98 N x.1 x.2.1 x.2.2.1, fun r o => o.1, fun b => (), fun b => (b, ()), none⟩
theorem Q98.fit : (Q98.D N).Fit := ⟨fun _ _ => rfl, fun _ _ => rfl, by kernel_rfl, (fun _ _ h => nomatch h), by kernel_rfl⟩
noncomputable def Q98.G (N : Nat) : Gam := gamOf []
def Q98.A : LA := fun k => bif Nat.beq k 0 then some ⟨[0, 8, 9], [], [], [], [], 1, false⟩ else none
noncomputable def Q98.fin : St → Option LMv := resK tb Try.f98.results.toList (decRes (Q98.D N) Q98.lc)
noncomputable def Q98.k0 : List Item := stackAt [.r, .r, .b] (bodyOf Try.f98) []
def Q98.st0 (data : LMv) (a_ b_ i_ j_ : Int) (data2 : LMv) : St := ⟨[.one (.own 0)] ++ rA 7 ++ [oi i_, oi j_] ++ rA 24, [.row 37 qc data2]⟩
theorem Q98.step0 (rec : RK LMv) (data : LMv) (a_ b_ i_ j_ : Int) (data2 : LMv) : seg tb (Q98.G N) Q98.A 1 rec (Q98.fin N) segFuel (loopBody Q98.k0) (Q98.st0 data a_ b_ i_ j_ data2) = Q98.s0 N data a_ b_ (fun i_ j_ data2 => rec Q98.k0 (Q98.st0 data a_ b_ i_ j_ data2)) i_ j_ data2 := by kernel_rfl
theorem Q98.entry (rec : RK LMv) (x : (argH Q98.as).den) : seg tb (Q98.G N) Q98.A 1 rec (Q98.fin N) segFuel [.code (bodyOf Try.f98)] (initSt Try.f98 (encArgs Q98.as x) (encMem Q98.as x)) = Q98.e N (fun i_ j_ data2 => rec Q98.k0 (Q98.st0 x.1 x.2.1 x.2.2.1 i_ j_ data2)) x.1 x.2.1 x.2.2.1 := by kernel_rfl
theorem Q98.runs (N : Nat) (data : LMv) (a_ b_ : Int) : ∀ n, (∀ (i_ j_ : Int) (data2 : LMv), run tb (Q98.G N) Q98.A 1 (Q98.fin N) n Q98.k0 (Q98.st0 data a_ b_ i_ j_ data2) = Q98.l0 N data a_ b_ n i_ j_ data2)
 | 0 => fun _ _ _ => rfl
 | n + 1 => by
  have h0 := Q98.runs N data a_ b_ n
  have e0 : (fun (i_ j_ : Int) (data2 : LMv) => run tb (Q98.G N) Q98.A 1 (Q98.fin N) n Q98.k0 (Q98.st0 data a_ b_ i_ j_ data2)) = Q98.l0 N data a_ b_ n := by funext i_ j_ data2; exact h0 i_ j_ data2
  have g0 : (∀ (i_ j_ : Int) (data2 : LMv), run tb (Q98.G N) Q98.A 1 (Q98.fin N) (n + 1) Q98.k0 (Q98.st0 data a_ b_ i_ j_ data2) = Q98.l0 N data a_ b_ (n + 1) i_ j_ data2) := by
   intro i_ j_ data2
   exact (run_succ (by kernel_rfl)).trans ((Q98.step0 N _ data a_ b_ i_ j_ data2).trans ((congrArg (fun r0 => Q98.s0 N data a_ b_ r0 i_ j_ data2) e0).trans (Q98.l0_s N data a_ b_ n i_ j_ data2).symm))
  exact g0
theorem Q98.ok : FnOk Try.prog 98 (Q98.D N) := by
 refine fo ⟨Try.f98, Try.func98, by kernel_rfl, by kernel_rfl, fun x y h => ⟨Q98.G N, Q98.A, N, gamOf_ok (fun p hp => nomatch hp), ?_⟩⟩ (Q98.fit N)
 rw [absFn_n (n0 := 1) rfl (by kernel_rfl)]
 refine (Q98.entry N (run tb (Q98.G N) Q98.A 1 (Q98.fin N) N) x).trans ?_
 have e0 : (fun (i_ j_ : Int) (data2 : LMv) => run tb (Q98.G N) Q98.A 1 (Q98.fin N) N Q98.k0 (Q98.st0 x.1 x.2.1 x.2.2.1 i_ j_ data2)) = Q98.l0 N x.1 x.2.1 x.2.2.1 N := by funext i_ j_ data2; exact (Q98.runs N x.1 x.2.1 x.2.2.1 N) i_ j_ data2
 have h' : (Q98.D N).f x = Q98.e N (Q98.l0 N x.1 x.2.1 x.2.2.1 N) x.1 x.2.1 x.2.2.1 := by kernel_rfl
 exact (congrArg (fun r0 => Q98.e N r0 x.1 x.2.1 x.2.2.1) e0).trans (h'.symm.trans h)
def Q99.as : List MK := [.o (.own 37 qc) true, .d false tI, .d false tI, .f 78]
def Q99.rs : List (Bool × HT) := [(false, (.d .bool))]
def Q99.lc : List AC := [.own 0]
def Q99.D : DFn := ⟨Q99.as, Q99.rs, (Bool × LMv), fun x => Q99 N x.1 x.2.1 x.2.2.1, fun r o => (r.1, o.1), fun b => (b.1, ()), fun b => (b.2, ()), none⟩
theorem Q99.fit : (Q99.D N).Fit := ⟨fun _ _ => rfl, fun _ _ => rfl, by kernel_rfl, (fun _ _ h => nomatch h), by kernel_rfl⟩
noncomputable def Q99.G : Gam := gamOf [(78, Q78.D N)]
def Q99.A : LA := fun k => bif Nat.beq k 0 then some ⟨[0, 1, 2, 3, 9, 10], [], [], [], [], 1, false⟩ else bif Nat.beq k 2 then some ⟨[0, 1, 2, 3, 9, 10], [], [], [], [], 1, false⟩ else bif Nat.beq k 4 then some ⟨[0, 1, 2, 3, 9, 10, 11], [], [], [], [], 1, false⟩ else bif Nat.beq k 6 then some ⟨[0, 1, 2, 3, 9, 10, 12], [], [], [], [], 1, false⟩ else none
noncomputable def Q99.fin : St → Option (Bool × LMv) := resK tb Try.f99.results.toList (decRes (Q99.D N) Q99.lc)
noncomputable def Q99.k0 : List Item := stackAt [.r, .r, .l, .r, .b] (bodyOf Try.f99) []
def Q99.st0 (data : LMv) (a_ b_ i_ j_ : Int) (data2 : LMv) : St := ⟨[.one (.own 0), oi a_, oi b_, .one (.fn 78)] ++ rA 5 ++ [oi i_, oi j_] ++ rA 130, [.row 37 qc data2]⟩
noncomputable def Q99.k1 : List Item := stackAt [.r, .r, .l, .r, .b, .w, .r, .l, .b, .l, .b] (bodyOf Try.f99) []
def Q99.st1 (data : LMv) (a_ b_ i_ j_ : Int) (data2 : LMv) : St := ⟨[.one (.own 0), oi a_, oi b_, .one (.fn 78)] ++ rA 5 ++ [oi i_, oi j_] ++ rA 130, [.row 37 qc data2]⟩
noncomputable def Q99.k2 : List Item := stackAt [.r, .r, .l, .r, .b, .w, .r, .l, .b, .r, .r, .r, .r, .l, .r, .t, .r, .b] (bodyOf Try.f99) []
def Q99.st2 (data : LMv) (a_ b_ i_ j_ j_2 : Int) (data2 : LMv) : St := ⟨[.one (.own 0), oi a_, oi b_, .one (.fn 78)] ++ rA 5 ++ [oi i_, oi j_, oi j_2] ++ rA 129, [.row 37 qc data2]⟩
noncomputable def Q99.k3 : List Item := stackAt [.r, .r, .l, .r, .b, .w, .r, .l, .b, .r, .r, .r, .r, .r, .r, .t, .r, .b] (bodyOf Try.f99) []
def Q99.st3 (data : LMv) (a_ b_ i_ j_ j_2 : Int) (data2 : LMv) : St := ⟨[.one (.own 0), oi a_, oi b_, .one (.fn 78)] ++ rA 5 ++ [oi i_, oi j_, oA, oi j_2] ++ rA 128, [.row 37 qc data2]⟩
theorem Q99.step0 (rec : RK (Bool × LMv)) (data : LMv) (a_ b_ i_ j_ : Int) (data2 : LMv) : seg tb (Q99.G N) Q99.A 1 rec (Q99.fin N) segFuel (loopBody Q99.k0) (Q99.st0 data a_ b_ i_ j_ data2) = Q99.s0 N data a_ b_ (fun i_ j_ data2 => rec Q99.k0 (Q99.st0 data a_ b_ i_ j_ data2)) (fun i_ j_ data2 => rec Q99.k1 (Q99.st1 data a_ b_ i_ j_ data2)) (fun i_ j_ j_2 data2 => rec Q99.k2 (Q99.st2 data a_ b_ i_ j_ j_2 data2)) (fun i_ j_ j_2 data2 => rec Q99.k3 (Q99.st3 data a_ b_ i_ j_ j_2 data2)) i_ j_ data2 := by kernel_rfl
theorem Q99.step1 (rec : RK (Bool × LMv)) (data : LMv) (a_ b_ i_ j_ : Int) (data2 : LMv) : seg tb (Q99.G N) Q99.A 1 rec (Q99.fin N) segFuel (loopBody Q99.k1) (Q99.st1 data a_ b_ i_ j_ data2) = Q99.s1 N data a_ b_ (fun i_ j_ data2 => rec Q99.k0 (Q99.st0 data a_ b_ i_ j_ data2)) (fun i_ j_ data2 => rec Q99.k1 (Q99.st1 data a_ b_ i_ j_ data2)) (fun i_ j_ j_2 data2 => rec Q99.k2 (Q99.st2 data a_ b_ i_ j_ j_2 data2)) (fun i_ j_ j_2 data2 => rec Q99.k3 (Q99.st3 data a_ b_ i_ j_ j_2 data2)) i_ j_ data2 := by kernel_rfl
theorem Q99.step2 (rec : RK (Bool × LMv)) (data : LMv) (a_ b_ i_ j_ j_2 : Int) (data2 : LMv) : seg tb (Q99.G N) Q99.A 1 rec (Q99.fin N) segFuel (loopBody Q99.k2) (Q99.st2 data a_ b_ i_ j_ j_2 data2) = Q99.s2 N data a_ b_ (fun i_ j_ data2 => rec Q99.k0 (Q99.st0 data a_ b_ i_ j_ data2)) (fun i_ j_ data2 => rec Q99.k1 (Q99.st1 data a_ b_ i_ j_ data2)) (fun i_ j_ j_2 data2 => rec Q99.k2 (Q99.st2 data a_ b_ i_ j_ j_2 data2)) (fun i_ j_ j_2 data2 => rec Q99.k3 (Q99.st3 data a_ b_ i_ j_ j_2 data2)) i_ j_ j_2 data2 := by kernel_rfl
theorem Q99.step3 (rec : RK (Bool × LMv)) (data : LMv) (a_ b_ i_ j_ j_2 : Int) (data2 : LMv) : seg tb (Q99.G N) Q99.A 1 rec (Q99.fin N) segFuel (loopBody Q99.k3) (Q99.st3 data a_ b_ i_ j_ j_2 data2) = Q99.s3 N data a_ b_ (fun i_ j_ data2 => rec Q99.k0 (Q99.st0 data a_ b_ i_ j_ data2)) (fun i_ j_ data2 => rec Q99.k1 (Q99.st1 data a_ b_ i_ j_ data2)) (fun i_ j_ j_2 data2 => rec Q99.k2 (Q99.st2 data a_ b_ i_ j_ j_2 data2)) (fun i_ j_ j_2 data2 => rec Q99.k3 (Q99.st3 data a_ b_ i_ j_ j_2 data2)) i_ j_ j_2 data2 := by kernel_rfl
theorem Q99.entry (rec : RK (Bool × LMv)) (x : (argH Q99.as).den) : seg tb (Q99.G N) Q99.A 1 rec (Q99.fin N) segFuel [.code (bodyOf Try.f99)] (initSt Try.f99 (encArgs Q99.as x) (encMem Q99.as x)) = Q99.e N (fun i_ j_ data2 => rec Q99.k0 (Q99.st0 x.1 x.2.1 x.2.2.1 i_ j_ data2)) (fun i_ j_ data2 => rec Q99.k1 (Q99.st1 x.1 x.2.1 x.2.2.1 i_ j_ data2)) (fun i_ j_ j_2 data2 => rec Q99.k2 (Q99.st2 x.1 x.2.1 x.2.2.1 i_ j_ j_2 data2)) (fun i_ j_ j_2 data2 => rec Q99.k3 (Q99.st3 x.1 x.2.1 x.2.2.1 i_ j_ j_2 data2)) x.1 x.2.1 x.2.2.1 := by kernel_rfl
theorem Q99.runs (N : Nat) (data : LMv) (a_ b_ : Int) : ∀ n, (∀ (i_ j_ : Int) (data2 : LMv), run tb (Q99.G N) Q99.A 1 (Q99.fin N) n Q99.k0 (Q99.st0 data a_ b_ i_ j_ data2) = Q99.l0 N data a_ b_ n i_ j_ data2) ∧ (∀ (i_ j_ : Int) (data2 : LMv), run tb (Q99.G N) Q99.A 1 (Q99.fin N) n Q99.k1 (Q99.st1 data a_ b_ i_ j_ data2) = Q99.l1 N data a_ b_ n i_ j_ data2) ∧ (∀ (i_ j_ j_2 : Int) (data2 : LMv), run tb (Q99.G N) Q99.A 1 (Q99.fin N) n Q99.k2 (Q99.st2 data a_ b_ i_ j_ j_2 data2) = Q99.l2 N data a_ b_ n i_ j_ j_2 data2) ∧ (∀ (i_ j_ j_2 : Int) (data2 : LMv), run tb (Q99.G N) Q99.A 1 (Q99.fin N) n Q99.k3 (Q99.st3 data a_ b_ i_ j_ j_2 data2) = Q99.l3 N data a_ b_ n i_ j_ j_2 data2)
 | 0 => ⟨fun _ _ _ => rfl, fun _ _ _ => rfl, fun _ _ _ _ => rfl, fun _ _ _ _ => rfl⟩
 | n + 1 => by
  obtain ⟨h0, h1, h2, h3⟩ := Q99.runs N data a_ b_ n
  have e0 : (fun (i_ j_ : Int) (data2 : LMv) => run tb (Q99.G N) Q99.A 1 (Q99.fin N) n Q99.k0 (Q99.st0 data a_ b_ i_ j_ data2)) = Q99.l0 N data a_ b_ n := by funext i_ j_ data2; exact h0 i_ j_ data2
  have e1 : (fun (i_ j_ : Int) (data2 : LMv) => run tb (Q99.G N) Q99.A 1 (Q99.fin N) n Q99.k1 (Q99.st1 data a_ b_ i_ j_ data2)) = Q99.l1 N data a_ b_ n := by funext i_ j_ data2; exact h1 i_ j_ data2
  have e2 : (fun (i_ j_ j_2 : Int) (data2 : LMv) => run tb (Q99.G N) Q99.A 1 (Q99.fin N) n Q99.k2 (Q99.st2 data a_ b_ i_ j_ j_2 data2)) = Q99.l2 N data a_ b_ n := by funext i_ j_ j_2 data2; exact h2 i_ j_ j_2 data2
  have e3 : (fun (i_ j_ j_2 : Int) (data2 : LMv) => run tb (Q99.G N) Q99.A 1 (Q99.fin N) n Q99.k3 (Q99.st3 data a_ b_ i_ j_ j_2 data2)) = Q99.l3 N data a_ b_ n := by funext i_ j_ j_2 data2; exact h3 i_ j_ j_2 data2
  have g0 : (∀ (i_ j_ : Int) (data2 : LMv), run tb (Q99.G N) Q99.A 1 (Q99.fin N) (n + 1) Q99.k0 (Q99.st0 data a_ b_ i_ j_ data2) = Q99.l0 N data a_ b_ (n + 1) i_ j_ data2) := by
   intro i_ j_ data2
   exact (run_succ (by kernel_rfl)).trans ((Q99.step0 N _ data a_ b_ i_ j_ data2).trans ((congr (congr (congr (congrArg (fun r0 r1 r2 r3 => Q99.s0 N data a_ b_ r0 r1 r2 r3 i_ j_ data2) e0) e1) e2) e3).trans (Q99.l0_s N data a_ b_ n i_ j_ data2).symm))
  have g1 : (∀ (i_ j_ : Int) (data2 : LMv), run tb (Q99.G N) Q99.A 1 (Q99.fin N) (n + 1) Q99.k1 (Q99.st1 data a_ b_ i_ j_ data2) = Q99.l1 N data a_ b_ (n + 1) i_ j_ data2) := by
   intro i_ j_ data2
   exact (run_succ (by kernel_rfl)).trans ((Q99.step1 N _ data a_ b_ i_ j_ data2).trans ((congr (congr (congr (congrArg (fun r0 r1 r2 r3 => Q99.s1 N data a_ b_ r0 r1 r2 r3 i_ j_ data2) e0) e1) e2) e3).trans (Q99.l1_s N data a_ b_ n i_ j_ data2).symm))
  have g2 : (∀ (i_ j_ j_2 : Int) (data2 : LMv), run tb (Q99.G N) Q99.A 1 (Q99.fin N) (n + 1) Q99.k2 (Q99.st2 data a_ b_ i_ j_ j_2 data2) = Q99.l2 N data a_ b_ (n + 1) i_ j_ j_2 data2) := by
   intro i_ j_ j_2 data2
   exact (run_succ (by kernel_rfl)).trans ((Q99.step2 N _ data a_ b_ i_ j_ j_2 data2).trans ((congr (congr (congr (congrArg (fun r0 r1 r2 r3 => Q99.s2 N data a_ b_ r0 r1 r2 r3 i_ j_ j_2 data2) e0) e1) e2) e3).trans (Q99.l2_s N data a_ b_ n i_ j_ j_2 data2).symm))
  have g3 : (∀ (i_ j_ j_2 : Int) (data2 : LMv), run tb (Q99.G N) Q99.A 1 (Q99.fin N) (n + 1) Q99.k3 (Q99.st3 data a_ b_ i_ j_ j_2 data2) = Q99.l3 N data a_ b_ (n + 1) i_ j_ j_2 data2) := by
   intro i_ j_ j_2 data2
   exact (run_succ (by kernel_rfl)).trans ((Q99.step3 N _ data a_ b_ i_ j_ j_2 data2).trans ((congr (congr (congr (congrArg (fun r0 r1 r2 r3 => Q99.s3 N data a_ b_ r0 r1 r2 r3 i_ j_ j_2 data2) e0) e1) e2) e3).trans (Q99.l3_s N data a_ b_ n i_ j_ j_2 data2).symm))
  exact ⟨g0, g1, g2, g3⟩
theorem Q99.ok : FnOk Try.prog 99 (Q99.D N) := by
 refine fo ⟨Try.f99, Try.func99, by kernel_rfl, by kernel_rfl, fun x y h => ⟨Q99.G N, Q99.A, N, gamOf_ok (gc ⟨Q78.ok N, Q78.fit N⟩ gn), ?_⟩⟩ (Q99.fit N)
 rw [absFn_n (n0 := 1) rfl (by kernel_rfl)]
 refine (Q99.entry N (run tb (Q99.G N) Q99.A 1 (Q99.fin N) N) x).trans ?_
 have e0 : (fun (i_ j_ : Int) (data2 : LMv) => run tb (Q99.G N) Q99.A 1 (Q99.fin N) N Q99.k0 (Q99.st0 x.1 x.2.1 x.2.2.1 i_ j_ data2)) = Q99.l0 N x.1 x.2.1 x.2.2.1 N := by funext i_ j_ data2; exact (Q99.runs N x.1 x.2.1 x.2.2.1 N).1 i_ j_ data2
 have e1 : (fun (i_ j_ : Int) (data2 : LMv) => run tb (Q99.G N) Q99.A 1 (Q99.fin N) N Q99.k1 (Q99.st1 x.1 x.2.1 x.2.2.1 i_ j_ data2)) = Q99.l1 N x.1 x.2.1 x.2.2.1 N := by funext i_ j_ data2; exact (Q99.runs N x.1 x.2.1 x.2.2.1 N).2.1 i_ j_ data2
 have e2 : (fun (i_ j_ j_2 : Int) (data2 : LMv) => run tb (Q99.G N) Q99.A 1 (Q99.fin N) N Q99.k2 (Q99.st2 x.1 x.2.1 x.2.2.1 i_ j_ j_2 data2)) = Q99.l2 N x.1 x.2.1 x.2.2.1 N := by funext i_ j_ j_2 data2; exact (Q99.runs N x.1 x.2.1 x.2.2.1 N).2.2.1 i_ j_ j_2 data2
 have e3 : (fun (i_ j_ j_2 : Int) (data2 : LMv) => run tb (Q99.G N) Q99.A 1 (Q99.fin N) N Q99.k3 (Q99.st3 x.1 x.2.1 x.2.2.1 i_ j_ j_2 data2)) = Q99.l3 N x.1 x.2.1 x.2.2.1 N := by funext i_ j_ j_2 data2; exact (Q99.runs N x.1 x.2.1 x.2.2.1 N).2.2.2 i_ j_ j_2 data2
 have h' : (Q99.D N).f x = Q99.e N (Q99.l0 N x.1 x.2.1 x.2.2.1 N) (Q99.l1 N x.1 x.2.1 x.2.2.1 N) (Q99.l2 N x.1 x.2.1 x.2.2.1 N) (Q99.l3 N x.1 x.2.1 x.2.2.1 N) x.1 x.2.1 x.2.2.1 := by kernel_rfl
 exact (congr (congr (congr (congrArg (fun r0 r1 r2 r3 => Q99.e N r0 r1 r2 r3 x.1 x.2.1 x.2.2.1) e0) e1) e2) e3).trans (h'.symm.trans h)
def Q100.as : List MK := [.o (.own 37 qc) true, .d false tI, .d false tI, .d false tI, .f 78]
def Q100.rs : List (Bool × HT) := [(false, (.d tI))]
def Q100.lc : List AC := [.own 0]
def Q100.D : DFn := ⟨Q100.as, Q100.rs, (Int × LMv), fun x => Q100 N x.1 x.2.1 x.2.2.1 x.2.2.2.1, fun r o => (r.1, o.1), fun b => (b.1, ()), fun b => (b.2, ()), none⟩
theorem Q100.fit : (Q100.D N).Fit := ⟨fun _ _ => rfl, fun _ _ => rfl, by kernel_rfl, (fun _ _ h => nomatch h), by kernel_rfl⟩
noncomputable def Q100.G : Gam := gamOf [(78, Q78.D N)]
def Q100.A : LA := fun k => bif Nat.beq k 0 then some ⟨[0, 1, 4, 11, 12], [], [], [], [], 1, false⟩ else bif Nat.beq k 2 then some ⟨[0, 1, 4, 11, 12], [], [], [], [], 1, false⟩ else bif Nat.beq k 4 then some ⟨[0, 1, 4, 11, 12], [], [], [], [], 1, false⟩ else none
noncomputable def Q100.fin : St → Option (Int × LMv) := resK tb Try.f100.results.toList (decRes (Q100.D N) Q100.lc)
noncomputable def Q100.k0 : List Item := stackAt [.r, .r, .r, .l, .b] (bodyOf Try.f100) []
def Q100.st0 (data : LMv) (a_ b_ pivot i_ j_ : Int) (data2 : LMv) : St := ⟨[.one (.own 0), oi a_, oA, oA, .one (.fn 78)] ++ rA 6 ++ [oi i_, oi j_] ++ rA 77, [.row 37 qc data2]⟩
noncomputable def Q100.k1 : List Item := stackAt [.r, .r, .r, .l, .b, .w, .b, .l, .b] (bodyOf Try.f100) []
def Q100.st1 (data : LMv) (a_ b_ pivot i_ j_ : Int) (data2 : LMv) : St := ⟨[.one (.own 0), oi a_, oA, oA, .one (.fn 78)] ++ rA 6 ++ [oi i_, oi j_] ++ rA 77, [.row 37 qc data2]⟩
noncomputable def Q100.k2 : List Item := stackAt [.r, .r, .r, .l, .b, .w, .b, .r, .l, .b] (bodyOf Try.f100) []
def Q100.st2 (data : LMv) (a_ b_ pivot i_ j_ : Int) (data2 : LMv) : St := ⟨[.one (.own 0), oi a_, oA, oA, .one (.fn 78)] ++ rA 6 ++ [oi i_, oi j_] ++ rA 77, [.row 37 qc data2]⟩
theorem Q100.step0 (rec : RK (Int × LMv)) (data : LMv) (a_ b_ pivot i_ j_ : Int) (data2 : LMv) : seg tb (Q100.G N) Q100.A 1 rec (Q100.fin N) segFuel (loopBody Q100.k0) (Q100.st0 data a_ b_ pivot i_ j_ data2) = Q100.s0 N data a_ b_ pivot (fun i_ j_ data2 => rec Q100.k0 (Q100.st0 data a_ b_ pivot i_ j_ data2)) (fun i_ j_ data2 => rec Q100.k1 (Q100.st1 data a_ b_ pivot i_ j_ data2)) (fun i_ j_ data2 => rec Q100.k2 (Q100.st2 data a_ b_ pivot i_ j_ data2)) i_ j_ data2 := by kernel_rfl
theorem Q100.step1 (rec : RK (Int × LMv)) (data : LMv) (a_ b_ pivot i_ j_ : Int) (data2 : LMv) : seg tb (Q100.G N) Q100.A 1 rec (Q100.fin N) segFuel (loopBody Q100.k1) (Q100.st1 data a_ b_ pivot i_ j_ data2) = Q100.s1 N data a_ b_ pivot (fun i_ j_ data2 => rec Q100.k0 (Q100.st0 data a_ b_ pivot i_ j_ data2)) (fun i_ j_ data2 => rec Q100.k1 (Q100.st1 data a_ b_ pivot i_ j_ data2)) (fun i_ j_ data2 => rec Q100.k2 (Q100.st2 data a_ b_ pivot i_ j_ data2)) i_ j_ data2 := by kernel_rfl
theorem Q100.step2 (rec : RK (Int × LMv)) (data : LMv) (a_ b_ pivot i_ j_ : Int) (data2 : LMv) : seg tb (Q100.G N) Q100.A 1 rec (Q100.fin N) segFuel (loopBody Q100.k2) (Q100.st2 data a_ b_ pivot i_ j_ data2) = Q100.s2 N data a_ b_ pivot (fun i_ j_ data2 => rec Q100.k0 (Q100.st0 data a_ b_ pivot i_ j_ data2)) (fun i_ j_ data2 => rec Q100.k1 (Q100.st1 data a_ b_ pivot i_ j_ data2)) (fun i_ j_ data2 => rec Q100.k2 (Q100.st2 data a_ b_ pivot i_ j_ data2)) i_ j_ data2 := by kernel_rfl
theorem Q100.entry (rec : RK (Int × LMv)) (x : (argH Q100.as).den) : seg tb (Q100.G N) Q100.A 1 rec (Q100.fin N) segFuel [.code (bodyOf Try.f100)] (initSt Try.f100 (encArgs Q100.as x) (encMem Q100.as x)) = Q100.e N (fun i_ j_ data2 => rec Q100.k0 (Q100.st0 x.1 x.2.1 x.2.2.1 x.2.2.2.1 i_ j_ data2)) (fun i_ j_ data2 => rec Q100.k1 (Q100.st1 x.1 x.2.1 x.2.2.1 x.2.2.2.1 i_ j_ data2)) (fun i_ j_ data2 => rec Q100.k2 (Q100.st2 x.1 x.2.1 x.2.2.1 x.2.2.2.1 i_ j_ data2)) x.1 x.2.1 x.2.2.1 x.2.2.2.1 := by kernel_rfl
theorem Q100.runs (N : Nat) (data : LMv) (a_ b_ pivot : Int) : ∀ n, (∀ (i_ j_ : Int) (data2 : LMv), run tb (Q100.G N) Q100.A 1 (Q100.fin N) n Q100.k0 (Q100.st0 data a_ b_ pivot i_ j_ data2) = Q100.l0 N data a_ b_ pivot n i_ j_ data2) ∧ (∀ (i_ j_ : Int) (data2 : LMv), run tb (Q100.G N) Q100.A 1 (Q100.fin N) n Q100.k1 (Q100.st1 data a_ b_ pivot i_ j_ data2) = Q100.l1 N data a_ b_ pivot n i_ j_ data2) ∧ (∀ (i_ j_ : Int) (data2 : LMv), run tb (Q100.G N) Q100.A 1 (Q100.fin N) n Q100.k2 (Q100.st2 data a_ b_ pivot i_ j_ data2) = Q100.l2 N data a_ b_ pivot n i_ j_ data2)
 | 0 => ⟨fun _ _ _ => rfl, fun _ _ _ => rfl, fun _ _ _ => rfl⟩
 | n + 1 => by
  obtain ⟨h0, h1, h2⟩ := Q100.runs N data a_ b_ pivot n
  have e0 : (fun (i_ j_ : Int) (data2 : LMv) => run tb (Q100.G N) Q100.A 1 (Q100.fin N) n Q100.k0 (Q100.st0 data a_ b_ pivot i_ j_ data2)) = Q100.l0 N data a_ b_ pivot n := by funext i_ j_ data2; exact h0 i_ j_ data2
  have e1 : (fun (i_ j_ : Int) (data2 : LMv) => run tb (Q100.G N) Q100.A 1 (Q100.fin N) n Q100.k1 (Q100.st1 data a_ b_ pivot i_ j_ data2)) = Q100.l1 N data a_ b_ pivot n := by funext i_ j_ data2; exact h1 i_ j_ data2
  have e2 : (fun (i_ j_ : Int) (data2 : LMv) => run tb (Q100.G N) Q100.A 1 (Q100.fin N) n Q100.k2 (Q100.st2 data a_ b_ pivot i_ j_ data2)) = Q100.l2 N data a_ b_ pivot n := by funext i_ j_ data2; exact h2 i_ j_ data2
  have g0 : (∀ (i_ j_ : Int) (data2 : LMv), run tb (Q100.G N) Q100.A 1 (Q100.fin N) (n + 1) Q100.k0 (Q100.st0 data a_ b_ pivot i_ j_ data2) = Q100.l0 N data a_ b_ pivot (n + 1) i_ j_ data2) := by
   intro i_ j_ data2
   exact (run_succ (by kernel_rfl)).trans ((Q100.step0 N _ data a_ b_ pivot i_ j_ data2).trans ((congr (congr (congrArg (fun r0 r1 r2 => Q100.s0 N data a_ b_ pivot r0 r1 r2 i_ j_ data2) e0) e1) e2).trans (Q100.l0_s N data a_ b_ pivot n i_ j_ data2).symm))
  have g1 : (∀ (i_ j_ : Int) (data2 : LMv), run tb (Q100.G N) Q100.A 1 (Q100.fin N) (n + 1) Q100.k1 (Q100.st1 data a_ b_ pivot i_ j_ data2) = Q100.l1 N data a_ b_ pivot (n + 1) i_ j_ data2) := by
   intro i_ j_ data2
   exact (run_succ (by kernel_rfl)).trans ((Q100.step1 N _ data a_ b_ pivot i_ j_ data2).trans ((congr (congr (congrArg (fun r0 r1 r2 => Q100.s1 N data a_ b_ pivot r0 r1 r2 i_ j_ data2) e0) e1) e2).trans (Q100.l1_s N data a_ b_ pivot n i_ j_ data2).symm))
  have g2 : (∀ (i_ j_ : Int) (data2 : LMv), run tb (Q100.G N) Q100.A 1 (Q100.fin N) (n + 1) Q100.k2 (Q100.st2 data a_ b_ pivot i_ j_ data2) = Q100.l2 N data a_ b_ pivot (n + 1) i_ j_ data2) := by
   intro i_ j_ data2
   exact (run_succ (by kernel_rfl)).trans ((Q100.step2 N _ data a_ b_ pivot i_ j_ data2).trans ((congr (congr (congrArg (fun r0 r1 r2 => Q100.s2 N data a_ b_ pivot r0 r1 r2 i_ j_ data2) e0) e1) e2).trans (Q100.l2_s N data a_ b_ pivot n i_ j_ data2).symm))
  exact ⟨g0, g1, g2⟩
theorem Q100.ok : FnOk Try.prog 100 (Q100.D N) := by
 refine fo ⟨Try.f100, Try.func100, by kernel_rfl, by kernel_rfl, fun x y h => ⟨Q100.G N, Q100.A, N, gamOf_ok (gc ⟨Q78.ok N, Q78.fit N⟩ gn), ?_⟩⟩ (Q100.fit N)
 rw [absFn_n (n0 := 1) rfl (by kernel_rfl)]
 refine (Q100.entry N (run tb (Q100.G N) Q100.A 1 (Q100.fin N) N) x).trans ?_
 have e0 : (fun (i_ j_ : Int) (data2 : LMv) => run tb (Q100.G N) Q100.A 1 (Q100.fin N) N Q100.k0 (Q100.st0 x.1 x.2.1 x.2.2.1 x.2.2.2.1 i_ j_ data2)) = Q100.l0 N x.1 x.2.1 x.2.2.1 x.2.2.2.1 N := by funext i_ j_ data2; exact (Q100.runs N x.1 x.2.1 x.2.2.1 x.2.2.2.1 N).1 i_ j_ data2
 have e1 : (fun (i_ j_ : Int) (data2 : LMv) => run tb (Q100.G N) Q100.A 1 (Q100.fin N) N Q100.k1 (Q100.st1 x.1 x.2.1 x.2.2.1 x.2.2.2.1 i_ j_ data2)) = Q100.l1 N x.1 x.2.1 x.2.2.1 x.2.2.2.1 N := by funext i_ j_ data2; exact (Q100.runs N x.1 x.2.1 x.2.2.1 x.2.2.2.1 N).2.1 i_ j_ data2
 have e2 : (fun (i_ j_ : Int) (data2 : LMv) => run tb (Q100.G N) Q100.A 1 (Q100.fin N) N Q100.k2 (Q100.st2 x.1 x.2.1 x.2.2.1 x.2.2.2.1 i_ j_ data2)) = Q100.l2 N x.1 x.2.1 x.2.2.1 x.2.2.2.1 N := by funext i_ j_ data2; exact (Q100.runs N x.1 x.2.1 x.2.2.1 x.2.2.2.1 N).2.2 i_ j_ data2
 have h' : (Q100.D N).f x = Q100.e N (Q100.l0 N x.1 x.2.1 x.2.2.1 x.2.2.2.1 N) (Q100.l1 N x.1 x.2.1 x.2.2.1 x.2.2.2.1 N) (Q100.l2 N x.1 x.2.1 x.2.2.1 x.2.2.2.1 N) x.1 x.2.1 x.2.2.1 x.2.2.2.1 := by kernel_rfl
 exact (congr (congr (congrArg (fun r0 r1 r2 => Q100.e N r0 r1 r2 x.1 x.2.1 x.2.2.1 x.2.2.2.1) e0) e1) e2).trans (h'.symm.trans h)
def Q101.as : List MK := [.o (.own 37 qc) true, .d false tI, .d false tI, .d false tI, .f 78]
def Q101.rs : List (Bool × HT) := [(false, (.d tI)), (false, (.d .bool))]
def Q101.lc : List AC := [.own 0]
def Q101.D : DFn := ⟨Q101.as, Q101.rs, (Int × Bool × LMv), fun x => Q101 N x.1 x.2.1 x.2.2.1 x.2.2.2.1, fun r o => (r.1, r.2.1, o.1), fun b => (b.1, (b.2.1, ())), fun b => (b.2.2, ()), none⟩
theorem Q101.fit : (Q101.D N).Fit := ⟨fun _ _ => rfl, fun _ _ => rfl, by kernel_rfl, (fun _ _ h => nomatch h), by kernel_rfl⟩
noncomputable def Q101.G : Gam := gamOf [(78, Q78.D N)]
def Q101.A : LA := fun k => bif Nat.beq k 0 then some ⟨[0, 1, 4, 12, 13], [], [], [], [], 1, false⟩ else bif Nat.beq k 2 then some ⟨[0, 1, 4, 12, 13], [], [], [], [], 1, false⟩ else bif Nat.beq k 4 then some ⟨[0, 1, 4, 12, 13], [], [], [], [], 1, false⟩ else bif Nat.beq k 6 then some ⟨[0, 1, 4, 12, 13], [], [], [], [], 1, false⟩ else bif Nat.beq k 8 then some ⟨[0, 1, 4, 12, 13], [], [], [], [], 1, false⟩ else none
noncomputable def Q101.fin : St → Option (Int × Bool × LMv) := resK tb Try.f101.results.toList (decRes (Q101.D N) Q101.lc)
noncomputable def Q101.k0 : List Item := stackAt [.r, .r, .r, .l, .b] (bodyOf Try.f101) []
def Q101.st0 (data : LMv) (a_ b_ pivot i_ : Int) (data2 : LMv) : St := ⟨[.one (.own 0), oi a_, oA, oA, .one (.fn 78)] ++ rA 7 ++ [oi i_, oi (w64 (b_ - 1))] ++ rA 164, [.row 37 qc data2]⟩
noncomputable def Q101.k1 : List Item := stackAt [.r, .r, .r, .r, .l, .b] (bodyOf Try.f101) []
def Q101.st1 (data : LMv) (a_ b_ pivot i_ j_ : Int) (data2 : LMv) : St := ⟨[.one (.own 0), oi a_, oA, oA, .one (.fn 78)] ++ rA 7 ++ [oi i_, oi j_] ++ rA 164, [.row 37 qc data2]⟩
noncomputable def Q101.k2 : List Item := stackAt [.r, .r, .r, .r, .r, .r, .r, .r, .r, .l, .b] (bodyOf Try.f101) []
def Q101.st2 (data : LMv) (a_ b_ pivot i_ j_ : Int) (data2 : LMv) : St := ⟨[.one (.own 0), oi a_, oA, oA, .one (.fn 78)] ++ rA 7 ++ [oi i_, oi j_] ++ rA 164, [.row 37 qc data2]⟩
noncomputable def Q101.k3 : List Item := stackAt [.r, .r, .r, .r, .r, .r, .r, .r, .r, .l, .b, .w, .b, .l, .b] (bodyOf Try.f101) []
def Q101.st3 (data : LMv) (a_ b_ pivot i_ j_ : Int) (data2 : LMv) : St := ⟨[.one (.own 0), oi a_, oA, oA, .one (.fn 78)] ++ rA 7 ++ [oi i_, oi j_] ++ rA 164, [.row 37 qc data2]⟩
noncomputable def Q101.k4 : List Item := stackAt [.r, .r, .r, .r, .r, .r, .r, .r, .r, .l, .b, .w, .b, .r, .l, .b] (bodyOf Try.f101) []
def Q101.st4 (data : LMv) (a_ b_ pivot i_ j_ : Int) (data2 : LMv) : St := ⟨[.one (.own 0), oi a_, oA, oA, .one (.fn 78)] ++ rA 7 ++ [oi i_, oi j_] ++ rA 164, [.row 37 qc data2]⟩
theorem Q101.step0 (rec : RK (Int × Bool × LMv)) (data : LMv) (a_ b_ pivot i_ : Int) (data2 : LMv) : seg tb (Q101.G N) Q101.A 1 rec (Q101.fin N) segFuel (loopBody Q101.k0) (Q101.st0 data a_ b_ pivot i_ data2) = Q101.s0 N data a_ b_ pivot (fun i_ data2 => rec Q101.k0 (Q101.st0 data a_ b_ pivot i_ data2)) (fun i_ j_ data2 => rec Q101.k1 (Q101.st1 data a_ b_ pivot i_ j_ data2)) (fun i_ j_ data2 => rec Q101.k2 (Q101.st2 data a_ b_ pivot i_ j_ data2)) (fun i_ j_ data2 => rec Q101.k3 (Q101.st3 data a_ b_ pivot i_ j_ data2)) (fun i_ j_ data2 => rec Q101.k4 (Q101.st4 data a_ b_ pivot i_ j_ data2)) i_ data2 := by kernel_rfl
theorem Q101.step1 (rec : RK (Int × Bool × LMv)) (data : LMv) (a_ b_ pivot i_ j_ : Int) (data2 : LMv) : seg tb (Q101.G N) Q101.A 1 rec (Q101.fin N) segFuel (loopBody Q101.k1) (Q101.st1 data a_ b_ pivot i_ j_ data2) = Q101.s1 N data a_ b_ pivot (fun i_ data2 => rec Q101.k0 (Q101.st0 data a_ b_ pivot i_ data2)) (fun i_ j_ data2 => rec Q101.k1 (Q101.st1 data a_ b_ pivot i_ j_ data2)) (fun i_ j_ data2 => rec Q101.k2 (Q101.st2 data a_ b_ pivot i_ j_ data2)) (fun i_ j_ data2 => rec Q101.k3 (Q101.st3 data a_ b_ pivot i_ j_ data2)) (fun i_ j_ data2 => rec Q101.k4 (Q101.st4 data a_ b_ pivot i_ j_ data2)) i_ j_ data2 := by kernel_rfl
theorem Q101.step2 (rec : RK (Int × Bool × LMv)) (data : LMv) (a_ b_ pivot i_ j_ : Int) (data2 : LMv) : seg tb (Q101.G N) Q101.A 1 rec (Q101.fin N) segFuel (loopBody Q101.k2) (Q101.st2 data a_ b_ pivot i_ j_ data2) = Q101.s2 N data a_ b_ pivot (fun i_ data2 => rec Q101.k0 (Q101.st0 data a_ b_ pivot i_ data2)) (fun i_ j_ data2 => rec Q101.k1 (Q101.st1 data a_ b_ pivot i_ j_ data2)) (fun i_ j_ data2 => rec Q101.k2 (Q101.st2 data a_ b_ pivot i_ j_ data2)) (fun i_ j_ data2 => rec Q101.k3 (Q101.st3 data a_ b_ pivot i_ j_ data2)) (fun i_ j_ data2 => rec Q101.k4 (Q101.st4 data a_ b_ pivot i_ j_ data2)) i_ j_ data2 := by kernel_rfl
theorem Q101.step3 (rec : RK (Int × Bool × LMv)) (data : LMv) (a_ b_ pivot i_ j_ : Int) (data2 : LMv) : seg tb (Q101.G N) Q101.A 1 rec (Q101.fin N) segFuel (loopBody Q101.k3) (Q101.st3 data a_ b_ pivot i_ j_ data2) = Q101.s3 N data a_ b_ pivot (fun i_ data2 => rec Q101.k0 (Q101.st0 data a_ b_ pivot i_ data2)) (fun i_ j_ data2 => rec Q101.k1 (Q101.st1 data a_ b_ pivot i_ j_ data2)) (fun i_ j_ data2 => rec Q101.k2 (Q101.st2 data a_ b_ pivot i_ j_ data2)) (fun i_ j_ data2 => rec Q101.k3 (Q101.st3 data a_ b_ pivot i_ j_ data2)) (fun i_ j_ data2 => rec Q101.k4 (Q101.st4 data a_ b_ pivot i_ j_ data2)) i_ j_ data2 := by kernel_rfl
theorem Q101.step4 (rec : RK (Int × Bool × LMv)) (data : LMv) (a_ b_ pivot i_ j_ : Int) (data2 : LMv) : seg tb (Q101.G N) Q101.A 1 rec (Q101.fin N) segFuel (loopBody Q101.k4) (Q101.st4 data a_ b_ pivot i_ j_ data2) = Q101.s4 N data a_ b_ pivot (fun i_ data2 => rec Q101.k0 (Q101.st0 data a_ b_ pivot i_ data2)) (fun i_ j_ data2 => rec Q101.k1 (Q101.st1 data a_ b_ pivot i_ j_ data2)) (fun i_ j_ data2 => rec Q101.k2 (Q101.st2 data a_ b_ pivot i_ j_ data2)) (fun i_ j_ data2 => rec Q101.k3 (Q101.st3 data a_ b_ pivot i_ j_ data2)) (fun i_ j_ data2 => rec Q101.k4 (Q101.st4 data a_ b_ pivot i_ j_ data2)) i_ j_ data2 := by kernel_rfl
theorem Q101.entry (rec : RK (Int × Bool × LMv)) (x : (argH Q101.as).den) : seg tb (Q101.G N) Q101.A 1 rec (Q101.fin N) segFuel [.code (bodyOf Try.f101)] (initSt Try.f101 (encArgs Q101.as x) (encMem Q101.as x)) = Q101.e N (fun i_ data2 => rec Q101.k0 (Q101.st0 x.1 x.2.1 x.2.2.1 x.2.2.2.1 i_ data2)) (fun i_ j_ data2 => rec Q101.k1 (Q101.st1 x.1 x.2.1 x.2.2.1 x.2.2.2.1 i_ j_ data2)) (fun i_ j_ data2 => rec Q101.k2 (Q101.st2 x.1 x.2.1 x.2.2.1 x.2.2.2.1 i_ j_ data2)) (fun i_ j_ data2 => rec Q101.k3 (Q101.st3 x.1 x.2.1 x.2.2.1 x.2.2.2.1 i_ j_ data2)) (fun i_ j_ data2 => rec Q101.k4 (Q101.st4 x.1 x.2.1 x.2.2.1 x.2.2.2.1 i_ j_ data2)) x.1 x.2.1 x.2.2.1 x.2.2.2.1 := by kernel_rfl
theorem Q101.runs (N : Nat) (data : LMv) (a_ b_ pivot : Int) : ∀ n, (∀ (i_ : Int) (data2 : LMv), run tb (Q101.G N) Q101.A 1 (Q101.fin N) n Q101.k0 (Q101.st0 data a_ b_ pivot i_ data2) = Q101.l0 N data a_ b_ pivot n i_ data2) ∧ (∀ (i_ j_ : Int) (data2 : LMv), run tb (Q101.G N) Q101.A 1 (Q101.fin N) n Q101.k1 (Q101.st1 data a_ b_ pivot i_ j_ data2) = Q101.l1 N data a_ b_ pivot n i_ j_ data2) ∧ (∀ (i_ j_ : Int) (data2 : LMv), run tb (Q101.G N) Q101.A 1 (Q101.fin N) n Q101.k2 (Q101.st2 data a_ b_ pivot i_ j_ data2) = Q101.l2 N data a_ b_ pivot n i_ j_ data2) ∧ (∀ (i_ j_ : Int) (data2 : LMv), run tb (Q101.G N) Q101.A 1 (Q101.fin N) n Q101.k3 (Q101.st3 data a_ b_ pivot i_ j_ data2) = Q101.l3 N data a_ b_ pivot n i_ j_ data2) ∧ (∀ (i_ j_ : Int) (data2 : LMv), run tb (Q101.G N) Q101.A 1 (Q101.fin N) n Q101.k4 (Q101.st4 data a_ b_ pivot i_ j_ data2) = Q101.l4 N data a_ b_ pivot n i_ j_ data2)
 | 0 => ⟨fun _ _ => rfl, fun _ _ _ => rfl, fun _ _ _ => rfl, fun _ _ _ => rfl, fun _ _ _ => rfl⟩
 | n + 1 => by
  obtain ⟨h0, h1, h2, h3, h4⟩ := Q101.runs N data a_ b_ pivot n
  have e0 : (fun (i_ : Int) (data2 : LMv) => run tb (Q101.G N) Q101.A 1 (Q101.fin N) n Q101.k0 (Q101.st0 data a_ b_ pivot i_ data2)) = Q101.l0 N data a_ b_ pivot n := by funext i_ data2; exact h0 i_ data2
  have e1 : (fun (i_ j_ : Int) (data2 : LMv) => run tb (Q101.G N) Q101.A 1 (Q101.fin N) n Q101.k1 (Q101.st1 data a_ b_ pivot i_ j_ data2)) = Q101.l1 N data a_ b_ pivot n := by funext i_ j_ data2; exact h1 i_ j_ data2
  have e2 : (fun (i_ j_ : Int) (data2 : LMv) => run tb (Q101.G N) Q101.A 1 (Q101.fin N) n Q101.k2 (Q101.st2 data a_ b_ pivot i_ j_ data2)) = Q101.l2 N data a_ b_ pivot n := by funext i_ j_ data2; exact h2 i_ j_ data2
  have e3 : (fun (i_ j_ : Int) (data2 : LMv) => run tb (Q101.G N) Q101.A 1 (Q101.fin N) n Q101.k3 (Q101.st3 data a_ b_ pivot i_ j_ data2)) = Q101.l3 N data a_ b_ pivot n := by funext i_ j_ data2; exact h3 i_ j_ data2
  have e4 : (fun (i_ j_ : Int) (data2 : LMv) => run tb (Q101.G N) Q101.A 1 (Q101.fin N) n Q101.k4 (Q101.st4 data a_ b_ pivot i_ j_ data2)) = Q101.l4 N data a_ b_ pivot n := by funext i_ j_ data2; exact h4 i_ j_ data2
  have g0 : (∀ (i_ : Int) (data2 : LMv), run tb (Q101.G N) Q101.A 1 (Q101.fin N) (n + 1) Q101.k0 (Q101.st0 data a_ b_ pivot i_ data2) = Q101.l0 N data a_ b_ pivot (n + 1) i_ data2) := by
   intro i_ data2
   exact (run_succ (by kernel_rfl)).trans ((Q101.step0 N _ data a_ b_ pivot i_ data2).trans ((congr (congr (congr (congr (congrArg (fun r0 r1 r2 r3 r4 => Q101.s0 N data a_ b_ pivot r0 r1 r2 r3 r4 i_ data2) e0) e1) e2) e3) e4).trans (Q101.l0_s N data a_ b_ pivot n i_ data2).symm))
  have g1 : (∀ (i_ j_ : Int) (data2 : LMv), run tb (Q101.G N) Q101.A 1 (Q101.fin N) (n + 1) Q101.k1 (Q101.st1 data a_ b_ pivot i_ j_ data2) = Q101.l1 N data a_ b_ pivot (n + 1) i_ j_ data2) := by
   intro i_ j_ data2
   exact (run_succ (by kernel_rfl)).trans ((Q101.step1 N _ data a_ b_ pivot i_ j_ data2).trans ((congr (congr (congr (congr (congrArg (fun r0 r1 r2 r3 r4 => Q101.s1 N data a_ b_ pivot r0 r1 r2 r3 r4 i_ j_ data2) e0) e1) e2) e3) e4).trans (Q101.l1_s N data a_ b_ pivot n i_ j_ data2).symm))
  have g2 : (∀ (i_ j_ : Int) (data2 : LMv), run tb (Q101.G N) Q101.A 1 (Q101.fin N) (n + 1) Q101.k2 (Q101.st2 data a_ b_ pivot i_ j_ data2) = Q101.l2 N data a_ b_ pivot (n + 1) i_ j_ data2) := by
   intro i_ j_ data2
   exact (run_succ (by kernel_rfl)).trans ((Q101.step2 N _ data a_ b_ pivot i_ j_ data2).trans ((congr (congr (congr (congr (congrArg (fun r0 r1 r2 r3 r4 => Q101.s2 N data a_ b_ pivot r0 r1 r2 r3 r4 i_ j_ data2) e0) e1) e2) e3) e4).trans (Q101.l2_s N data a_ b_ pivot n i_ j_ data2).symm))
  have g3 : (∀ (i_ j_ : Int) (data2 : LMv), run tb (Q101.G N) Q101.A 1 (Q101.fin N) (n + 1) Q101.k3 (Q101.st3 data a_ b_ pivot i_ j_ data2) = Q101.l3 N data a_ b_ pivot (n + 1) i_ j_ data2) := by
   intro i_ j_ data2
   exact (run_succ (by kernel_rfl)).trans ((Q101.step3 N _ data a_ b_ pivot i_ j_ data2).trans ((congr (congr (congr (congr (congrArg (fun r0 r1 r2 r3 r4 => Q101.s3 N data a_ b_ pivot r0 r1 r2 r3 r4 i_ j_ data2) e0) e1) e2) e3) e4).trans (Q101.l3_s N data a_ b_ pivot n i_ j_ data2).symm))
  have g4 : (∀ (i_ j_ : Int) (data2 : LMv), run tb (Q101.G N) Q101.A 1 (Q101.fin N) (n + 1) Q101.k4 (Q101.st4 data a_ b_ pivot i_ j_ data2) = Q101.l4 N data a_ b_ pivot (n + 1) i_ j_ data2) := by
   intro i_ j_ data2
   exact (run_succ (by kernel_rfl)).trans ((Q101.step4 N _ data a_ b_ pivot i_ j_ data2).trans ((congr (congr (congr (congr (congrArg (fun r0 r1 r2 r3 r4 => Q101.s4 N data a_ b_ pivot r0 r1 r2 r3 r4 i_ j_ data2) e0) e1) e2) e3) e4).trans (Q101.l4_s N data a_ b_ pivot n i_ j_ data2).symm))
  exact ⟨g0, g1, g2, g3, g4⟩
theorem Q101.ok : FnOk Try.prog 101 (Q101.D N) := by
 refine fo ⟨Try.f101, Try.func101, by kernel_rfl, by kernel_rfl, fun x y h => ⟨Q101.G N, Q101.A, N, gamOf_ok (gc ⟨Q78.ok N, Q78.fit N⟩ gn), ?_⟩⟩ (Q101.fit N)
 rw [absFn_n (n0 := 1) rfl (by kernel_rfl)]
 refine (Q101.entry N (run tb (Q101.G N) Q101.A 1 (Q101.fin N) N) x).trans ?_
 have e0 : (fun (i_ : Int) (data2 : LMv) => run tb (Q101.G N) Q101.A 1 (Q101.fin N) N Q101.k0 (Q101.st0 x.1 x.2.1 x.2.2.1 x.2.2.2.1 i_ data2)) = Q101.l0 N x.1 x.2.1 x.2.2.1 x.2.2.2.1 N := by funext i_ data2; exact (Q101.runs N x.1 x.2.1 x.2.2.1 x.2.2.2.1 N).1 i_ data2
 have e1 : (fun (i_ j_ : Int) (data2 : LMv) => run tb (Q101.G N) Q101.A 1 (Q101.fin N) N Q101.k1 (Q101.st1 x.1 x.2.1 x.2.2.1 x.2.2.2.1 i_ j_ data2)) = Q101.l1 N x.1 x.2.1 x.2.2.1 x.2.2.2.1 N := by funext i_ j_ data2; exact (Q101.runs N x.1 x.2.1 x.2.2.1 x.2.2.2.1 N).2.1 i_ j_ data2
 have e2 : (fun (i_ j_ : Int) (data2 : LMv) => run tb (Q101.G N) Q101.A 1 (Q101.fin N) N Q101.k2 (Q101.st2 x.1 x.2.1 x.2.2.1 x.2.2.2.1 i_ j_ data2)) = Q101.l2 N x.1 x.2.1 x.2.2.1 x.2.2.2.1 N := by funext i_ j_ data2; exact (Q101.runs N x.1 x.2.1 x.2.2.1 x.2.2.2.1 N).2.2.1 i_ j_ data2
 have e3 : (fun (i_ j_ : Int) (data2 : LMv) => run tb (Q101.G N) Q101.A 1 (Q101.fin N) N Q101.k3 (Q101.st3 x.1 x.2.1 x.2.2.1 x.2.2.2.1 i_ j_ data2)) = Q101.l3 N x.1 x.2.1 x.2.2.1 x.2.2.2.1 N := by funext i_ j_ data2; exact (Q101.runs N x.1 x.2.1 x.2.2.1 x.2.2.2.1 N).2.2.2.1 i_ j_ data2
 have e4 : (fun (i_ j_ : Int) (data2 : LMv) => run tb (Q101.G N) Q101.A 1 (Q101.fin N) N Q101.k4 (Q101.st4 x.1 x.2.1 x.2.2.1 x.2.2.2.1 i_ j_ data2)) = Q101.l4 N x.1 x.2.1 x.2.2.1 x.2.2.2.1 N := by funext i_ j_ data2; exact (Q101.runs N x.1 x.2.1 x.2.2.1 x.2.2.2.1 N).2.2.2.2 i_ j_ data2
 have h' : (Q101.D N).f x = Q101.e N (Q101.l0 N x.1 x.2.1 x.2.2.1 x.2.2.2.1 N) (Q101.l1 N x.1 x.2.1 x.2.2.1 x.2.2.2.1 N) (Q101.l2 N x.1 x.2.1 x.2.2.1 x.2.2.2.1 N) (Q101.l3 N x.1 x.2.1 x.2.2.1 x.2.2.2.1 N) (Q101.l4 N x.1 x.2.1 x.2.2.1 x.2.2.2.1 N) x.1 x.2.1 x.2.2.1 x.2.2.2.1 := by kernel_rfl
 exact (congr (congr (congr (congr (congrArg (fun r0 r1 r2 r3 r4 => Q101.e N r0 r1 r2 r3 r4 x.1 x.2.1 x.2.2.1 x.2.2.2.1) e0) e1) e2) e3) e4).trans (h'.symm.trans h)
def Q106.as : List MK := [.d false tI]
def Q106.rs : List (Bool × HT) := [(false, (.d (.int .u64)))]
def Q106.lc : List AC := []
def Q106.D : DFn := ⟨Q106.as, Q106.rs, Int, fun x => Q106 N x.1, fun r o => r.1, fun b => (b, ()), fun b => (), none⟩
theorem Q106.fit : (Q106.D N).Fit := ⟨fun _ _ => rfl, fun _ _ => rfl, by kernel_rfl, (fun _ _ h => nomatch h), by kernel_rfl⟩
noncomputable def Q106.G : Gam := gamOf [(90, Q90.D N)]
def Q106.A : LA := fun _ => none
noncomputable def Q106.fin : St → Option Int := resK tb Try.f106.results.toList (decRes (Q106.D N) Q106.lc)
theorem Q106.entry (rec : RK Int) (x : (argH Q106.as).den) : seg tb (Q106.G N) Q106.A 0 rec (Q106.fin N) segFuel [.code (bodyOf Try.f106)] (initSt Try.f106 (encArgs Q106.as x) (encMem Q106.as x)) = Q106.e N x.1 := by kernel_rfl
theorem Q106.ok : FnOk Try.prog 106 (Q106.D N) := by
 refine fo ⟨Try.f106, Try.func106, by kernel_rfl, by kernel_rfl, fun x y h => ⟨Q106.G N, Q106.A, N, gamOf_ok (gc ⟨Q90.ok N, Q90.fit N⟩ gn), ?_⟩⟩ (Q106.fit N)
 rw [absFn_n (n0 := 0) rfl (by kernel_rfl)]
 exact (Q106.entry N _ x).trans h
def Q107.as : List MK := [.o (.ptr 184 (.d (.int .u64))) true]
def Q107.rs : List (Bool × HT) := [(false, (.d (.int .u64)))]
def Q107.lc : List AC := [.ptr 0 0]
def Q107.D : DFn := ⟨Q107.as, Q107.rs, (Int × Int), fun x => Q107 N x.1, fun r o => (r.1, o.1), fun b => (b.1, ()), fun b => (b.2, ()), none⟩
theorem Q107.fit : (Q107.D N).Fit := ⟨fun _ _ => rfl, fun _ _ => rfl, by kernel_rfl, (fun _ _ h => nomatch h), by kernel_rfl⟩
noncomputable def Q107.G (N : Nat) : Gam := gamOf []
def Q107.A : LA := fun _ => none
noncomputable def Q107.fin : St → Option (Int × Int) := resK tb Try.f107.results.toList (decRes (Q107.D N) Q107.lc)
theorem Q107.entry (rec : RK (Int × Int)) (x : (argH Q107.as).den) : seg tb (Q107.G N) Q107.A 1 rec (Q107.fin N) segFuel [.code (bodyOf Try.f107)] (initSt Try.f107 (encArgs Q107.as x) (encMem Q107.as x)) = Q107.e N x.1 := by kernel_rfl
theorem Q107.ok : FnOk Try.prog 107 (Q107.D N) := by
 refine fo ⟨Try.f107, Try.func107, by kernel_rfl, by kernel_rfl, fun x y h => ⟨Q107.G N, Q107.A, N, gamOf_ok (fun p hp => nomatch hp), ?_⟩⟩ (Q107.fit N)
 rw [absFn_n (n0 := 1) rfl (by kernel_rfl)]
 exact (Q107.entry N _ x).trans h
def Q96.as : List MK := [.o (.own 37 qc) true, .d false tI, .d false tI, .f 78]
def Q96.rs : List (Bool × HT) := []
def Q96.lc : List AC := [.own 0]
def Q96.D : DFn := ⟨Q96.as, Q96.rs, LMv, fun x => Q96 N x.1 x.2.1 x.2.2.1, fun r o => o.1, fun b => (), fun b => (b, ()), none⟩
theorem Q96.fit : (Q96.D N).Fit := ⟨fun _ _ => rfl, fun _ _ => rfl, by kernel_rfl, (fun _ _ h => nomatch h), by kernel_rfl⟩
noncomputable def Q96.G : Gam := gamOf [(106, Q106.D N), (107, Q107.D N)]
def Q96.A : LA := fun k => bif Nat.beq k 0 then some ⟨[0, 1, 8, 9, 10, 11], [], [], [], [], 2, false⟩ else none
noncomputable def Q96.fin : St → Option LMv := resK tb Try.f96.results.toList (decRes (Q96.D N) Q96.lc)
noncomputable def Q96.k0 : List Item := stackAt [.r, .r, .t, .r, .r, .r, .b] (bodyOf Try.f96) []
def Q96.st0 (data : LMv) (a_ b_ modulus idx : Int) (data2 : LMv) (random : Int) : St := ⟨[.one (.own 0), oi a_] ++ rA 6 ++ [oi (w64 (b_ - a_)), .one (.ptr 1 0), .one (.int .u64 modulus), oi idx] ++ rA 55, [.row 37 qc data2, .var 184 [.int .u64 random]]⟩
theorem Q96.step0 (rec : RK LMv) (data : LMv) (a_ b_ modulus idx : Int) (data2 : LMv) (random : Int) : seg tb (Q96.G N) Q96.A 1 rec (Q96.fin N) segFuel (loopBody Q96.k0) (Q96.st0 data a_ b_ modulus idx data2 random) = Q96.s0 N data a_ b_ (fun modulus idx data2 random => rec Q96.k0 (Q96.st0 data a_ b_ modulus idx data2 random)) modulus idx data2 random := by kernel_rfl
theorem Q96.entry (rec : RK LMv) (x : (argH Q96.as).den) : seg tb (Q96.G N) Q96.A 1 rec (Q96.fin N) segFuel [.code (bodyOf Try.f96)] (initSt Try.f96 (encArgs Q96.as x) (encMem Q96.as x)) = Q96.e N (fun modulus idx data2 random => rec Q96.k0 (Q96.st0 x.1 x.2.1 x.2.2.1 modulus idx data2 random)) x.1 x.2.1 x.2.2.1 := by kernel_rfl
theorem Q96.runs (N : Nat) (data : LMv) (a_ b_ : Int) : ∀ n, (∀ (modulus idx : Int) (data2 : LMv) (random : Int), run tb (Q96.G N) Q96.A 1 (Q96.fin N) n Q96.k0 (Q96.st0 data a_ b_ modulus idx data2 random) = Q96.l0 N data a_ b_ n modulus idx data2 random)
 | 0 => fun _ _ _ _ => rfl
 | n + 1 => by
  have h0 := Q96.runs N data a_ b_ n
  have e0 : (fun (modulus idx : Int) (data2 : LMv) (random : Int) => run tb (Q96.G N) Q96.A 1 (Q96.fin N) n Q96.k0 (Q96.st0 data a_ b_ modulus idx data2 random)) = Q96.l0 N data a_ b_ n := by funext modulus idx data2 random; exact h0 modulus idx data2 random
  have g0 : (∀ (modulus idx : Int) (data2 : LMv) (random : Int), run tb (Q96.G N) Q96.A 1 (Q96.fin N) (n + 1) Q96.k0 (Q96.st0 data a_ b_ modulus idx data2 random) = Q96.l0 N data a_ b_ (n + 1) modulus idx data2 random) := by
   intro modulus idx data2 random
   exact (run_succ (by kernel_rfl)).trans ((Q96.step0 N _ data a_ b_ modulus idx data2 random).trans ((congrArg (fun r0 => Q96.s0 N data a_ b_ r0 modulus idx data2 random) e0).trans (Q96.l0_s N data a_ b_ n modulus idx data2 random).symm))
  exact g0
theorem Q96.ok : FnOk Try.prog 96 (Q96.D N) := by
 refine fo ⟨Try.f96, Try.func96, by kernel_rfl, by kernel_rfl, fun x y h => ⟨Q96.G N, Q96.A, N, gamOf_ok (gc ⟨Q106.ok N, Q106.fit N⟩ (gc ⟨Q107.ok N, Q107.fit N⟩ gn)), ?_⟩⟩ (Q96.fit N)
 rw [absFn_n (n0 := 1) rfl (by kernel_rfl)]
 refine (Q96.entry N (run tb (Q96.G N) Q96.A 1 (Q96.fin N) N) x).trans ?_
 have e0 : (fun (modulus idx : Int) (data2 : LMv) (random : Int) => run tb (Q96.G N) Q96.A 1 (Q96.fin N) N Q96.k0 (Q96.st0 x.1 x.2.1 x.2.2.1 modulus idx data2 random)) = Q96.l0 N x.1 x.2.1 x.2.2.1 N := by funext modulus idx data2 random; exact (Q96.runs N x.1 x.2.1 x.2.2.1 N) modulus idx data2 random
 have h' : (Q96.D N).f x = Q96.e N (Q96.l0 N x.1 x.2.1 x.2.2.1 N) x.1 x.2.1 x.2.2.1 := by kernel_rfl
 exact (congrArg (fun r0 => Q96.e N r0 x.1 x.2.1 x.2.2.1) e0).trans (h'.symm.trans h)
def Q89.as : List MK := [.o (.own 37 qc) true, .d false tI, .d false tI, .d false tI, .f 78]
def Q89.rs : List (Bool × HT) := []
def Q89.lc : List AC := [.own 0]
def Q89.D : DFn := ⟨Q89.as, Q89.rs, LMv, fun x => Q89 N x.1 x.2.1 x.2.2.1 x.2.2.2.1, fun r o => o.1, fun b => (), fun b => (b, ()), none⟩
theorem Q89.fit : (Q89.D N).Fit := ⟨fun _ _ => rfl, fun _ _ => rfl, by kernel_rfl, (fun _ _ h => nomatch h), by kernel_rfl⟩
noncomputable def Q89.G : Gam := gamOf [(94, Q94.D N), (95, Q95.D N), (96, Q96.D N), (97, Q97.D N), (98, Q98.D N), (99, Q99.D N), (78, Q78.D N), (100, Q100.D N), (101, Q101.D N), (89, Q89.D N)]
def Q89.A : LA := fun k => bif Nat.beq k 0 then some ⟨[0, 1, 2, 3, 4, 10, 11], [], [], [], [], 1, false⟩ else none
noncomputable def Q89.fin : St → Option LMv := resK tb Try.f89.results.toList (decRes (Q89.D (N + 1)) Q89.lc)
noncomputable def Q89.k0 : List Item := stackAt [.r, .r, .b] (bodyOf Try.f89) []
def Q89.st0 (data : LMv) (a_ b_ limit a_2 b_2 limit2 : Int) (wasBalanced wasPartitioned : Bool) (data2 : LMv) : St := ⟨[.one (.own 0), oi a_2, oi b_2, oi limit2, .one (.fn 78)] ++ rA 5 ++ [.one (.bool wasBalanced), .one (.bool wasPartitioned)] ++ rA 136, [.row 37 qc data2]⟩
theorem Q89.step0_tt (rec : RK LMv) (data : LMv) (a_ b_ limit a_2 b_2 limit2 : Int) (data2 : LMv) : seg tb (Q89.G N) Q89.A 1 rec (Q89.fin N) segFuel (loopBody Q89.k0) (Q89.st0 data a_ b_ limit a_2 b_2 limit2 true true data2) = Q89.s0 N (Q89 N) data a_ b_ limit (fun a_2 b_2 limit2 wasBalanced wasPartitioned data2 => rec Q89.k0 (Q89.st0 data a_ b_ limit a_2 b_2 limit2 wasBalanced wasPartitioned data2)) a_2 b_2 limit2 true true data2 := by kernel_rfl
theorem Q89.step0_tf (rec : RK LMv) (data : LMv) (a_ b_ limit a_2 b_2 limit2 : Int) (data2 : LMv) : seg tb (Q89.G N) Q89.A 1 rec (Q89.fin N) segFuel (loopBody Q89.k0) (Q89.st0 data a_ b_ limit a_2 b_2 limit2 true false data2) = Q89.s0 N (Q89 N) data a_ b_ limit (fun a_2 b_2 limit2 wasBalanced wasPartitioned data2 => rec Q89.k0 (Q89.st0 data a_ b_ limit a_2 b_2 limit2 wasBalanced wasPartitioned data2)) a_2 b_2 limit2 true false data2 := by kernel_rfl
theorem Q89.step0_ft (rec : RK LMv) (data : LMv) (a_ b_ limit a_2 b_2 limit2 : Int) (data2 : LMv) : seg tb (Q89.G N) Q89.A 1 rec (Q89.fin N) segFuel (loopBody Q89.k0) (Q89.st0 data a_ b_ limit a_2 b_2 limit2 false true data2) = Q89.s0 N (Q89 N) data a_ b_ limit (fun a_2 b_2 limit2 wasBalanced wasPartitioned data2 => rec Q89.k0 (Q89.st0 data a_ b_ limit a_2 b_2 limit2 wasBalanced wasPartitioned data2)) a_2 b_2 limit2 false true data2 := by kernel_rfl
theorem Q89.step0_ff (rec : RK LMv) (data : LMv) (a_ b_ limit a_2 b_2 limit2 : Int) (data2 : LMv) : seg tb (Q89.G N) Q89.A 1 rec (Q89.fin N) segFuel (loopBody Q89.k0) (Q89.st0 data a_ b_ limit a_2 b_2 limit2 false false data2) = Q89.s0 N (Q89 N) data a_ b_ limit (fun a_2 b_2 limit2 wasBalanced wasPartitioned data2 => rec Q89.k0 (Q89.st0 data a_ b_ limit a_2 b_2 limit2 wasBalanced wasPartitioned data2)) a_2 b_2 limit2 false false data2 := by kernel_rfl
theorem Q89.step0 (rec : RK LMv) (data : LMv) (a_ b_ limit a_2 b_2 limit2 : Int) (wasBalanced wasPartitioned : Bool) (data2 : LMv) : seg tb (Q89.G N) Q89.A 1 rec (Q89.fin N) segFuel (loopBody Q89.k0) (Q89.st0 data a_ b_ limit a_2 b_2 limit2 wasBalanced wasPartitioned data2) = Q89.s0 N (Q89 N) data a_ b_ limit (fun a_2 b_2 limit2 wasBalanced wasPartitioned data2 => rec Q89.k0 (Q89.st0 data a_ b_ limit a_2 b_2 limit2 wasBalanced wasPartitioned data2)) a_2 b_2 limit2 wasBalanced wasPartitioned data2 := match wasBalanced, wasPartitioned with | true, true => Q89.step0_tt N rec data a_ b_ limit a_2 b_2 limit2 data2 | true, false => Q89.step0_tf N rec data a_ b_ limit a_2 b_2 limit2 data2 | false, true => Q89.step0_ft N rec data a_ b_ limit a_2 b_2 limit2 data2 | false, false => Q89.step0_ff N rec data a_ b_ limit a_2 b_2 limit2 data2
theorem Q89.entry (rec : RK LMv) (x : (argH Q89.as).den) : seg tb (Q89.G N) Q89.A 1 rec (Q89.fin N) segFuel [.code (bodyOf Try.f89)] (initSt Try.f89 (encArgs Q89.as x) (encMem Q89.as x)) = Q89.e N (Q89 N) (fun a_2 b_2 limit2 wasBalanced wasPartitioned data2 => rec Q89.k0 (Q89.st0 x.1 x.2.1 x.2.2.1 x.2.2.2.1 a_2 b_2 limit2 wasBalanced wasPartitioned data2)) x.1 x.2.1 x.2.2.1 x.2.2.2.1 := by kernel_rfl
theorem Q89.runs (N : Nat) (data : LMv) (a_ b_ limit : Int) : ∀ n, (∀ (a_2 b_2 limit2 : Int) (wasBalanced wasPartitioned : Bool) (data2 : LMv), run tb (Q89.G N) Q89.A 1 (Q89.fin N) n Q89.k0 (Q89.st0 data a_ b_ limit a_2 b_2 limit2 wasBalanced wasPartitioned data2) = Q89.l0 N (Q89 N) data a_ b_ limit n a_2 b_2 limit2 wasBalanced wasPartitioned data2)
 | 0 => fun _ _ _ _ _ _ => rfl
 | n + 1 => by
  have h0 := Q89.runs N data a_ b_ limit n
  have e0 : (fun (a_2 b_2 limit2 : Int) (wasBalanced wasPartitioned : Bool) (data2 : LMv) => run tb (Q89.G N) Q89.A 1 (Q89.fin N) n Q89.k0 (Q89.st0 data a_ b_ limit a_2 b_2 limit2 wasBalanced wasPartitioned data2)) = Q89.l0 N (Q89 N) data a_ b_ limit n := by funext a_2 b_2 limit2 wasBalanced wasPartitioned data2; exact h0 a_2 b_2 limit2 wasBalanced wasPartitioned data2
  have g0 : (∀ (a_2 b_2 limit2 : Int) (wasBalanced wasPartitioned : Bool) (data2 : LMv), run tb (Q89.G N) Q89.A 1 (Q89.fin N) (n + 1) Q89.k0 (Q89.st0 data a_ b_ limit a_2 b_2 limit2 wasBalanced wasPartitioned data2) = Q89.l0 N (Q89 N) data a_ b_ limit (n + 1) a_2 b_2 limit2 wasBalanced wasPartitioned data2) := by
   intro a_2 b_2 limit2 wasBalanced wasPartitioned data2
   exact (run_succ (by kernel_rfl)).trans ((Q89.step0 N _ data a_ b_ limit a_2 b_2 limit2 wasBalanced wasPartitioned data2).trans ((congrArg (fun r0 => Q89.s0 N (Q89 N) data a_ b_ limit r0 a_2 b_2 limit2 wasBalanced wasPartitioned data2) e0).trans (Q89.l0_s N (Q89 N) data a_ b_ limit n a_2 b_2 limit2 wasBalanced wasPartitioned data2).symm))
  exact g0
theorem Q89.ok1 (ih : FnOk Try.prog 89 (Q89.D N)) : FnOk Try.prog 89 (Q89.D (N + 1)) := by
 refine fo ⟨Try.f89, Try.func89, by kernel_rfl, by kernel_rfl, fun x y h => ⟨Q89.G N, Q89.A, N, gamOf_ok (by simp only [List.forall_mem_cons, List.not_mem_nil, false_implies, implies_true, and_true]; exact ⟨⟨Q94.ok N, Q94.fit N⟩, ⟨Q95.ok N, Q95.fit N⟩, ⟨Q96.ok N, Q96.fit N⟩, ⟨Q97.ok N, Q97.fit N⟩, ⟨Q98.ok N, Q98.fit N⟩, ⟨Q99.ok N, Q99.fit N⟩, ⟨Q78.ok N, Q78.fit N⟩, ⟨Q100.ok N, Q100.fit N⟩, ⟨Q101.ok N, Q101.fit N⟩, ⟨ih, Q89.fit N⟩⟩), ?_⟩⟩ (Q89.fit (N + 1))
 rw [absFn_n (n0 := 1) rfl (by kernel_rfl)]
 refine (Q89.entry N (run tb (Q89.G N) Q89.A 1 (Q89.fin N) N) x).trans ?_
 have e0 : (fun (a_2 b_2 limit2 : Int) (wasBalanced wasPartitioned : Bool) (data2 : LMv) => run tb (Q89.G N) Q89.A 1 (Q89.fin N) N Q89.k0 (Q89.st0 x.1 x.2.1 x.2.2.1 x.2.2.2.1 a_2 b_2 limit2 wasBalanced wasPartitioned data2)) = Q89.l0 N (Q89 N) x.1 x.2.1 x.2.2.1 x.2.2.2.1 N := by funext a_2 b_2 limit2 wasBalanced wasPartitioned data2; exact (Q89.runs N x.1 x.2.1 x.2.2.1 x.2.2.2.1 N) a_2 b_2 limit2 wasBalanced wasPartitioned data2
 have h' : (Q89.D (N + 1)).f x = Q89.e N (Q89 N) (Q89.l0 N (Q89 N) x.1 x.2.1 x.2.2.1 x.2.2.2.1 N) x.1 x.2.1 x.2.2.1 x.2.2.2.1 := by kernel_rfl
 exact (congrArg (fun r0 => Q89.e N (Q89 N) r0 x.1 x.2.1 x.2.2.1 x.2.2.2.1) e0).trans (h'.symm.trans h)
theorem Q89.ok : ∀ N, FnOk Try.prog 89 (Q89.D N)
 | 0 => FnOk_none Try.func89 (by kernel_rfl) (by kernel_rfl) (fun x => rfl)
 | N + 1 => Q89.ok1 N (Q89.ok N)
def Q77.as : List MK := [.o (.own 37 qc) true, .f 78]
def Q77.rs : List (Bool × HT) := []
def Q77.lc : List AC := [.own 0]
def Q77.D : DFn := ⟨Q77.as, Q77.rs, LMv, fun x => Q77 N x.1, fun r o => o.1, fun b => (), fun b => (b, ()), none⟩
theorem Q77.fit : (Q77.D N).Fit := ⟨fun _ _ => rfl, fun _ _ => rfl, by kernel_rfl, (fun _ _ h => nomatch h), by kernel_rfl⟩
noncomputable def Q77.G : Gam := gamOf [(90, Q90.D N), (89, Q89.D N)]
def Q77.A : LA := fun _ => none
noncomputable def Q77.fin : St → Option LMv := resK tb Try.f77.results.toList (decRes (Q77.D N) Q77.lc)
theorem Q77.entry (rec : RK LMv) (x : (argH Q77.as).den) : seg tb (Q77.G N) Q77.A 1 rec (Q77.fin N) segFuel [.code (bodyOf Try.f77)] (initSt Try.f77 (encArgs Q77.as x) (encMem Q77.as x)) = Q77.e N x.1 := by kernel_rfl
theorem Q77.ok : FnOk Try.prog 77 (Q77.D N) := by
 refine fo ⟨Try.f77, Try.func77, by kernel_rfl, by kernel_rfl, fun x y h => ⟨Q77.G N, Q77.A, N, gamOf_ok (gc ⟨Q90.ok N, Q90.fit N⟩ (gc ⟨Q89.ok N, Q89.fit N⟩ gn)), ?_⟩⟩ (Q77.fit N)
 rw [absFn_n (n0 := 1) rfl (by kernel_rfl)]
 exact (Q77.entry N _ x).trans h
def Q79.as : List MK := [.o (.own 37 qc) false]
def Q79.rs : List (Bool × HT) := [(false, (.own 37 qc))]
def Q79.lc : List AC := []
def Q79.D : DFn := ⟨Q79.as, Q79.rs, LMv, fun x => Q79 N x.1, fun r o => r.1, fun b => (b, ()), fun b => (), none⟩
theorem Q79.fit : (Q79.D N).Fit := ⟨fun _ _ => rfl, fun _ _ => rfl, by kernel_rfl, (fun _ _ h => nomatch h), by kernel_rfl⟩
noncomputable def Q79.G (N : Nat) : Gam := gamOf []
def Q79.A : LA := fun k => bif Nat.beq k 0 then some ⟨[0, 3], [], [], [], [], 1, false⟩ else bif Nat.beq k 2 then some ⟨[0, 3, 4, 5], [], [], [], [], 1, false⟩ else none
noncomputable def Q79.fin : St → Option LMv := resK tb Try.f79.results.toList (decRes (Q79.D N) Q79.lc)
noncomputable def Q79.k0 : List Item := stackAt [.r, .r, .l, .r, .b] (bodyOf Try.f79) []
def Q79.st0 (s_ : LMv) (k_ : Int) : St := ⟨[.one (.own 0), oA, oA, oi k_] ++ rA 57, [.row 37 qc s_]⟩
noncomputable def Q79.k1 : List Item := stackAt [.r, .r, .l, .r, .b, .w, .r, .l, .b, .r, .t, .r, .l, .r, .b] (bodyOf Try.f79) []
def Q79.st1 (s_ : LMv) (k_ s2_ k2_ : Int) (s_2 : LMv) : St := ⟨[.one (.own 0), oA, oA, oi k_, .one (.vw 0 s2_ 3), oi k2_] ++ rA 55, [.row 37 qc s_2]⟩
theorem Q79.step0 (rec : RK LMv) (s_ : LMv) (k_ : Int) : seg tb (Q79.G N) Q79.A 1 rec (Q79.fin N) segFuel (loopBody Q79.k0) (Q79.st0 s_ k_) = Q79.s0 N s_ (fun k_ => rec Q79.k0 (Q79.st0 s_ k_)) (fun k_ s2_ k2_ s_2 => rec Q79.k1 (Q79.st1 s_ k_ s2_ k2_ s_2)) k_ := by kernel_rfl
theorem Q79.step1 (rec : RK LMv) (s_ : LMv) (k_ s2_ k2_ : Int) (s_2 : LMv) : seg tb (Q79.G N) Q79.A 1 rec (Q79.fin N) segFuel (loopBody Q79.k1) (Q79.st1 s_ k_ s2_ k2_ s_2) = Q79.s1 N s_ (fun k_ => rec Q79.k0 (Q79.st0 s_ k_)) (fun k_ s2_ k2_ s_2 => rec Q79.k1 (Q79.st1 s_ k_ s2_ k2_ s_2)) k_ s2_ k2_ s_2 := by kernel_rfl
theorem Q79.entry (rec : RK LMv) (x : (argH Q79.as).den) : seg tb (Q79.G N) Q79.A 1 rec (Q79.fin N) segFuel [.code (bodyOf Try.f79)] (initSt Try.f79 (encArgs Q79.as x) (encMem Q79.as x)) = Q79.e N (fun k_ => rec Q79.k0 (Q79.st0 x.1 k_)) (fun k_ s2_ k2_ s_2 => rec Q79.k1 (Q79.st1 x.1 k_ s2_ k2_ s_2)) x.1 := by kernel_rfl
theorem Q79.runs (N : Nat) (s_ : LMv) : ∀ n, (∀ (k_ : Int), run tb (Q79.G N) Q79.A 1 (Q79.fin N) n Q79.k0 (Q79.st0 s_ k_) = Q79.l0 N s_ n k_) ∧ (∀ (k_ s2_ k2_ : Int) (s_2 : LMv), run tb (Q79.G N) Q79.A 1 (Q79.fin N) n Q79.k1 (Q79.st1 s_ k_ s2_ k2_ s_2) = Q79.l1 N s_ n k_ s2_ k2_ s_2)
 | 0 => ⟨fun _ => rfl, fun _ _ _ _ => rfl⟩
 | n + 1 => by
  obtain ⟨h0, h1⟩ := Q79.runs N s_ n
  have e0 : (fun (k_ : Int) => run tb (Q79.G N) Q79.A 1 (Q79.fin N) n Q79.k0 (Q79.st0 s_ k_)) = Q79.l0 N s_ n := by funext k_; exact h0 k_
  have e1 : (fun (k_ s2_ k2_ : Int) (s_2 : LMv) => run tb (Q79.G N) Q79.A 1 (Q79.fin N) n Q79.k1 (Q79.st1 s_ k_ s2_ k2_ s_2)) = Q79.l1 N s_ n := by funext k_ s2_ k2_ s_2; exact h1 k_ s2_ k2_ s_2
  have g0 : (∀ (k_ : Int), run tb (Q79.G N) Q79.A 1 (Q79.fin N) (n + 1) Q79.k0 (Q79.st0 s_ k_) = Q79.l0 N s_ (n + 1) k_) := by
   intro k_
   exact (run_succ (by kernel_rfl)).trans ((Q79.step0 N _ s_ k_).trans ((congr (congrArg (fun r0 r1 => Q79.s0 N s_ r0 r1 k_) e0) e1).trans (Q79.l0_s N s_ n k_).symm))
  have g1 : (∀ (k_ s2_ k2_ : Int) (s_2 : LMv), run tb (Q79.G N) Q79.A 1 (Q79.fin N) (n + 1) Q79.k1 (Q79.st1 s_ k_ s2_ k2_ s_2) = Q79.l1 N s_ (n + 1) k_ s2_ k2_ s_2) := by
   intro k_ s2_ k2_ s_2
   exact (run_succ (by kernel_rfl)).trans ((Q79.step1 N _ s_ k_ s2_ k2_ s_2).trans ((congr (congrArg (fun r0 r1 => Q79.s1 N s_ r0 r1 k_ s2_ k2_ s_2) e0) e1).trans (Q79.l1_s N s_ n k_ s2_ k2_ s_2).symm))
  exact ⟨g0, g1⟩
theorem Q79.ok : FnOk Try.prog 79 (Q79.D N) := by
 refine fo ⟨Try.f79, Try.func79, by kernel_rfl, by kernel_rfl, fun x y h => ⟨Q79.G N, Q79.A, N, gamOf_ok (fun p hp => nomatch hp), ?_⟩⟩ (Q79.fit N)
 rw [absFn_n (n0 := 1) rfl (by kernel_rfl)]
 refine (Q79.entry N (run tb (Q79.G N) Q79.A 1 (Q79.fin N) N) x).trans ?_
 have e0 : (fun (k_ : Int) => run tb (Q79.G N) Q79.A 1 (Q79.fin N) N Q79.k0 (Q79.st0 x.1 k_)) = Q79.l0 N x.1 N := by funext k_; exact (Q79.runs N x.1 N).1 k_
 have e1 : (fun (k_ s2_ k2_ : Int) (s_2 : LMv) => run tb (Q79.G N) Q79.A 1 (Q79.fin N) N Q79.k1 (Q79.st1 x.1 k_ s2_ k2_ s_2)) = Q79.l1 N x.1 N := by funext k_ s2_ k2_ s_2; exact (Q79.runs N x.1 N).2 k_ s2_ k2_ s_2
 have h' : (Q79.D N).f x = Q79.e N (Q79.l0 N x.1 N) (Q79.l1 N x.1 N) x.1 := by kernel_rfl
 exact (congr (congrArg (fun r0 r1 => Q79.e N r0 r1 x.1) e0) e1).trans (h'.symm.trans h)
def Q88.as : List MK := [.d true qa, .d false tI, .d false tI, .d false tI]
def Q88.rs : List (Bool × HT) := [(false, (.d tI))]
def Q88.lc : List AC := []
def Q88.D : DFn := ⟨Q88.as, Q88.rs, Int, fun x => Q88 N x.1 x.2.1 x.2.2.1 x.2.2.2.1, fun r o => r.1, fun b => (b, ()), fun b => (), none⟩
theorem Q88.fit : (Q88.D N).Fit := ⟨fun _ _ => rfl, fun _ _ => rfl, by kernel_rfl, (fun _ _ h => nomatch h), by kernel_rfl⟩
noncomputable def Q88.G : Gam := gamOf [(82, Q82.D N)]
def Q88.A : LA := fun _ => none
noncomputable def Q88.fin : St → Option Int := resK tb Try.f88.results.toList (decRes (Q88.D N) Q88.lc)
theorem Q88.entry (rec : RK Int) (x : (argH Q88.as).den) : seg tb (Q88.G N) Q88.A 0 rec (Q88.fin N) segFuel [.code (bodyOf Try.f88)] (initSt Try.f88 (encArgs Q88.as x) (encMem Q88.as x)) = Q88.e N x.1 x.2.1 x.2.2.1 x.2.2.2.1 := by kernel_rfl
theorem Q88.ok : FnOk Try.prog 88 (Q88.D N) := by
 refine fo ⟨Try.f88, Try.func88, by kernel_rfl, by kernel_rfl, fun x y h => ⟨Q88.G N, Q88.A, N, gamOf_ok (gc ⟨Q82.ok N, Q82.fit N⟩ gn), ?_⟩⟩ (Q88.fit N)
 rw [absFn_n (n0 := 0) rfl (by kernel_rfl)]
 exact (Q88.entry N _ x).trans h
def Q76.as : List MK := [.o (.own 37 qc) false, .d true qa, .d true qd, .d false tI, .d true (.prod tI qc)]
def Q76.rs : List (Bool × HT) := [(false, (.own 37 qc))]
def Q76.lc : List AC := []
def Q76.D : DFn := ⟨Q76.as, Q76.rs, LMv, fun x => Q76 N x.1 x.2.1 x.2.2.1 x.2.2.2.1 x.2.2.2.2.1, fun r o => r.1, fun b => (b, ()), fun b => (), none⟩
theorem Q76.fit : (Q76.D N).Fit := ⟨fun _ _ => rfl, fun _ _ => rfl, by kernel_rfl, (fun _ _ h => nomatch h), by kernel_rfl⟩
noncomputable def Q76.G : Gam := gamOf [(55, Q55.D N), (75, Q75.D N), (88, Q88.D N)]
def Q76.A : LA := fun k => bif Nat.beq k 0 then some ⟨[0, 3, 6, 7, 9, 11, 12, 13, 14, 39, 40], [], [], [(false, 0, 0, 4)], [], 5, false⟩ else none
noncomputable def Q76.fin : St → Option LMv := resK tb Try.f76.results.toList (decRes (Q76.D N) Q76.lc)
noncomputable def Q76.k0 : List Item := stackAt [.r, .r, .r, .r, .r, .l, .r, .b] (bodyOf Try.f76) []
def Q76.st0 (out : LMv) (r_ : TRules) (p_ : TPos) (from_ : Int) (w_ : TWay) (kind dy x_ y_ t40_ : Int) (out2 : LMv) : St := ⟨[.one (.own 4), oA, oA, oi from_, oA, oA, .one (.ptr 1 0), .one (.ptr 2 0), oA, .one (.ptr 3 0), oA, oi kind, oi dy, oi x_, oi y_] ++ rA 24 ++ [oi w_.2.2.1, oi t40_] ++ rA 75, [.gone, vR r_, vP p_, .var 152 [.int .i64 w_.1, .int .i64 w_.2.1, .int .i64 w_.2.2.1, .int .i64 w_.2.2.2], .row 37 qc out2]⟩
theorem Q76.step0 (rec : RK LMv) (out : LMv) (r_ : TRules) (p_ : TPos) (from_ : Int) (w_ : TWay) (kind dy x_ y_ t40_ : Int) (out2 : LMv) : seg tb (Q76.G N) Q76.A 1 rec (Q76.fin N) segFuel (loopBody Q76.k0) (Q76.st0 out r_ p_ from_ w_ kind dy x_ y_ t40_ out2) = Q76.s0 N out r_ p_ from_ w_ (fun kind dy x_ y_ t40_ out2 => rec Q76.k0 (Q76.st0 out r_ p_ from_ w_ kind dy x_ y_ t40_ out2)) kind dy x_ y_ t40_ out2 := by kernel_rfl
theorem Q76.entry (rec : RK LMv) (x : (argH Q76.as).den) : seg tb (Q76.G N) Q76.A 1 rec (Q76.fin N) segFuel [.code (bodyOf Try.f76)] (initSt Try.f76 (encArgs Q76.as x) (encMem Q76.as x)) = Q76.e N (fun kind dy x_ y_ t40_ out2 => rec Q76.k0 (Q76.st0 x.1 x.2.1 x.2.2.1 x.2.2.2.1 x.2.2.2.2.1 kind dy x_ y_ t40_ out2)) x.1 x.2.1 x.2.2.1 x.2.2.2.1 x.2.2.2.2.1 := by kernel_rfl
theorem Q76.runs (N : Nat) (out : LMv) (r_ : TRules) (p_ : TPos) (from_ : Int) (w_ : TWay) : ∀ n, (∀ (kind dy x_ y_ t40_ : Int) (out2 : LMv), run tb (Q76.G N) Q76.A 1 (Q76.fin N) n Q76.k0 (Q76.st0 out r_ p_ from_ w_ kind dy x_ y_ t40_ out2) = Q76.l0 N out r_ p_ from_ w_ n kind dy x_ y_ t40_ out2)
 | 0 => fun _ _ _ _ _ _ => rfl
 | n + 1 => by
  have h0 := Q76.runs N out r_ p_ from_ w_ n
  have e0 : (fun (kind dy x_ y_ t40_ : Int) (out2 : LMv) => run tb (Q76.G N) Q76.A 1 (Q76.fin N) n Q76.k0 (Q76.st0 out r_ p_ from_ w_ kind dy x_ y_ t40_ out2)) = Q76.l0 N out r_ p_ from_ w_ n := by funext kind dy x_ y_ t40_ out2; exact h0 kind dy x_ y_ t40_ out2
  have g0 : (∀ (kind dy x_ y_ t40_ : Int) (out2 : LMv), run tb (Q76.G N) Q76.A 1 (Q76.fin N) (n + 1) Q76.k0 (Q76.st0 out r_ p_ from_ w_ kind dy x_ y_ t40_ out2) = Q76.l0 N out r_ p_ from_ w_ (n + 1) kind dy x_ y_ t40_ out2) := by
   intro kind dy x_ y_ t40_ out2
   exact (run_succ (by kernel_rfl)).trans ((Q76.step0 N _ out r_ p_ from_ w_ kind dy x_ y_ t40_ out2).trans ((congrArg (fun r0 => Q76.s0 N out r_ p_ from_ w_ r0 kind dy x_ y_ t40_ out2) e0).trans (Q76.l0_s N out r_ p_ from_ w_ n kind dy x_ y_ t40_ out2).symm))
  exact g0
theorem Q76.ok : FnOk Try.prog 76 (Q76.D N) := by
 refine fo ⟨Try.f76, Try.func76, by kernel_rfl, by kernel_rfl, fun x y h => ⟨Q76.G N, Q76.A, N, gamOf_ok (gc ⟨Q55.ok N, Q55.fit N⟩ (gc ⟨Q75.ok N, Q75.fit N⟩ (gc ⟨Q88.ok N, Q88.fit N⟩ gn))), ?_⟩⟩ (Q76.fit N)
 rw [absFn_n (n0 := 1) rfl (by kernel_rfl)]
 refine (Q76.entry N (run tb (Q76.G N) Q76.A 1 (Q76.fin N) N) x).trans ?_
 have e0 : (fun (kind dy x_ y_ t40_ : Int) (out2 : LMv) => run tb (Q76.G N) Q76.A 1 (Q76.fin N) N Q76.k0 (Q76.st0 x.1 x.2.1 x.2.2.1 x.2.2.2.1 x.2.2.2.2.1 kind dy x_ y_ t40_ out2)) = Q76.l0 N x.1 x.2.1 x.2.2.1 x.2.2.2.1 x.2.2.2.2.1 N := by funext kind dy x_ y_ t40_ out2; exact (Q76.runs N x.1 x.2.1 x.2.2.1 x.2.2.2.1 x.2.2.2.2.1 N) kind dy x_ y_ t40_ out2
 have h' : (Q76.D N).f x = Q76.e N (Q76.l0 N x.1 x.2.1 x.2.2.1 x.2.2.2.1 x.2.2.2.2.1 N) x.1 x.2.1 x.2.2.1 x.2.2.2.1 x.2.2.2.2.1 := by kernel_rfl
 exact (congrArg (fun r0 => Q76.e N r0 x.1 x.2.1 x.2.2.1 x.2.2.2.1 x.2.2.2.2.1) e0).trans (h'.symm.trans h)
def Q74.as : List MK := [.d true qa, .d true qd, .d false tI]
def Q74.rs : List (Bool × HT) := [(false, (.d .bool))]
def Q74.lc : List AC := []
def Q74.D : DFn := ⟨Q74.as, Q74.rs, Bool, fun x => Q74 N x.1 x.2.1 x.2.2.1, fun r o => r.1, fun b => (b, ()), fun b => (), none⟩
theorem Q74.fit : (Q74.D N).Fit := ⟨fun _ _ => rfl, fun _ _ => rfl, by kernel_rfl, (fun _ _ h => nomatch h), by kernel_rfl⟩
noncomputable def Q74.G (N : Nat) : Gam := gamOf []
def Q74.A : LA := fun k => bif Nat.beq k 0 then some ⟨[3, 4, 7], [], [], [], [], 2, false⟩ else none
noncomputable def Q74.fin : St → Option Bool := resK tb Try.f74.results.toList (decRes (Q74.D N) Q74.lc)
noncomputable def Q74.k0 : List Item := stackAt [.r, .r, .l, .r, .t, .r, .b] (bodyOf Try.f74) []
def Q74.st0 (r_ : TRules) (p_ : TPos) (s_ low : Int) : St := ⟨rA 3 ++ [.one (.ptr 0 0), .one (.ptr 1 0), oA, oA, oi low] ++ rA 24, [vR r_, vP p_]⟩
theorem Q74.step0 (rec : RK Bool) (r_ : TRules) (p_ : TPos) (s_ low : Int) : seg tb (Q74.G N) Q74.A 0 rec (Q74.fin N) segFuel (loopBody Q74.k0) (Q74.st0 r_ p_ s_ low) = Q74.s0 N r_ p_ s_ (fun low => rec Q74.k0 (Q74.st0 r_ p_ s_ low)) low := by kernel_rfl
theorem Q74.entry (rec : RK Bool) (x : (argH Q74.as).den) : seg tb (Q74.G N) Q74.A 0 rec (Q74.fin N) segFuel [.code (bodyOf Try.f74)] (initSt Try.f74 (encArgs Q74.as x) (encMem Q74.as x)) = Q74.e N (fun low => rec Q74.k0 (Q74.st0 x.1 x.2.1 x.2.2.1 low)) x.1 x.2.1 x.2.2.1 := by kernel_rfl
theorem Q74.runs (N : Nat) (r_ : TRules) (p_ : TPos) (s_ : Int) : ∀ n, (∀ (low : Int), run tb (Q74.G N) Q74.A 0 (Q74.fin N) n Q74.k0 (Q74.st0 r_ p_ s_ low) = Q74.l0 N r_ p_ s_ n low)
 | 0 => fun _ => rfl
 | n + 1 => by
  have h0 := Q74.runs N r_ p_ s_ n
  have e0 : (fun (low : Int) => run tb (Q74.G N) Q74.A 0 (Q74.fin N) n Q74.k0 (Q74.st0 r_ p_ s_ low)) = Q74.l0 N r_ p_ s_ n := by funext low; exact h0 low
  have g0 : (∀ (low : Int), run tb (Q74.G N) Q74.A 0 (Q74.fin N) (n + 1) Q74.k0 (Q74.st0 r_ p_ s_ low) = Q74.l0 N r_ p_ s_ (n + 1) low) := by
   intro low
   exact (run_succ (by kernel_rfl)).trans ((Q74.step0 N _ r_ p_ s_ low).trans ((congrArg (fun r0 => Q74.s0 N r_ p_ s_ r0 low) e0).trans (Q74.l0_s N r_ p_ s_ n low).symm))
  exact g0
theorem Q74.ok : FnOk Try.prog 74 (Q74.D N) := by
 refine fo ⟨Try.f74, Try.func74, by kernel_rfl, by kernel_rfl, fun x y h => ⟨Q74.G N, Q74.A, N, gamOf_ok (fun p hp => nomatch hp), ?_⟩⟩ (Q74.fit N)
 rw [absFn_n (n0 := 0) rfl (by kernel_rfl)]
 refine (Q74.entry N (run tb (Q74.G N) Q74.A 0 (Q74.fin N) N) x).trans ?_
 have e0 : (fun (low : Int) => run tb (Q74.G N) Q74.A 0 (Q74.fin N) N Q74.k0 (Q74.st0 x.1 x.2.1 x.2.2.1 low)) = Q74.l0 N x.1 x.2.1 x.2.2.1 N := by funext low; exact (Q74.runs N x.1 x.2.1 x.2.2.1 N) low
 have h' : (Q74.D N).f x = Q74.e N (Q74.l0 N x.1 x.2.1 x.2.2.1 N) x.1 x.2.1 x.2.2.1 := by kernel_rfl
 exact (congrArg (fun r0 => Q74.e N r0 x.1 x.2.1 x.2.2.1) e0).trans (h'.symm.trans h)
def Q50.as : List MK := [.d true qa, .d true qd]
def Q50.rs : List (Bool × HT) := [(false, (.own 37 qc))]
def Q50.lc : List AC := []
def Q50.D : DFn := ⟨Q50.as, Q50.rs, LMv, fun x => Q50 N x.1 x.2.1, fun r o => r.1, fun b => (b, ()), fun b => (), none⟩
theorem Q50.fit : (Q50.D N).Fit := ⟨fun _ _ => rfl, fun _ _ => rfl, by kernel_rfl, (fun _ _ h => nomatch h), by kernel_rfl⟩
noncomputable def Q50.G : Gam := gamOf [(75, Q75.D N), (55, Q55.D N), (77, Q77.D N), (79, Q79.D N), (76, Q76.D N), (74, Q74.D N)]
def Q50.A : LA := fun k => bif Nat.beq k 0 then some ⟨[2, 3, 5, 17, 18, 19], [(5, 37)], [], [], [], 3, false⟩ else bif Nat.beq k 2 then some ⟨[2, 3, 5, 6, 7, 17, 18, 19, 26, 27], [], [], [(false, 5, 0, 2)], [], 3, false⟩ else bif Nat.beq k 4 then some ⟨[2, 3, 5, 47, 48, 49], [], [], [], [], 3, false⟩ else bif Nat.beq k 6 then some ⟨[2, 3, 5, 9, 47, 48, 49, 65, 66, 67], [], [], [(false, 5, 0, 2)], [], 3, false⟩ else none
noncomputable def Q50.fin : St → Option LMv := resK tb Try.f50.results.toList (decRes (Q50.D N) Q50.lc)
noncomputable def Q50.k0 : List Item := stackAt [.r, .r, .l, .r, .b] (bodyOf Try.f50) []
def Q50.st0 (r_ : TRules) (p_ : TPos) (t17_ : LInt) (t18_ t19_ : Int) (out : LMv) : St := ⟨[oA, oA, .one (.ptr 0 0), .one (.ptr 1 0), oA, .one (.own 2)] ++ rA 11 ++ [.one (.fro 3 tI t17_), oi t18_, oi t19_] ++ rA 63, [vR r_, vP p_, .row 37 qc out]⟩
noncomputable def Q50.k1 : List Item := stackAt [.r, .r, .l, .r, .b, .w, .r, .r, .l, .b, .r, .r, .b] (bodyOf Try.f50) []
def Q50.st1 (r_ : TRules) (p_ : TPos) (t_ n_ : Int) (t17_ : LInt) (t18_ t19_ t27_ : Int) (out : LMv) : St := ⟨[oA, oA, .one (.ptr 0 0), .one (.ptr 1 0), oA, .one (.own 2), oi t_, oi n_] ++ rA 9 ++ [.one (.fro 3 tI t17_), oi t18_, oi t19_] ++ rA 6 ++ [oi (p_.1.length : Int), oi t27_] ++ rA 55, [vR r_, vP p_, .row 37 qc out]⟩
noncomputable def Q50.k2 : List Item := stackAt [.r, .r, .r, .l, .r, .b] (bodyOf Try.f50) []
def Q50.st2 (r_ : TRules) (p_ : TPos) (t49_ : Int) (out : LMv) : St := ⟨[oA, oA, .one (.ptr 0 0), .one (.ptr 1 0), oA, .one (.own 2)] ++ rA 41 ++ [.one (.fro 3 tI p_.1), oi (p_.1.length : Int), oi t49_] ++ rA 33, [vR r_, vP p_, .row 37 qc out]⟩
noncomputable def Q50.k3 : List Item := stackAt [.r, .r, .r, .l, .r, .b, .w, .r, .r, .l, .b, .r, .r, .t, .r, .b] (bodyOf Try.f50) []
def Q50.st3 (r_ : TRules) (p_ : TPos) (s_ t49_ : Int) (t65_ : (List TWay)) (t66_ t67_ : Int) (out : LMv) : St := ⟨[oA, oA, .one (.ptr 0 0), .one (.ptr 1 0), oA, .one (.own 2)] ++ rA 3 ++ [oi s_] ++ rA 37 ++ [.one (.fro 3 tI p_.1), oi (p_.1.length : Int), oi t49_] ++ rA 15 ++ [.one (.fro 152 (.prod tI qc) t65_), oi t66_, oi t67_] ++ rA 15, [vR r_, vP p_, .row 37 qc out]⟩
theorem Q50.step0 (rec : RK LMv) (r_ : TRules) (p_ : TPos) (t17_ : LInt) (t18_ t19_ : Int) (out : LMv) : seg tb (Q50.G N) Q50.A 0 rec (Q50.fin N) segFuel (loopBody Q50.k0) (Q50.st0 r_ p_ t17_ t18_ t19_ out) = Q50.s0 N r_ p_ (fun t17_ t18_ t19_ out => rec Q50.k0 (Q50.st0 r_ p_ t17_ t18_ t19_ out)) (fun t_ n_ t17_ t18_ t19_ t27_ out => rec Q50.k1 (Q50.st1 r_ p_ t_ n_ t17_ t18_ t19_ t27_ out)) (fun t49_ out => rec Q50.k2 (Q50.st2 r_ p_ t49_ out)) (fun s_ t49_ t65_ t66_ t67_ out => rec Q50.k3 (Q50.st3 r_ p_ s_ t49_ t65_ t66_ t67_ out)) t17_ t18_ t19_ out := by kernel_rfl
theorem Q50.step1 (rec : RK LMv) (r_ : TRules) (p_ : TPos) (t_ n_ : Int) (t17_ : LInt) (t18_ t19_ t27_ : Int) (out : LMv) : seg tb (Q50.G N) Q50.A 0 rec (Q50.fin N) segFuel (loopBody Q50.k1) (Q50.st1 r_ p_ t_ n_ t17_ t18_ t19_ t27_ out) = Q50.s1 N r_ p_ (fun t17_ t18_ t19_ out => rec Q50.k0 (Q50.st0 r_ p_ t17_ t18_ t19_ out)) (fun t_ n_ t17_ t18_ t19_ t27_ out => rec Q50.k1 (Q50.st1 r_ p_ t_ n_ t17_ t18_ t19_ t27_ out)) (fun t49_ out => rec Q50.k2 (Q50.st2 r_ p_ t49_ out)) (fun s_ t49_ t65_ t66_ t67_ out => rec Q50.k3 (Q50.st3 r_ p_ s_ t49_ t65_ t66_ t67_ out)) t_ n_ t17_ t18_ t19_ t27_ out := by kernel_rfl
theorem Q50.step2 (rec : RK LMv) (r_ : TRules) (p_ : TPos) (t49_ : Int) (out : LMv) : seg tb (Q50.G N) Q50.A 0 rec (Q50.fin N) segFuel (loopBody Q50.k2) (Q50.st2 r_ p_ t49_ out) = Q50.s2 N r_ p_ (fun t17_ t18_ t19_ out => rec Q50.k0 (Q50.st0 r_ p_ t17_ t18_ t19_ out)) (fun t_ n_ t17_ t18_ t19_ t27_ out => rec Q50.k1 (Q50.st1 r_ p_ t_ n_ t17_ t18_ t19_ t27_ out)) (fun t49_ out => rec Q50.k2 (Q50.st2 r_ p_ t49_ out)) (fun s_ t49_ t65_ t66_ t67_ out => rec Q50.k3 (Q50.st3 r_ p_ s_ t49_ t65_ t66_ t67_ out)) t49_ out := by kernel_rfl
theorem Q50.step3 (rec : RK LMv) (r_ : TRules) (p_ : TPos) (s_ t49_ : Int) (t65_ : (List TWay)) (t66_ t67_ : Int) (out : LMv) : seg tb (Q50.G N) Q50.A 0 rec (Q50.fin N) segFuel (loopBody Q50.k3) (Q50.st3 r_ p_ s_ t49_ t65_ t66_ t67_ out) = Q50.s3 N r_ p_ (fun t17_ t18_ t19_ out => rec Q50.k0 (Q50.st0 r_ p_ t17_ t18_ t19_ out)) (fun t_ n_ t17_ t18_ t19_ t27_ out => rec Q50.k1 (Q50.st1 r_ p_ t_ n_ t17_ t18_ t19_ t27_ out)) (fun t49_ out => rec Q50.k2 (Q50.st2 r_ p_ t49_ out)) (fun s_ t49_ t65_ t66_ t67_ out => rec Q50.k3 (Q50.st3 r_ p_ s_ t49_ t65_ t66_ t67_ out)) s_ t49_ t65_ t66_ t67_ out := by kernel_rfl
theorem Q50.entry (rec : RK LMv) (x : (argH Q50.as).den) : seg tb (Q50.G N) Q50.A 0 rec (Q50.fin N) segFuel [.code (bodyOf Try.f50)] (initSt Try.f50 (encArgs Q50.as x) (encMem Q50.as x)) = Q50.e N (fun t17_ t18_ t19_ out => rec Q50.k0 (Q50.st0 x.1 x.2.1 t17_ t18_ t19_ out)) (fun t_ n_ t17_ t18_ t19_ t27_ out => rec Q50.k1 (Q50.st1 x.1 x.2.1 t_ n_ t17_ t18_ t19_ t27_ out)) (fun t49_ out => rec Q50.k2 (Q50.st2 x.1 x.2.1 t49_ out)) (fun s_ t49_ t65_ t66_ t67_ out => rec Q50.k3 (Q50.st3 x.1 x.2.1 s_ t49_ t65_ t66_ t67_ out)) x.1 x.2.1 := by kernel_rfl
theorem Q50.runs (N : Nat) (r_ : TRules) (p_ : TPos) : ∀ n, (∀ (t17_ : LInt) (t18_ t19_ : Int) (out : LMv), run tb (Q50.G N) Q50.A 0 (Q50.fin N) n Q50.k0 (Q50.st0 r_ p_ t17_ t18_ t19_ out) = Q50.l0 N r_ p_ n t17_ t18_ t19_ out) ∧ (∀ (t_ n_ : Int) (t17_ : LInt) (t18_ t19_ t27_ : Int) (out : LMv), run tb (Q50.G N) Q50.A 0 (Q50.fin N) n Q50.k1 (Q50.st1 r_ p_ t_ n_ t17_ t18_ t19_ t27_ out) = Q50.l1 N r_ p_ n t_ n_ t17_ t18_ t19_ t27_ out) ∧ (∀ (t49_ : Int) (out : LMv), run tb (Q50.G N) Q50.A 0 (Q50.fin N) n Q50.k2 (Q50.st2 r_ p_ t49_ out) = Q50.l2 N r_ p_ n t49_ out) ∧ (∀ (s_ t49_ : Int) (t65_ : (List TWay)) (t66_ t67_ : Int) (out : LMv), run tb (Q50.G N) Q50.A 0 (Q50.fin N) n Q50.k3 (Q50.st3 r_ p_ s_ t49_ t65_ t66_ t67_ out) = Q50.l3 N r_ p_ n s_ t49_ t65_ t66_ t67_ out)
 | 0 => ⟨fun _ _ _ _ => rfl, fun _ _ _ _ _ _ _ => rfl, fun _ _ => rfl, fun _ _ _ _ _ _ => rfl⟩
 | n + 1 => by
  obtain ⟨h0, h1, h2, h3⟩ := Q50.runs N r_ p_ n
  have e0 : (fun (t17_ : LInt) (t18_ t19_ : Int) (out : LMv) => run tb (Q50.G N) Q50.A 0 (Q50.fin N) n Q50.k0 (Q50.st0 r_ p_ t17_ t18_ t19_ out)) = Q50.l0 N r_ p_ n := by funext t17_ t18_ t19_ out; exact h0 t17_ t18_ t19_ out
  have e1 : (fun (t_ n_ : Int) (t17_ : LInt) (t18_ t19_ t27_ : Int) (out : LMv) => run tb (Q50.G N) Q50.A 0 (Q50.fin N) n Q50.k1 (Q50.st1 r_ p_ t_ n_ t17_ t18_ t19_ t27_ out)) = Q50.l1 N r_ p_ n := by funext t_ n_ t17_ t18_ t19_ t27_ out; exact h1 t_ n_ t17_ t18_ t19_ t27_ out
  have e2 : (fun (t49_ : Int) (out : LMv) => run tb (Q50.G N) Q50.A 0 (Q50.fin N) n Q50.k2 (Q50.st2 r_ p_ t49_ out)) = Q50.l2 N r_ p_ n := by funext t49_ out; exact h2 t49_ out
  have e3 : (fun (s_ t49_ : Int) (t65_ : (List TWay)) (t66_ t67_ : Int) (out : LMv) => run tb (Q50.G N) Q50.A 0 (Q50.fin N) n Q50.k3 (Q50.st3 r_ p_ s_ t49_ t65_ t66_ t67_ out)) = Q50.l3 N r_ p_ n := by funext s_ t49_ t65_ t66_ t67_ out; exact h3 s_ t49_ t65_ t66_ t67_ out
  have g0 : (∀ (t17_ : LInt) (t18_ t19_ : Int) (out : LMv), run tb (Q50.G N) Q50.A 0 (Q50.fin N) (n + 1) Q50.k0 (Q50.st0 r_ p_ t17_ t18_ t19_ out) = Q50.l0 N r_ p_ (n + 1) t17_ t18_ t19_ out) := by
   intro t17_ t18_ t19_ out
   exact (run_succ (by kernel_rfl)).trans ((Q50.step0 N _ r_ p_ t17_ t18_ t19_ out).trans ((congr (congr (congr (congrArg (fun r0 r1 r2 r3 => Q50.s0 N r_ p_ r0 r1 r2 r3 t17_ t18_ t19_ out) e0) e1) e2) e3).trans (Q50.l0_s N r_ p_ n t17_ t18_ t19_ out).symm))
  have g1 : (∀ (t_ n_ : Int) (t17_ : LInt) (t18_ t19_ t27_ : Int) (out : LMv), run tb (Q50.G N) Q50.A 0 (Q50.fin N) (n + 1) Q50.k1 (Q50.st1 r_ p_ t_ n_ t17_ t18_ t19_ t27_ out) = Q50.l1 N r_ p_ (n + 1) t_ n_ t17_ t18_ t19_ t27_ out) := by
   intro t_ n_ t17_ t18_ t19_ t27_ out
   exact (run_succ (by kernel_rfl)).trans ((Q50.step1 N _ r_ p_ t_ n_ t17_ t18_ t19_ t27_ out).trans ((congr (congr (congr (congrArg (fun r0 r1 r2 r3 => Q50.s1 N r_ p_ r0 r1 r2 r3 t_ n_ t17_ t18_ t19_ t27_ out) e0) e1) e2) e3).trans (Q50.l1_s N r_ p_ n t_ n_ t17_ t18_ t19_ t27_ out).symm))
  have g2 : (∀ (t49_ : Int) (out : LMv), run tb (Q50.G N) Q50.A 0 (Q50.fin N) (n + 1) Q50.k2 (Q50.st2 r_ p_ t49_ out) = Q50.l2 N r_ p_ (n + 1) t49_ out) := by
   intro t49_ out
   exact (run_succ (by kernel_rfl)).trans ((Q50.step2 N _ r_ p_ t49_ out).trans ((congr (congr (congr (congrArg (fun r0 r1 r2 r3 => Q50.s2 N r_ p_ r0 r1 r2 r3 t49_ out) e0) e1) e2) e3).trans (Q50.l2_s N r_ p_ n t49_ out).symm))
  have g3 : (∀ (s_ t49_ : Int) (t65_ : (List TWay)) (t66_ t67_ : Int) (out : LMv), run tb (Q50.G N) Q50.A 0 (Q50.fin N) (n + 1) Q50.k3 (Q50.st3 r_ p_ s_ t49_ t65_ t66_ t67_ out) = Q50.l3 N r_ p_ (n + 1) s_ t49_ t65_ t66_ t67_ out) := by
   intro s_ t49_ t65_ t66_ t67_ out
   exact (run_succ (by kernel_rfl)).trans ((Q50.step3 N _ r_ p_ s_ t49_ t65_ t66_ t67_ out).trans ((congr (congr (congr (congrArg (fun r0 r1 r2 r3 => Q50.s3 N r_ p_ r0 r1 r2 r3 s_ t49_ t65_ t66_ t67_ out) e0) e1) e2) e3).trans (Q50.l3_s N r_ p_ n s_ t49_ t65_ t66_ t67_ out).symm))
  exact ⟨g0, g1, g2, g3⟩
theorem Q50.ok : FnOk Try.prog 50 (Q50.D N) := by
 refine fo ⟨Try.f50, Try.func50, by kernel_rfl, by kernel_rfl, fun x y h => ⟨Q50.G N, Q50.A, N, gamOf_ok (gc ⟨Q75.ok N, Q75.fit N⟩ (gc ⟨Q55.ok N, Q55.fit N⟩ (gc ⟨Q77.ok N, Q77.fit N⟩ (gc ⟨Q79.ok N, Q79.fit N⟩ (gc ⟨Q76.ok N, Q76.fit N⟩ (gc ⟨Q74.ok N, Q74.fit N⟩ gn)))))), ?_⟩⟩ (Q50.fit N)
 rw [absFn_n (n0 := 0) rfl (by kernel_rfl)]
 refine (Q50.entry N (run tb (Q50.G N) Q50.A 0 (Q50.fin N) N) x).trans ?_
 have e0 : (fun (t17_ : LInt) (t18_ t19_ : Int) (out : LMv) => run tb (Q50.G N) Q50.A 0 (Q50.fin N) N Q50.k0 (Q50.st0 x.1 x.2.1 t17_ t18_ t19_ out)) = Q50.l0 N x.1 x.2.1 N := by funext t17_ t18_ t19_ out; exact (Q50.runs N x.1 x.2.1 N).1 t17_ t18_ t19_ out
 have e1 : (fun (t_ n_ : Int) (t17_ : LInt) (t18_ t19_ t27_ : Int) (out : LMv) => run tb (Q50.G N) Q50.A 0 (Q50.fin N) N Q50.k1 (Q50.st1 x.1 x.2.1 t_ n_ t17_ t18_ t19_ t27_ out)) = Q50.l1 N x.1 x.2.1 N := by funext t_ n_ t17_ t18_ t19_ t27_ out; exact (Q50.runs N x.1 x.2.1 N).2.1 t_ n_ t17_ t18_ t19_ t27_ out
 have e2 : (fun (t49_ : Int) (out : LMv) => run tb (Q50.G N) Q50.A 0 (Q50.fin N) N Q50.k2 (Q50.st2 x.1 x.2.1 t49_ out)) = Q50.l2 N x.1 x.2.1 N := by funext t49_ out; exact (Q50.runs N x.1 x.2.1 N).2.2.1 t49_ out
 have e3 : (fun (s_ t49_ : Int) (t65_ : (List TWay)) (t66_ t67_ : Int) (out : LMv) => run tb (Q50.G N) Q50.A 0 (Q50.fin N) N Q50.k3 (Q50.st3 x.1 x.2.1 s_ t49_ t65_ t66_ t67_ out)) = Q50.l3 N x.1 x.2.1 N := by funext s_ t49_ t65_ t66_ t67_ out; exact (Q50.runs N x.1 x.2.1 N).2.2.2 s_ t49_ t65_ t66_ t67_ out
 have h' : (Q50.D N).f x = Q50.e N (Q50.l0 N x.1 x.2.1 N) (Q50.l1 N x.1 x.2.1 N) (Q50.l2 N x.1 x.2.1 N) (Q50.l3 N x.1 x.2.1 N) x.1 x.2.1 := by kernel_rfl
 exact (congr (congr (congr (congrArg (fun r0 r1 r2 r3 => Q50.e N r0 r1 r2 r3 x.1 x.2.1) e0) e1) e2) e3).trans (h'.symm.trans h)
def Q34.as : List MK := [.d true qa, .d true qd]
def Q34.rs : List (Bool × HT) := [(false, (.d tI))]
def Q34.lc : List AC := []
def Q34.D : DFn := ⟨Q34.as, Q34.rs, Int, fun x => Q34 N x.1 x.2.1, fun r o => r.1, fun b => (b, ()), fun b => (), none⟩
theorem Q34.fit : (Q34.D N).Fit := ⟨fun _ _ => rfl, fun _ _ => rfl, by kernel_rfl, (fun _ _ h => nomatch h), by kernel_rfl⟩
noncomputable def Q34.G : Gam := gamOf [(60, Q60.D N), (61, Q61.D N), (50, Q50.D N)]
def Q34.A : LA := fun k => bif Nat.beq k 0 then some ⟨[2, 3, 5, 12, 13, 14], [], [], [], [], 2, false⟩ else none
noncomputable def Q34.fin : St → Option Int := resK tb Try.f34.results.toList (decRes (Q34.D N) Q34.lc)
noncomputable def Q34.k0 : List Item := stackAt [.r, .r, .l, .r, .b] (bodyOf Try.f34) []
def Q34.st0 (r_ : TRules) (p_ : TPos) (t13_ t14_ : Int) : St := ⟨[oA, oA, .one (.ptr 0 0), .one (.ptr 1 0), oA, oi (w64 (1 - p_.2.2.1))] ++ rA 6 ++ [.one (.fro 82 qe r_.2.2.2.2.2.2.2.1), oi t13_, oi t14_] ++ rA 43, [vR r_, vP p_]⟩
theorem Q34.step0 (rec : RK Int) (r_ : TRules) (p_ : TPos) (t13_ t14_ : Int) : seg tb (Q34.G N) Q34.A 0 rec (Q34.fin N) segFuel (loopBody Q34.k0) (Q34.st0 r_ p_ t13_ t14_) = Q34.s0 N r_ p_ (fun t13_ t14_ => rec Q34.k0 (Q34.st0 r_ p_ t13_ t14_)) t13_ t14_ := by kernel_rfl
theorem Q34.entry (rec : RK Int) (x : (argH Q34.as).den) : seg tb (Q34.G N) Q34.A 0 rec (Q34.fin N) segFuel [.code (bodyOf Try.f34)] (initSt Try.f34 (encArgs Q34.as x) (encMem Q34.as x)) = Q34.e N (fun t13_ t14_ => rec Q34.k0 (Q34.st0 x.1 x.2.1 t13_ t14_)) x.1 x.2.1 := by kernel_rfl
theorem Q34.runs (N : Nat) (r_ : TRules) (p_ : TPos) : ∀ n, (∀ (t13_ t14_ : Int), run tb (Q34.G N) Q34.A 0 (Q34.fin N) n Q34.k0 (Q34.st0 r_ p_ t13_ t14_) = Q34.l0 N r_ p_ n t13_ t14_)
 | 0 => fun _ _ => rfl
 | n + 1 => by
  have h0 := Q34.runs N r_ p_ n
  have e0 : (fun (t13_ t14_ : Int) => run tb (Q34.G N) Q34.A 0 (Q34.fin N) n Q34.k0 (Q34.st0 r_ p_ t13_ t14_)) = Q34.l0 N r_ p_ n := by funext t13_ t14_; exact h0 t13_ t14_
  have g0 : (∀ (t13_ t14_ : Int), run tb (Q34.G N) Q34.A 0 (Q34.fin N) (n + 1) Q34.k0 (Q34.st0 r_ p_ t13_ t14_) = Q34.l0 N r_ p_ (n + 1) t13_ t14_) := by
   intro t13_ t14_
   exact (run_succ (by kernel_rfl)).trans ((Q34.step0 N _ r_ p_ t13_ t14_).trans ((congrArg (fun r0 => Q34.s0 N r_ p_ r0 t13_ t14_) e0).trans (Q34.l0_s N r_ p_ n t13_ t14_).symm))
  exact g0
theorem Q34.ok : FnOk Try.prog 34 (Q34.D N) := by
 refine fo ⟨Try.f34, Try.func34, by kernel_rfl, by kernel_rfl, fun x y h => ⟨Q34.G N, Q34.A, N, gamOf_ok (gc ⟨Q60.ok N, Q60.fit N⟩ (gc ⟨Q61.ok N, Q61.fit N⟩ (gc ⟨Q50.ok N, Q50.fit N⟩ gn))), ?_⟩⟩ (Q34.fit N)
 rw [absFn_n (n0 := 0) rfl (by kernel_rfl)]
 refine (Q34.entry N (run tb (Q34.G N) Q34.A 0 (Q34.fin N) N) x).trans ?_
 have e0 : (fun (t13_ t14_ : Int) => run tb (Q34.G N) Q34.A 0 (Q34.fin N) N Q34.k0 (Q34.st0 x.1 x.2.1 t13_ t14_)) = Q34.l0 N x.1 x.2.1 N := by funext t13_ t14_; exact (Q34.runs N x.1 x.2.1 N) t13_ t14_
 have h' : (Q34.D N).f x = Q34.e N (Q34.l0 N x.1 x.2.1 N) x.1 x.2.1 := by kernel_rfl
 exact (congrArg (fun r0 => Q34.e N r0 x.1 x.2.1) e0).trans (h'.symm.trans h)
def Q22.as : List MK := [.r (.prod qa (.prod qd (.prod (.int .u64) (.slice 149 qf))))]
def Q22.rs : List (Bool × HT) := [(false, (.d tI))]
def Q22.lc : List AC := []
def Q22.D : DFn := ⟨Q22.as, Q22.rs, Int, fun x => Q22 N x.1, fun r o => r.1, fun b => (b, ()), fun b => (), none⟩
theorem Q22.fit : (Q22.D N).Fit := ⟨fun _ _ => rfl, fun _ _ => rfl, by kernel_rfl, (fun _ _ h => nomatch h), by kernel_rfl⟩
noncomputable def Q22.G : Gam := gamOf [(34, Q34.D N)]
def Q22.A : LA := fun _ => none
noncomputable def Q22.fin : St → Option Int := resK tb Try.f22.results.toList (decRes (Q22.D N) Q22.lc)
theorem Q22.entry (rec : RK Int) (x : (argH Q22.as).den) : seg tb (Q22.G N) Q22.A 0 rec (Q22.fin N) segFuel [.code (bodyOf Try.f22)] (initSt Try.f22 (encArgs Q22.as x) (encMem Q22.as x)) = Q22.e N x.1 := by kernel_rfl
theorem Q22.ok : FnOk Try.prog 22 (Q22.D N) := by
 refine fo ⟨Try.f22, Try.func22, by kernel_rfl, by kernel_rfl, fun x y h => ⟨Q22.G N, Q22.A, N, gamOf_ok (gc ⟨Q34.ok N, Q34.fit N⟩ gn), ?_⟩⟩ (Q22.fit N)
 rw [absFn_n (n0 := 0) rfl (by kernel_rfl)]
 exact (Q22.entry N _ x).trans h
def Q24.as : List MK := [.r (.prod qa (.prod qd (.prod (.int .u64) (.slice 149 qf))))]
def Q24.rs : List (Bool × HT) := [(false, (.own 37 qc))]
def Q24.lc : List AC := []
def Q24.D : DFn := ⟨Q24.as, Q24.rs, LMv, fun x => Q24 N x.1, fun r o => r.1, fun b => (b, ()), fun b => (), none⟩
theorem Q24.fit : (Q24.D N).Fit := ⟨fun _ _ => rfl, fun _ _ => rfl, by kernel_rfl, (fun _ _ h => nomatch h), by kernel_rfl⟩
noncomputable def Q24.G : Gam := gamOf [(22, Q22.D N), (50, Q50.D N)]
def Q24.A : LA := fun _ => none
noncomputable def Q24.fin : St → Option LMv := resK tb Try.f24.results.toList (decRes (Q24.D N) Q24.lc)
theorem Q24.entry (rec : RK LMv) (x : (argH Q24.as).den) : seg tb (Q24.G N) Q24.A 0 rec (Q24.fin N) segFuel [.code (bodyOf Try.f24)] (initSt Try.f24 (encArgs Q24.as x) (encMem Q24.as x)) = Q24.e N x.1 := by kernel_rfl
theorem Q24.ok : FnOk Try.prog 24 (Q24.D N) := by
 refine fo ⟨Try.f24, Try.func24, by kernel_rfl, by kernel_rfl, fun x y h => ⟨Q24.G N, Q24.A, N, gamOf_ok (gc ⟨Q22.ok N, Q22.fit N⟩ (gc ⟨Q50.ok N, Q50.fit N⟩ gn)), ?_⟩⟩ (Q24.fit N)
 rw [absFn_n (n0 := 0) rfl (by kernel_rfl)]
 exact (Q24.entry N _ x).trans h
end
end Go.Proofs.Ytnddjmhpofhfjaa.Am
