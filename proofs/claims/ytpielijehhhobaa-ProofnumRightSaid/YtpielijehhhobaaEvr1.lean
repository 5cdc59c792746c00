/- PRINTED by gen.py: the abstract machine evaluates the loaded code to these functions. -/
import Derived.Test.YtpielijehhhobaaEvr
set_option linter.unusedVariables false
set_option linter.unusedSimpArgs false
namespace Go.Proofs.Ytpielijehhhobaa.Am
open Go
noncomputable section
set_option maxRecDepth 100000
def Q98.as : List MK := [.d false (.slice 41 (.prod tI (.prod tI tI))), .d false tI, .d false tI, .f 66]
def Q98.rs : List (Bool × HT) := [(false, (.d tI)), (false, (.d tI))]
def Q98.lc : List AC := []
def Q98.D (N : Nat) : DFn := ⟨Q98.as, Q98.rs, (Int × Int), fun x => Q98 N x.1 x.2.1 x.2.2.1, fun r o => (r.1, r.2.1), fun b => (b.1, (b.2, ())), fun b => (), none⟩
theorem Q98.fit (N : Nat) : (Q98.D N).Fit := ⟨fun _ _ => rfl, fun _ _ => rfl, by kernel_rfl, (fun _ _ h => nomatch h), by kernel_rfl⟩
noncomputable def Q98.G (N : Nat) : Gam := gamOf [(109, Q109.D N), (110, Q110.D N)]
def Q98.A : Nat → Option LoopAnn := fun _ => none
noncomputable def Q98.fin (N : Nat) : St → Option (Int × Int) := resK tb Try.f98.results.toList (decRes (Q98.D N) Q98.lc)
theorem Q98.entry (N : Nat) (rec : List Item → St → Option (Int × Int)) (x : (argH Q98.as).den) : seg tb (Q98.G N) Q98.A 0 rec (Q98.fin N) segFuel [.code (bodyOf Try.f98)] (initSt Try.f98 (encArgs Q98.as x) (encMem Q98.as x)) = Q98.e N x.1 x.2.1 x.2.2.1 := by kernel_rfl
theorem Q98.ok (N : Nat) : FnOk Try.prog 98 (Q98.D N) := by
 refine FnOk_of tb_ok (Checked.mixed Try.checked) ⟨Try.f98, Try.func98, by kernel_rfl, by kernel_rfl, fun x y h => ⟨Q98.G N, Q98.A, N, gamOf_ok (by simp only [List.forall_mem_cons, List.not_mem_nil, false_implies, implies_true, and_true]; exact ⟨⟨Q109.ok N, Q109.fit N⟩, ⟨Q110.ok N, Q110.fit N⟩⟩), ?_⟩⟩ (Q98.fit N)
 rw [absFn_n (n0 := 0) rfl (by kernel_rfl)]
 exact (Q98.entry N _ x).trans h
def Q99.as : List MK := [.o (.own 41 (.prod tI (.prod tI tI))) true, .d false tI, .d false tI, .f 66]
def Q99.rs : List (Bool × HT) := []
def Q99.lc : List AC := [.own 0]
def Q99.D (N : Nat) : DFn := ⟨Q99.as, Q99.rs, LMv, fun x => Q99 N x.1 x.2.1 x.2.2.1, fun r o => o.1, fun b => (), fun b => (b, ()), none⟩
theorem Q99.fit (N : Nat) : (Q99.D N).Fit := ⟨fun _ _ => rfl, fun _ _ => rfl, by kernel_rfl, (fun _ _ h => nomatch h), by kernel_rfl⟩
noncomputable def Q99.G (N : Nat) : Gam := gamOf []
def Q99.A : Nat → Option LoopAnn := fun k => bif Nat.beq k 0 then some ⟨[0, 8, 9], [], [], [], [], 1, false⟩ else none
noncomputable def Q99.fin (N : Nat) : St → Option LMv := resK tb Try.f99.results.toList (decRes (Q99.D N) Q99.lc)
noncomputable def Q99.k0 : List Item := stackAt [.r, .r, .b] (bodyOf Try.f99) []
def Q99.st0 (data : LMv) (a_ b_ i_ j_ : Int) (data2 : LMv) : St := ⟨[.one (.own 0)] ++ List.replicate 7 (.one .any) ++ [.one (.int .i64 i_), .one (.int .i64 j_)] ++ List.replicate 24 (.one .any), [.row 41 (.prod tI (.prod tI tI)) data2]⟩
theorem Q99.step0 (N : Nat) (rec : List Item → St → Option LMv) (data : LMv) (a_ b_ i_ j_ : Int) (data2 : LMv) : seg tb (Q99.G N) Q99.A 1 rec (Q99.fin N) segFuel (loopBody Q99.k0) (Q99.st0 data a_ b_ i_ j_ data2) = Q99.s0 N data a_ b_ (fun i_ j_ data2 => rec Q99.k0 (Q99.st0 data a_ b_ i_ j_ data2)) i_ j_ data2 := by kernel_rfl
theorem Q99.entry (N : Nat) (rec : List Item → St → Option LMv) (x : (argH Q99.as).den) : seg tb (Q99.G N) Q99.A 1 rec (Q99.fin N) segFuel [.code (bodyOf Try.f99)] (initSt Try.f99 (encArgs Q99.as x) (encMem Q99.as x)) = Q99.e N (fun i_ j_ data2 => rec Q99.k0 (Q99.st0 x.1 x.2.1 x.2.2.1 i_ j_ data2)) x.1 x.2.1 x.2.2.1 := by kernel_rfl
theorem Q99.runs (N : Nat) (data : LMv) (a_ b_ : Int) : ∀ n, (∀ (i_ j_ : Int) (data2 : LMv), run tb (Q99.G N) Q99.A 1 (Q99.fin N) n Q99.k0 (Q99.st0 data a_ b_ i_ j_ data2) = Q99.l0 N data a_ b_ n i_ j_ data2)
 | 0 => fun _ _ _ => rfl
 | n + 1 => by
  have h0 := Q99.runs N data a_ b_ n
  have e0 : (fun (i_ j_ : Int) (data2 : LMv) => run tb (Q99.G N) Q99.A 1 (Q99.fin N) n Q99.k0 (Q99.st0 data a_ b_ i_ j_ data2)) = Q99.l0 N data a_ b_ n := by funext i_ j_ data2; exact h0 i_ j_ data2
  have g0 : (∀ (i_ j_ : Int) (data2 : LMv), run tb (Q99.G N) Q99.A 1 (Q99.fin N) (n + 1) Q99.k0 (Q99.st0 data a_ b_ i_ j_ data2) = Q99.l0 N data a_ b_ (n + 1) i_ j_ data2) := by
   intro i_ j_ data2
   exact (run_succ (by kernel_rfl)).trans ((Q99.step0 N _ data a_ b_ i_ j_ data2).trans ((congrArg (fun r0 => Q99.s0 N data a_ b_ r0 i_ j_ data2) e0).trans (Q99.l0_s N data a_ b_ n i_ j_ data2).symm))
  exact g0
theorem Q99.ok (N : Nat) : FnOk Try.prog 99 (Q99.D N) := by
 refine FnOk_of tb_ok (Checked.mixed Try.checked) ⟨Try.f99, Try.func99, by kernel_rfl, by kernel_rfl, fun x y h => ⟨Q99.G N, Q99.A, N, gamOf_ok (fun p hp => nomatch hp), ?_⟩⟩ (Q99.fit N)
 rw [absFn_n (n0 := 1) rfl (by kernel_rfl)]
 refine (Q99.entry N (run tb (Q99.G N) Q99.A 1 (Q99.fin N) N) x).trans ?_
 have e0 : (fun (i_ j_ : Int) (data2 : LMv) => run tb (Q99.G N) Q99.A 1 (Q99.fin N) N Q99.k0 (Q99.st0 x.1 x.2.1 x.2.2.1 i_ j_ data2)) = Q99.l0 N x.1 x.2.1 x.2.2.1 N := by funext i_ j_ data2; exact (Q99.runs N x.1 x.2.1 x.2.2.1 N) i_ j_ data2
 have h' : (Q99.D N).f x = Q99.e N (Q99.l0 N x.1 x.2.1 x.2.2.1 N) x.1 x.2.1 x.2.2.1 := by kernel_rfl
 exact (congrArg (fun r0 => Q99.e N r0 x.1 x.2.1 x.2.2.1) e0).trans (h'.symm.trans h)
def Q100.as : List MK := [.o (.own 41 (.prod tI (.prod tI tI))) true, .d false tI, .d false tI, .f 66]
def Q100.rs : List (Bool × HT) := [(false, (.d .bool))]
def Q100.lc : List AC := [.own 0]
def Q100.D (N : Nat) : DFn := ⟨Q100.as, Q100.rs, (Bool × LMv), fun x => Q100 N x.1 x.2.1 x.2.2.1, fun r o => (r.1, o.1), fun b => (b.1, ()), fun b => (b.2, ()), none⟩
theorem Q100.fit (N : Nat) : (Q100.D N).Fit := ⟨fun _ _ => rfl, fun _ _ => rfl, by kernel_rfl, (fun _ _ h => nomatch h), by kernel_rfl⟩
noncomputable def Q100.G (N : Nat) : Gam := gamOf [(66, Q66.D N)]
def Q100.A : Nat → Option LoopAnn := fun k => bif Nat.beq k 0 then some ⟨[0, 1, 2, 3, 9, 10], [], [], [], [], 1, false⟩ else bif Nat.beq k 2 then some ⟨[0, 1, 2, 3, 9, 10], [], [], [], [], 1, false⟩ else bif Nat.beq k 4 then some ⟨[0, 1, 2, 3, 9, 10, 11], [], [], [], [], 1, false⟩ else bif Nat.beq k 6 then some ⟨[0, 1, 2, 3, 9, 10, 12], [], [], [], [], 1, false⟩ else none
noncomputable def Q100.fin (N : Nat) : St → Option (Bool × LMv) := resK tb Try.f100.results.toList (decRes (Q100.D N) Q100.lc)
noncomputable def Q100.k0 : List Item := stackAt [.r, .r, .l, .r, .b] (bodyOf Try.f100) []
def Q100.st0 (data : LMv) (a_ b_ i_ j_ : Int) (data2 : LMv) : St := ⟨[.one (.own 0), .one (.int .i64 a_), .one (.int .i64 b_), .one (.fn 66)] ++ List.replicate 5 (.one .any) ++ [.one (.int .i64 i_), .one (.int .i64 j_)] ++ List.replicate 130 (.one .any), [.row 41 (.prod tI (.prod tI tI)) data2]⟩
noncomputable def Q100.k1 : List Item := stackAt [.r, .r, .l, .r, .b, .w, .r, .l, .b, .l, .b] (bodyOf Try.f100) []
def Q100.st1 (data : LMv) (a_ b_ i_ j_ : Int) (data2 : LMv) : St := ⟨[.one (.own 0), .one (.int .i64 a_), .one (.int .i64 b_), .one (.fn 66)] ++ List.replicate 5 (.one .any) ++ [.one (.int .i64 i_), .one (.int .i64 j_)] ++ List.replicate 130 (.one .any), [.row 41 (.prod tI (.prod tI tI)) data2]⟩
noncomputable def Q100.k2 : List Item := stackAt [.r, .r, .l, .r, .b, .w, .r, .l, .b, .r, .r, .r, .r, .l, .r, .t, .r, .b] (bodyOf Try.f100) []
def Q100.st2 (data : LMv) (a_ b_ i_ j_ j_2 : Int) (data2 : LMv) : St := ⟨[.one (.own 0), .one (.int .i64 a_), .one (.int .i64 b_), .one (.fn 66)] ++ List.replicate 5 (.one .any) ++ [.one (.int .i64 i_), .one (.int .i64 j_), .one (.int .i64 j_2)] ++ List.replicate 129 (.one .any), [.row 41 (.prod tI (.prod tI tI)) data2]⟩
noncomputable def Q100.k3 : List Item := stackAt [.r, .r, .l, .r, .b, .w, .r, .l, .b, .r, .r, .r, .r, .r, .r, .t, .r, .b] (bodyOf Try.f100) []
def Q100.st3 (data : LMv) (a_ b_ i_ j_ j_2 : Int) (data2 : LMv) : St := ⟨[.one (.own 0), .one (.int .i64 a_), .one (.int .i64 b_), .one (.fn 66)] ++ List.replicate 5 (.one .any) ++ [.one (.int .i64 i_), .one (.int .i64 j_), .one .any, .one (.int .i64 j_2)] ++ List.replicate 128 (.one .any), [.row 41 (.prod tI (.prod tI tI)) data2]⟩
theorem Q100.step0 (N : Nat) (rec : List Item → St → Option (Bool × LMv)) (data : LMv) (a_ b_ i_ j_ : Int) (data2 : LMv) : seg tb (Q100.G N) Q100.A 1 rec (Q100.fin N) segFuel (loopBody Q100.k0) (Q100.st0 data a_ b_ i_ j_ data2) = Q100.s0 N data a_ b_ (fun i_ j_ data2 => rec Q100.k0 (Q100.st0 data a_ b_ i_ j_ data2)) (fun i_ j_ data2 => rec Q100.k1 (Q100.st1 data a_ b_ i_ j_ data2)) (fun i_ j_ j_2 data2 => rec Q100.k2 (Q100.st2 data a_ b_ i_ j_ j_2 data2)) (fun i_ j_ j_2 data2 => rec Q100.k3 (Q100.st3 data a_ b_ i_ j_ j_2 data2)) i_ j_ data2 := by kernel_rfl
theorem Q100.step1 (N : Nat) (rec : List Item → St → Option (Bool × LMv)) (data : LMv) (a_ b_ i_ j_ : Int) (data2 : LMv) : seg tb (Q100.G N) Q100.A 1 rec (Q100.fin N) segFuel (loopBody Q100.k1) (Q100.st1 data a_ b_ i_ j_ data2) = Q100.s1 N data a_ b_ (fun i_ j_ data2 => rec Q100.k0 (Q100.st0 data a_ b_ i_ j_ data2)) (fun i_ j_ data2 => rec Q100.k1 (Q100.st1 data a_ b_ i_ j_ data2)) (fun i_ j_ j_2 data2 => rec Q100.k2 (Q100.st2 data a_ b_ i_ j_ j_2 data2)) (fun i_ j_ j_2 data2 => rec Q100.k3 (Q100.st3 data a_ b_ i_ j_ j_2 data2)) i_ j_ data2 := by kernel_rfl
theorem Q100.step2 (N : Nat) (rec : List Item → St → Option (Bool × LMv)) (data : LMv) (a_ b_ i_ j_ j_2 : Int) (data2 : LMv) : seg tb (Q100.G N) Q100.A 1 rec (Q100.fin N) segFuel (loopBody Q100.k2) (Q100.st2 data a_ b_ i_ j_ j_2 data2) = Q100.s2 N data a_ b_ (fun i_ j_ data2 => rec Q100.k0 (Q100.st0 data a_ b_ i_ j_ data2)) (fun i_ j_ data2 => rec Q100.k1 (Q100.st1 data a_ b_ i_ j_ data2)) (fun i_ j_ j_2 data2 => rec Q100.k2 (Q100.st2 data a_ b_ i_ j_ j_2 data2)) (fun i_ j_ j_2 data2 => rec Q100.k3 (Q100.st3 data a_ b_ i_ j_ j_2 data2)) i_ j_ j_2 data2 := by kernel_rfl
theorem Q100.step3 (N : Nat) (rec : List Item → St → Option (Bool × LMv)) (data : LMv) (a_ b_ i_ j_ j_2 : Int) (data2 : LMv) : seg tb (Q100.G N) Q100.A 1 rec (Q100.fin N) segFuel (loopBody Q100.k3) (Q100.st3 data a_ b_ i_ j_ j_2 data2) = Q100.s3 N data a_ b_ (fun i_ j_ data2 => rec Q100.k0 (Q100.st0 data a_ b_ i_ j_ data2)) (fun i_ j_ data2 => rec Q100.k1 (Q100.st1 data a_ b_ i_ j_ data2)) (fun i_ j_ j_2 data2 => rec Q100.k2 (Q100.st2 data a_ b_ i_ j_ j_2 data2)) (fun i_ j_ j_2 data2 => rec Q100.k3 (Q100.st3 data a_ b_ i_ j_ j_2 data2)) i_ j_ j_2 data2 := by kernel_rfl
theorem Q100.entry (N : Nat) (rec : List Item → St → Option (Bool × LMv)) (x : (argH Q100.as).den) : seg tb (Q100.G N) Q100.A 1 rec (Q100.fin N) segFuel [.code (bodyOf Try.f100)] (initSt Try.f100 (encArgs Q100.as x) (encMem Q100.as x)) = Q100.e N (fun i_ j_ data2 => rec Q100.k0 (Q100.st0 x.1 x.2.1 x.2.2.1 i_ j_ data2)) (fun i_ j_ data2 => rec Q100.k1 (Q100.st1 x.1 x.2.1 x.2.2.1 i_ j_ data2)) (fun i_ j_ j_2 data2 => rec Q100.k2 (Q100.st2 x.1 x.2.1 x.2.2.1 i_ j_ j_2 data2)) (fun i_ j_ j_2 data2 => rec Q100.k3 (Q100.st3 x.1 x.2.1 x.2.2.1 i_ j_ j_2 data2)) x.1 x.2.1 x.2.2.1 := by kernel_rfl
theorem Q100.runs (N : Nat) (data : LMv) (a_ b_ : Int) : ∀ n, (∀ (i_ j_ : Int) (data2 : LMv), run tb (Q100.G N) Q100.A 1 (Q100.fin N) n Q100.k0 (Q100.st0 data a_ b_ i_ j_ data2) = Q100.l0 N data a_ b_ n i_ j_ data2) ∧ (∀ (i_ j_ : Int) (data2 : LMv), run tb (Q100.G N) Q100.A 1 (Q100.fin N) n Q100.k1 (Q100.st1 data a_ b_ i_ j_ data2) = Q100.l1 N data a_ b_ n i_ j_ data2) ∧ (∀ (i_ j_ j_2 : Int) (data2 : LMv), run tb (Q100.G N) Q100.A 1 (Q100.fin N) n Q100.k2 (Q100.st2 data a_ b_ i_ j_ j_2 data2) = Q100.l2 N data a_ b_ n i_ j_ j_2 data2) ∧ (∀ (i_ j_ j_2 : Int) (data2 : LMv), run tb (Q100.G N) Q100.A 1 (Q100.fin N) n Q100.k3 (Q100.st3 data a_ b_ i_ j_ j_2 data2) = Q100.l3 N data a_ b_ n i_ j_ j_2 data2)
 | 0 => ⟨fun _ _ _ => rfl, fun _ _ _ => rfl, fun _ _ _ _ => rfl, fun _ _ _ _ => rfl⟩
 | n + 1 => by
  obtain ⟨h0, h1, h2, h3⟩ := Q100.runs N data a_ b_ n
  have e0 : (fun (i_ j_ : Int) (data2 : LMv) => run tb (Q100.G N) Q100.A 1 (Q100.fin N) n Q100.k0 (Q100.st0 data a_ b_ i_ j_ data2)) = Q100.l0 N data a_ b_ n := by funext i_ j_ data2; exact h0 i_ j_ data2
  have e1 : (fun (i_ j_ : Int) (data2 : LMv) => run tb (Q100.G N) Q100.A 1 (Q100.fin N) n Q100.k1 (Q100.st1 data a_ b_ i_ j_ data2)) = Q100.l1 N data a_ b_ n := by funext i_ j_ data2; exact h1 i_ j_ data2
  have e2 : (fun (i_ j_ j_2 : Int) (data2 : LMv) => run tb (Q100.G N) Q100.A 1 (Q100.fin N) n Q100.k2 (Q100.st2 data a_ b_ i_ j_ j_2 data2)) = Q100.l2 N data a_ b_ n := by funext i_ j_ j_2 data2; exact h2 i_ j_ j_2 data2
  have e3 : (fun (i_ j_ j_2 : Int) (data2 : LMv) => run tb (Q100.G N) Q100.A 1 (Q100.fin N) n Q100.k3 (Q100.st3 data a_ b_ i_ j_ j_2 data2)) = Q100.l3 N data a_ b_ n := by funext i_ j_ j_2 data2; exact h3 i_ j_ j_2 data2
  have g0 : (∀ (i_ j_ : Int) (data2 : LMv), run tb (Q100.G N) Q100.A 1 (Q100.fin N) (n + 1) Q100.k0 (Q100.st0 data a_ b_ i_ j_ data2) = Q100.l0 N data a_ b_ (n + 1) i_ j_ data2) := by
   intro i_ j_ data2
   exact (run_succ (by kernel_rfl)).trans ((Q100.step0 N _ data a_ b_ i_ j_ data2).trans ((congr (congr (congr (congrArg (fun r0 r1 r2 r3 => Q100.s0 N data a_ b_ r0 r1 r2 r3 i_ j_ data2) e0) e1) e2) e3).trans (Q100.l0_s N data a_ b_ n i_ j_ data2).symm))
  have g1 : (∀ (i_ j_ : Int) (data2 : LMv), run tb (Q100.G N) Q100.A 1 (Q100.fin N) (n + 1) Q100.k1 (Q100.st1 data a_ b_ i_ j_ data2) = Q100.l1 N data a_ b_ (n + 1) i_ j_ data2) := by
   intro i_ j_ data2
   exact (run_succ (by kernel_rfl)).trans ((Q100.step1 N _ data a_ b_ i_ j_ data2).trans ((congr (congr (congr (congrArg (fun r0 r1 r2 r3 => Q100.s1 N data a_ b_ r0 r1 r2 r3 i_ j_ data2) e0) e1) e2) e3).trans (Q100.l1_s N data a_ b_ n i_ j_ data2).symm))
  have g2 : (∀ (i_ j_ j_2 : Int) (data2 : LMv), run tb (Q100.G N) Q100.A 1 (Q100.fin N) (n + 1) Q100.k2 (Q100.st2 data a_ b_ i_ j_ j_2 data2) = Q100.l2 N data a_ b_ (n + 1) i_ j_ j_2 data2) := by
   intro i_ j_ j_2 data2
   exact (run_succ (by kernel_rfl)).trans ((Q100.step2 N _ data a_ b_ i_ j_ j_2 data2).trans ((congr (congr (congr (congrArg (fun r0 r1 r2 r3 => Q100.s2 N data a_ b_ r0 r1 r2 r3 i_ j_ j_2 data2) e0) e1) e2) e3).trans (Q100.l2_s N data a_ b_ n i_ j_ j_2 data2).symm))
  have g3 : (∀ (i_ j_ j_2 : Int) (data2 : LMv), run tb (Q100.G N) Q100.A 1 (Q100.fin N) (n + 1) Q100.k3 (Q100.st3 data a_ b_ i_ j_ j_2 data2) = Q100.l3 N data a_ b_ (n + 1) i_ j_ j_2 data2) := by
   intro i_ j_ j_2 data2
   exact (run_succ (by kernel_rfl)).trans ((Q100.step3 N _ data a_ b_ i_ j_ j_2 data2).trans ((congr (congr (congr (congrArg (fun r0 r1 r2 r3 => Q100.s3 N data a_ b_ r0 r1 r2 r3 i_ j_ j_2 data2) e0) e1) e2) e3).trans (Q100.l3_s N data a_ b_ n i_ j_ j_2 data2).symm))
  exact ⟨g0, g1, g2, g3⟩
theorem Q100.ok (N : Nat) : FnOk Try.prog 100 (Q100.D N) := by
 refine FnOk_of tb_ok (Checked.mixed Try.checked) ⟨Try.f100, Try.func100, by kernel_rfl, by kernel_rfl, fun x y h => ⟨Q100.G N, Q100.A, N, gamOf_ok (by simp only [List.forall_mem_cons, List.not_mem_nil, false_implies, implies_true, and_true]; exact ⟨Q66.ok N, Q66.fit N⟩), ?_⟩⟩ (Q100.fit N)
 rw [absFn_n (n0 := 1) rfl (by kernel_rfl)]
 refine (Q100.entry N (run tb (Q100.G N) Q100.A 1 (Q100.fin N) N) x).trans ?_
 have e0 : (fun (i_ j_ : Int) (data2 : LMv) => run tb (Q100.G N) Q100.A 1 (Q100.fin N) N Q100.k0 (Q100.st0 x.1 x.2.1 x.2.2.1 i_ j_ data2)) = Q100.l0 N x.1 x.2.1 x.2.2.1 N := by funext i_ j_ data2; exact (Q100.runs N x.1 x.2.1 x.2.2.1 N).1 i_ j_ data2
 have e1 : (fun (i_ j_ : Int) (data2 : LMv) => run tb (Q100.G N) Q100.A 1 (Q100.fin N) N Q100.k1 (Q100.st1 x.1 x.2.1 x.2.2.1 i_ j_ data2)) = Q100.l1 N x.1 x.2.1 x.2.2.1 N := by funext i_ j_ data2; exact (Q100.runs N x.1 x.2.1 x.2.2.1 N).2.1 i_ j_ data2
 have e2 : (fun (i_ j_ j_2 : Int) (data2 : LMv) => run tb (Q100.G N) Q100.A 1 (Q100.fin N) N Q100.k2 (Q100.st2 x.1 x.2.1 x.2.2.1 i_ j_ j_2 data2)) = Q100.l2 N x.1 x.2.1 x.2.2.1 N := by funext i_ j_ j_2 data2; exact (Q100.runs N x.1 x.2.1 x.2.2.1 N).2.2.1 i_ j_ j_2 data2
 have e3 : (fun (i_ j_ j_2 : Int) (data2 : LMv) => run tb (Q100.G N) Q100.A 1 (Q100.fin N) N Q100.k3 (Q100.st3 x.1 x.2.1 x.2.2.1 i_ j_ j_2 data2)) = Q100.l3 N x.1 x.2.1 x.2.2.1 N := by funext i_ j_ j_2 data2; exact (Q100.runs N x.1 x.2.1 x.2.2.1 N).2.2.2 i_ j_ j_2 data2
 have h' : (Q100.D N).f x = Q100.e N (Q100.l0 N x.1 x.2.1 x.2.2.1 N) (Q100.l1 N x.1 x.2.1 x.2.2.1 N) (Q100.l2 N x.1 x.2.1 x.2.2.1 N) (Q100.l3 N x.1 x.2.1 x.2.2.1 N) x.1 x.2.1 x.2.2.1 := by kernel_rfl
 exact (congr (congr (congr (congrArg (fun r0 r1 r2 r3 => Q100.e N r0 r1 r2 r3 x.1 x.2.1 x.2.2.1) e0) e1) e2) e3).trans (h'.symm.trans h)
def Q101.as : List MK := [.o (.own 41 (.prod tI (.prod tI tI))) true, .d false tI, .d false tI, .d false tI, .f 66]
def Q101.rs : List (Bool × HT) := [(false, (.d tI))]
def Q101.lc : List AC := [.own 0]
def Q101.D (N : Nat) : DFn := ⟨Q101.as, Q101.rs, (Int × LMv), fun x => Q101 N x.1 x.2.1 x.2.2.1 x.2.2.2.1, fun r o => (r.1, o.1), fun b => (b.1, ()), fun b => (b.2, ()), none⟩
theorem Q101.fit (N : Nat) : (Q101.D N).Fit := ⟨fun _ _ => rfl, fun _ _ => rfl, by kernel_rfl, (fun _ _ h => nomatch h), by kernel_rfl⟩
noncomputable def Q101.G (N : Nat) : Gam := gamOf [(66, Q66.D N)]
def Q101.A : Nat → Option LoopAnn := fun k => bif Nat.beq k 0 then some ⟨[0, 1, 4, 11, 12], [], [], [], [], 1, false⟩ else bif Nat.beq k 2 then some ⟨[0, 1, 4, 11, 12], [], [], [], [], 1, false⟩ else bif Nat.beq k 4 then some ⟨[0, 1, 4, 11, 12], [], [], [], [], 1, false⟩ else none
noncomputable def Q101.fin (N : Nat) : St → Option (Int × LMv) := resK tb Try.f101.results.toList (decRes (Q101.D N) Q101.lc)
noncomputable def Q101.k0 : List Item := stackAt [.r, .r, .r, .l, .b] (bodyOf Try.f101) []
def Q101.st0 (data : LMv) (a_ b_ pivot i_ j_ : Int) (data2 : LMv) : St := ⟨[.one (.own 0), .one (.int .i64 a_), .one .any, .one .any, .one (.fn 66)] ++ List.replicate 6 (.one .any) ++ [.one (.int .i64 i_), .one (.int .i64 j_)] ++ List.replicate 77 (.one .any), [.row 41 (.prod tI (.prod tI tI)) data2]⟩
noncomputable def Q101.k1 : List Item := stackAt [.r, .r, .r, .l, .b, .w, .b, .l, .b] (bodyOf Try.f101) []
def Q101.st1 (data : LMv) (a_ b_ pivot i_ j_ : Int) (data2 : LMv) : St := ⟨[.one (.own 0), .one (.int .i64 a_), .one .any, .one .any, .one (.fn 66)] ++ List.replicate 6 (.one .any) ++ [.one (.int .i64 i_), .one (.int .i64 j_)] ++ List.replicate 77 (.one .any), [.row 41 (.prod tI (.prod tI tI)) data2]⟩
noncomputable def Q101.k2 : List Item := stackAt [.r, .r, .r, .l, .b, .w, .b, .r, .l, .b] (bodyOf Try.f101) []
def Q101.st2 (data : LMv) (a_ b_ pivot i_ j_ : Int) (data2 : LMv) : St := ⟨[.one (.own 0), .one (.int .i64 a_), .one .any, .one .any, .one (.fn 66)] ++ List.replicate 6 (.one .any) ++ [.one (.int .i64 i_), .one (.int .i64 j_)] ++ List.replicate 77 (.one .any), [.row 41 (.prod tI (.prod tI tI)) data2]⟩
theorem Q101.step0 (N : Nat) (rec : List Item → St → Option (Int × LMv)) (data : LMv) (a_ b_ pivot i_ j_ : Int) (data2 : LMv) : seg tb (Q101.G N) Q101.A 1 rec (Q101.fin N) segFuel (loopBody Q101.k0) (Q101.st0 data a_ b_ pivot i_ j_ data2) = Q101.s0 N data a_ b_ pivot (fun i_ j_ data2 => rec Q101.k0 (Q101.st0 data a_ b_ pivot i_ j_ data2)) (fun i_ j_ data2 => rec Q101.k1 (Q101.st1 data a_ b_ pivot i_ j_ data2)) (fun i_ j_ data2 => rec Q101.k2 (Q101.st2 data a_ b_ pivot i_ j_ data2)) i_ j_ data2 := by kernel_rfl
theorem Q101.step1 (N : Nat) (rec : List Item → St → Option (Int × LMv)) (data : LMv) (a_ b_ pivot i_ j_ : Int) (data2 : LMv) : seg tb (Q101.G N) Q101.A 1 rec (Q101.fin N) segFuel (loopBody Q101.k1) (Q101.st1 data a_ b_ pivot i_ j_ data2) = Q101.s1 N data a_ b_ pivot (fun i_ j_ data2 => rec Q101.k0 (Q101.st0 data a_ b_ pivot i_ j_ data2)) (fun i_ j_ data2 => rec Q101.k1 (Q101.st1 data a_ b_ pivot i_ j_ data2)) (fun i_ j_ data2 => rec Q101.k2 (Q101.st2 data a_ b_ pivot i_ j_ data2)) i_ j_ data2 := by kernel_rfl
theorem Q101.step2 (N : Nat) (rec : List Item → St → Option (Int × LMv)) (data : LMv) (a_ b_ pivot i_ j_ : Int) (data2 : LMv) : seg tb (Q101.G N) Q101.A 1 rec (Q101.fin N) segFuel (loopBody Q101.k2) (Q101.st2 data a_ b_ pivot i_ j_ data2) = Q101.s2 N data a_ b_ pivot (fun i_ j_ data2 => rec Q101.k0 (Q101.st0 data a_ b_ pivot i_ j_ data2)) (fun i_ j_ data2 => rec Q101.k1 (Q101.st1 data a_ b_ pivot i_ j_ data2)) (fun i_ j_ data2 => rec Q101.k2 (Q101.st2 data a_ b_ pivot i_ j_ data2)) i_ j_ data2 := by kernel_rfl
theorem Q101.entry (N : Nat) (rec : List Item → St → Option (Int × LMv)) (x : (argH Q101.as).den) : seg tb (Q101.G N) Q101.A 1 rec (Q101.fin N) segFuel [.code (bodyOf Try.f101)] (initSt Try.f101 (encArgs Q101.as x) (encMem Q101.as x)) = Q101.e N (fun i_ j_ data2 => rec Q101.k0 (Q101.st0 x.1 x.2.1 x.2.2.1 x.2.2.2.1 i_ j_ data2)) (fun i_ j_ data2 => rec Q101.k1 (Q101.st1 x.1 x.2.1 x.2.2.1 x.2.2.2.1 i_ j_ data2)) (fun i_ j_ data2 => rec Q101.k2 (Q101.st2 x.1 x.2.1 x.2.2.1 x.2.2.2.1 i_ j_ data2)) x.1 x.2.1 x.2.2.1 x.2.2.2.1 := by kernel_rfl
theorem Q101.runs (N : Nat) (data : LMv) (a_ b_ pivot : Int) : ∀ n, (∀ (i_ j_ : Int) (data2 : LMv), run tb (Q101.G N) Q101.A 1 (Q101.fin N) n Q101.k0 (Q101.st0 data a_ b_ pivot i_ j_ data2) = Q101.l0 N data a_ b_ pivot n i_ j_ data2) ∧ (∀ (i_ j_ : Int) (data2 : LMv), run tb (Q101.G N) Q101.A 1 (Q101.fin N) n Q101.k1 (Q101.st1 data a_ b_ pivot i_ j_ data2) = Q101.l1 N data a_ b_ pivot n i_ j_ data2) ∧ (∀ (i_ j_ : Int) (data2 : LMv), run tb (Q101.G N) Q101.A 1 (Q101.fin N) n Q101.k2 (Q101.st2 data a_ b_ pivot i_ j_ data2) = Q101.l2 N data a_ b_ pivot n i_ j_ data2)
 | 0 => ⟨fun _ _ _ => rfl, fun _ _ _ => rfl, fun _ _ _ => rfl⟩
 | n + 1 => by
  obtain ⟨h0, h1, h2⟩ := Q101.runs N data a_ b_ pivot n
  have e0 : (fun (i_ j_ : Int) (data2 : LMv) => run tb (Q101.G N) Q101.A 1 (Q101.fin N) n Q101.k0 (Q101.st0 data a_ b_ pivot i_ j_ data2)) = Q101.l0 N data a_ b_ pivot n := by funext i_ j_ data2; exact h0 i_ j_ data2
  have e1 : (fun (i_ j_ : Int) (data2 : LMv) => run tb (Q101.G N) Q101.A 1 (Q101.fin N) n Q101.k1 (Q101.st1 data a_ b_ pivot i_ j_ data2)) = Q101.l1 N data a_ b_ pivot n := by funext i_ j_ data2; exact h1 i_ j_ data2
  have e2 : (fun (i_ j_ : Int) (data2 : LMv) => run tb (Q101.G N) Q101.A 1 (Q101.fin N) n Q101.k2 (Q101.st2 data a_ b_ pivot i_ j_ data2)) = Q101.l2 N data a_ b_ pivot n := by funext i_ j_ data2; exact h2 i_ j_ data2
  have g0 : (∀ (i_ j_ : Int) (data2 : LMv), run tb (Q101.G N) Q101.A 1 (Q101.fin N) (n + 1) Q101.k0 (Q101.st0 data a_ b_ pivot i_ j_ data2) = Q101.l0 N data a_ b_ pivot (n + 1) i_ j_ data2) := by
   intro i_ j_ data2
   exact (run_succ (by kernel_rfl)).trans ((Q101.step0 N _ data a_ b_ pivot i_ j_ data2).trans ((congr (congr (congrArg (fun r0 r1 r2 => Q101.s0 N data a_ b_ pivot r0 r1 r2 i_ j_ data2) e0) e1) e2).trans (Q101.l0_s N data a_ b_ pivot n i_ j_ data2).symm))
  have g1 : (∀ (i_ j_ : Int) (data2 : LMv), run tb (Q101.G N) Q101.A 1 (Q101.fin N) (n + 1) Q101.k1 (Q101.st1 data a_ b_ pivot i_ j_ data2) = Q101.l1 N data a_ b_ pivot (n + 1) i_ j_ data2) := by
   intro i_ j_ data2
   exact (run_succ (by kernel_rfl)).trans ((Q101.step1 N _ data a_ b_ pivot i_ j_ data2).trans ((congr (congr (congrArg (fun r0 r1 r2 => Q101.s1 N data a_ b_ pivot r0 r1 r2 i_ j_ data2) e0) e1) e2).trans (Q101.l1_s N data a_ b_ pivot n i_ j_ data2).symm))
  have g2 : (∀ (i_ j_ : Int) (data2 : LMv), run tb (Q101.G N) Q101.A 1 (Q101.fin N) (n + 1) Q101.k2 (Q101.st2 data a_ b_ pivot i_ j_ data2) = Q101.l2 N data a_ b_ pivot (n + 1) i_ j_ data2) := by
   intro i_ j_ data2
   exact (run_succ (by kernel_rfl)).trans ((Q101.step2 N _ data a_ b_ pivot i_ j_ data2).trans ((congr (congr (congrArg (fun r0 r1 r2 => Q101.s2 N data a_ b_ pivot r0 r1 r2 i_ j_ data2) e0) e1) e2).trans (Q101.l2_s N data a_ b_ pivot n i_ j_ data2).symm))
  exact ⟨g0, g1, g2⟩
theorem Q101.ok (N : Nat) : FnOk Try.prog 101 (Q101.D N) := by
 refine FnOk_of tb_ok (Checked.mixed Try.checked) ⟨Try.f101, Try.func101, by kernel_rfl, by kernel_rfl, fun x y h => ⟨Q101.G N, Q101.A, N, gamOf_ok (by simp only [List.forall_mem_cons, List.not_mem_nil, false_implies, implies_true, and_true]; exact ⟨Q66.ok N, Q66.fit N⟩), ?_⟩⟩ (Q101.fit N)
 rw [absFn_n (n0 := 1) rfl (by kernel_rfl)]
 refine (Q101.entry N (run tb (Q101.G N) Q101.A 1 (Q101.fin N) N) x).trans ?_
 have e0 : (fun (i_ j_ : Int) (data2 : LMv) => run tb (Q101.G N) Q101.A 1 (Q101.fin N) N Q101.k0 (Q101.st0 x.1 x.2.1 x.2.2.1 x.2.2.2.1 i_ j_ data2)) = Q101.l0 N x.1 x.2.1 x.2.2.1 x.2.2.2.1 N := by funext i_ j_ data2; exact (Q101.runs N x.1 x.2.1 x.2.2.1 x.2.2.2.1 N).1 i_ j_ data2
 have e1 : (fun (i_ j_ : Int) (data2 : LMv) => run tb (Q101.G N) Q101.A 1 (Q101.fin N) N Q101.k1 (Q101.st1 x.1 x.2.1 x.2.2.1 x.2.2.2.1 i_ j_ data2)) = Q101.l1 N x.1 x.2.1 x.2.2.1 x.2.2.2.1 N := by funext i_ j_ data2; exact (Q101.runs N x.1 x.2.1 x.2.2.1 x.2.2.2.1 N).2.1 i_ j_ data2
 have e2 : (fun (i_ j_ : Int) (data2 : LMv) => run tb (Q101.G N) Q101.A 1 (Q101.fin N) N Q101.k2 (Q101.st2 x.1 x.2.1 x.2.2.1 x.2.2.2.1 i_ j_ data2)) = Q101.l2 N x.1 x.2.1 x.2.2.1 x.2.2.2.1 N := by funext i_ j_ data2; exact (Q101.runs N x.1 x.2.1 x.2.2.1 x.2.2.2.1 N).2.2 i_ j_ data2
 have h' : (Q101.D N).f x = Q101.e N (Q101.l0 N x.1 x.2.1 x.2.2.1 x.2.2.2.1 N) (Q101.l1 N x.1 x.2.1 x.2.2.1 x.2.2.2.1 N) (Q101.l2 N x.1 x.2.1 x.2.2.1 x.2.2.2.1 N) x.1 x.2.1 x.2.2.1 x.2.2.2.1 := by kernel_rfl
 exact (congr (congr (congrArg (fun r0 r1 r2 => Q101.e N r0 r1 r2 x.1 x.2.1 x.2.2.1 x.2.2.2.1) e0) e1) e2).trans (h'.symm.trans h)
def Q102.as : List MK := [.o (.own 41 (.prod tI (.prod tI tI))) true, .d false tI, .d false tI, .d false tI, .f 66]
def Q102.rs : List (Bool × HT) := [(false, (.d tI)), (false, (.d .bool))]
def Q102.lc : List AC := [.own 0]
def Q102.D (N : Nat) : DFn := ⟨Q102.as, Q102.rs, (Int × Bool × LMv), fun x => Q102 N x.1 x.2.1 x.2.2.1 x.2.2.2.1, fun r o => (r.1, r.2.1, o.1), fun b => (b.1, (b.2.1, ())), fun b => (b.2.2, ()), none⟩
theorem Q102.fit (N : Nat) : (Q102.D N).Fit := ⟨fun _ _ => rfl, fun _ _ => rfl, by kernel_rfl, (fun _ _ h => nomatch h), by kernel_rfl⟩
noncomputable def Q102.G (N : Nat) : Gam := gamOf [(66, Q66.D N)]
def Q102.A : Nat → Option LoopAnn := fun k => bif Nat.beq k 0 then some ⟨[0, 1, 4, 12, 13], [], [], [], [], 1, false⟩ else bif Nat.beq k 2 then some ⟨[0, 1, 4, 12, 13], [], [], [], [], 1, false⟩ else bif Nat.beq k 4 then some ⟨[0, 1, 4, 12, 13], [], [], [], [], 1, false⟩ else bif Nat.beq k 6 then some ⟨[0, 1, 4, 12, 13], [], [], [], [], 1, false⟩ else bif Nat.beq k 8 then some ⟨[0, 1, 4, 12, 13], [], [], [], [], 1, false⟩ else none
noncomputable def Q102.fin (N : Nat) : St → Option (Int × Bool × LMv) := resK tb Try.f102.results.toList (decRes (Q102.D N) Q102.lc)
noncomputable def Q102.k0 : List Item := stackAt [.r, .r, .r, .l, .b] (bodyOf Try.f102) []
def Q102.st0 (data : LMv) (a_ b_ pivot i_ : Int) (data2 : LMv) : St := ⟨[.one (.own 0), .one (.int .i64 a_), .one .any, .one .any, .one (.fn 66)] ++ List.replicate 7 (.one .any) ++ [.one (.int .i64 i_), .one (.int .i64 (w64 (b_ - 1)))] ++ List.replicate 164 (.one .any), [.row 41 (.prod tI (.prod tI tI)) data2]⟩
noncomputable def Q102.k1 : List Item := stackAt [.r, .r, .r, .r, .l, .b] (bodyOf Try.f102) []
def Q102.st1 (data : LMv) (a_ b_ pivot i_ j_ : Int) (data2 : LMv) : St := ⟨[.one (.own 0), .one (.int .i64 a_), .one .any, .one .any, .one (.fn 66)] ++ List.replicate 7 (.one .any) ++ [.one (.int .i64 i_), .one (.int .i64 j_)] ++ List.replicate 164 (.one .any), [.row 41 (.prod tI (.prod tI tI)) data2]⟩
noncomputable def Q102.k2 : List Item := stackAt [.r, .r, .r, .r, .r, .r, .r, .r, .r, .l, .b] (bodyOf Try.f102) []
def Q102.st2 (data : LMv) (a_ b_ pivot i_ j_ : Int) (data2 : LMv) : St := ⟨[.one (.own 0), .one (.int .i64 a_), .one .any, .one .any, .one (.fn 66)] ++ List.replicate 7 (.one .any) ++ [.one (.int .i64 i_), .one (.int .i64 j_)] ++ List.replicate 164 (.one .any), [.row 41 (.prod tI (.prod tI tI)) data2]⟩
noncomputable def Q102.k3 : List Item := stackAt [.r, .r, .r, .r, .r, .r, .r, .r, .r, .l, .b, .w, .b, .l, .b] (bodyOf Try.f102) []
def Q102.st3 (data : LMv) (a_ b_ pivot i_ j_ : Int) (data2 : LMv) : St := ⟨[.one (.own 0), .one (.int .i64 a_), .one .any, .one .any, .one (.fn 66)] ++ List.replicate 7 (.one .any) ++ [.one (.int .i64 i_), .one (.int .i64 j_)] ++ List.replicate 164 (.one .any), [.row 41 (.prod tI (.prod tI tI)) data2]⟩
noncomputable def Q102.k4 : List Item := stackAt [.r, .r, .r, .r, .r, .r, .r, .r, .r, .l, .b, .w, .b, .r, .l, .b] (bodyOf Try.f102) []
def Q102.st4 (data : LMv) (a_ b_ pivot i_ j_ : Int) (data2 : LMv) : St := ⟨[.one (.own 0), .one (.int .i64 a_), .one .any, .one .any, .one (.fn 66)] ++ List.replicate 7 (.one .any) ++ [.one (.int .i64 i_), .one (.int .i64 j_)] ++ List.replicate 164 (.one .any), [.row 41 (.prod tI (.prod tI tI)) data2]⟩
theorem Q102.step0 (N : Nat) (rec : List Item → St → Option (Int × Bool × LMv)) (data : LMv) (a_ b_ pivot i_ : Int) (data2 : LMv) : seg tb (Q102.G N) Q102.A 1 rec (Q102.fin N) segFuel (loopBody Q102.k0) (Q102.st0 data a_ b_ pivot i_ data2) = Q102.s0 N data a_ b_ pivot (fun i_ data2 => rec Q102.k0 (Q102.st0 data a_ b_ pivot i_ data2)) (fun i_ j_ data2 => rec Q102.k1 (Q102.st1 data a_ b_ pivot i_ j_ data2)) (fun i_ j_ data2 => rec Q102.k2 (Q102.st2 data a_ b_ pivot i_ j_ data2)) (fun i_ j_ data2 => rec Q102.k3 (Q102.st3 data a_ b_ pivot i_ j_ data2)) (fun i_ j_ data2 => rec Q102.k4 (Q102.st4 data a_ b_ pivot i_ j_ data2)) i_ data2 := by kernel_rfl
theorem Q102.step1 (N : Nat) (rec : List Item → St → Option (Int × Bool × LMv)) (data : LMv) (a_ b_ pivot i_ j_ : Int) (data2 : LMv) : seg tb (Q102.G N) Q102.A 1 rec (Q102.fin N) segFuel (loopBody Q102.k1) (Q102.st1 data a_ b_ pivot i_ j_ data2) = Q102.s1 N data a_ b_ pivot (fun i_ data2 => rec Q102.k0 (Q102.st0 data a_ b_ pivot i_ data2)) (fun i_ j_ data2 => rec Q102.k1 (Q102.st1 data a_ b_ pivot i_ j_ data2)) (fun i_ j_ data2 => rec Q102.k2 (Q102.st2 data a_ b_ pivot i_ j_ data2)) (fun i_ j_ data2 => rec Q102.k3 (Q102.st3 data a_ b_ pivot i_ j_ data2)) (fun i_ j_ data2 => rec Q102.k4 (Q102.st4 data a_ b_ pivot i_ j_ data2)) i_ j_ data2 := by kernel_rfl
theorem Q102.step2 (N : Nat) (rec : List Item → St → Option (Int × Bool × LMv)) (data : LMv) (a_ b_ pivot i_ j_ : Int) (data2 : LMv) : seg tb (Q102.G N) Q102.A 1 rec (Q102.fin N) segFuel (loopBody Q102.k2) (Q102.st2 data a_ b_ pivot i_ j_ data2) = Q102.s2 N data a_ b_ pivot (fun i_ data2 => rec Q102.k0 (Q102.st0 data a_ b_ pivot i_ data2)) (fun i_ j_ data2 => rec Q102.k1 (Q102.st1 data a_ b_ pivot i_ j_ data2)) (fun i_ j_ data2 => rec Q102.k2 (Q102.st2 data a_ b_ pivot i_ j_ data2)) (fun i_ j_ data2 => rec Q102.k3 (Q102.st3 data a_ b_ pivot i_ j_ data2)) (fun i_ j_ data2 => rec Q102.k4 (Q102.st4 data a_ b_ pivot i_ j_ data2)) i_ j_ data2 := by kernel_rfl
theorem Q102.step3 (N : Nat) (rec : List Item → St → Option (Int × Bool × LMv)) (data : LMv) (a_ b_ pivot i_ j_ : Int) (data2 : LMv) : seg tb (Q102.G N) Q102.A 1 rec (Q102.fin N) segFuel (loopBody Q102.k3) (Q102.st3 data a_ b_ pivot i_ j_ data2) = Q102.s3 N data a_ b_ pivot (fun i_ data2 => rec Q102.k0 (Q102.st0 data a_ b_ pivot i_ data2)) (fun i_ j_ data2 => rec Q102.k1 (Q102.st1 data a_ b_ pivot i_ j_ data2)) (fun i_ j_ data2 => rec Q102.k2 (Q102.st2 data a_ b_ pivot i_ j_ data2)) (fun i_ j_ data2 => rec Q102.k3 (Q102.st3 data a_ b_ pivot i_ j_ data2)) (fun i_ j_ data2 => rec Q102.k4 (Q102.st4 data a_ b_ pivot i_ j_ data2)) i_ j_ data2 := by kernel_rfl
theorem Q102.step4 (N : Nat) (rec : List Item → St → Option (Int × Bool × LMv)) (data : LMv) (a_ b_ pivot i_ j_ : Int) (data2 : LMv) : seg tb (Q102.G N) Q102.A 1 rec (Q102.fin N) segFuel (loopBody Q102.k4) (Q102.st4 data a_ b_ pivot i_ j_ data2) = Q102.s4 N data a_ b_ pivot (fun i_ data2 => rec Q102.k0 (Q102.st0 data a_ b_ pivot i_ data2)) (fun i_ j_ data2 => rec Q102.k1 (Q102.st1 data a_ b_ pivot i_ j_ data2)) (fun i_ j_ data2 => rec Q102.k2 (Q102.st2 data a_ b_ pivot i_ j_ data2)) (fun i_ j_ data2 => rec Q102.k3 (Q102.st3 data a_ b_ pivot i_ j_ data2)) (fun i_ j_ data2 => rec Q102.k4 (Q102.st4 data a_ b_ pivot i_ j_ data2)) i_ j_ data2 := by kernel_rfl
theorem Q102.entry (N : Nat) (rec : List Item → St → Option (Int × Bool × LMv)) (x : (argH Q102.as).den) : seg tb (Q102.G N) Q102.A 1 rec (Q102.fin N) segFuel [.code (bodyOf Try.f102)] (initSt Try.f102 (encArgs Q102.as x) (encMem Q102.as x)) = Q102.e N (fun i_ data2 => rec Q102.k0 (Q102.st0 x.1 x.2.1 x.2.2.1 x.2.2.2.1 i_ data2)) (fun i_ j_ data2 => rec Q102.k1 (Q102.st1 x.1 x.2.1 x.2.2.1 x.2.2.2.1 i_ j_ data2)) (fun i_ j_ data2 => rec Q102.k2 (Q102.st2 x.1 x.2.1 x.2.2.1 x.2.2.2.1 i_ j_ data2)) (fun i_ j_ data2 => rec Q102.k3 (Q102.st3 x.1 x.2.1 x.2.2.1 x.2.2.2.1 i_ j_ data2)) (fun i_ j_ data2 => rec Q102.k4 (Q102.st4 x.1 x.2.1 x.2.2.1 x.2.2.2.1 i_ j_ data2)) x.1 x.2.1 x.2.2.1 x.2.2.2.1 := by kernel_rfl
theorem Q102.runs (N : Nat) (data : LMv) (a_ b_ pivot : Int) : ∀ n, (∀ (i_ : Int) (data2 : LMv), run tb (Q102.G N) Q102.A 1 (Q102.fin N) n Q102.k0 (Q102.st0 data a_ b_ pivot i_ data2) = Q102.l0 N data a_ b_ pivot n i_ data2) ∧ (∀ (i_ j_ : Int) (data2 : LMv), run tb (Q102.G N) Q102.A 1 (Q102.fin N) n Q102.k1 (Q102.st1 data a_ b_ pivot i_ j_ data2) = Q102.l1 N data a_ b_ pivot n i_ j_ data2) ∧ (∀ (i_ j_ : Int) (data2 : LMv), run tb (Q102.G N) Q102.A 1 (Q102.fin N) n Q102.k2 (Q102.st2 data a_ b_ pivot i_ j_ data2) = Q102.l2 N data a_ b_ pivot n i_ j_ data2) ∧ (∀ (i_ j_ : Int) (data2 : LMv), run tb (Q102.G N) Q102.A 1 (Q102.fin N) n Q102.k3 (Q102.st3 data a_ b_ pivot i_ j_ data2) = Q102.l3 N data a_ b_ pivot n i_ j_ data2) ∧ (∀ (i_ j_ : Int) (data2 : LMv), run tb (Q102.G N) Q102.A 1 (Q102.fin N) n Q102.k4 (Q102.st4 data a_ b_ pivot i_ j_ data2) = Q102.l4 N data a_ b_ pivot n i_ j_ data2)
 | 0 => ⟨fun _ _ => rfl, fun _ _ _ => rfl, fun _ _ _ => rfl, fun _ _ _ => rfl, fun _ _ _ => rfl⟩
 | n + 1 => by
  obtain ⟨h0, h1, h2, h3, h4⟩ := Q102.runs N data a_ b_ pivot n
  have e0 : (fun (i_ : Int) (data2 : LMv) => run tb (Q102.G N) Q102.A 1 (Q102.fin N) n Q102.k0 (Q102.st0 data a_ b_ pivot i_ data2)) = Q102.l0 N data a_ b_ pivot n := by funext i_ data2; exact h0 i_ data2
  have e1 : (fun (i_ j_ : Int) (data2 : LMv) => run tb (Q102.G N) Q102.A 1 (Q102.fin N) n Q102.k1 (Q102.st1 data a_ b_ pivot i_ j_ data2)) = Q102.l1 N data a_ b_ pivot n := by funext i_ j_ data2; exact h1 i_ j_ data2
  have e2 : (fun (i_ j_ : Int) (data2 : LMv) => run tb (Q102.G N) Q102.A 1 (Q102.fin N) n Q102.k2 (Q102.st2 data a_ b_ pivot i_ j_ data2)) = Q102.l2 N data a_ b_ pivot n := by funext i_ j_ data2; exact h2 i_ j_ data2
  have e3 : (fun (i_ j_ : Int) (data2 : LMv) => run tb (Q102.G N) Q102.A 1 (Q102.fin N) n Q102.k3 (Q102.st3 data a_ b_ pivot i_ j_ data2)) = Q102.l3 N data a_ b_ pivot n := by funext i_ j_ data2; exact h3 i_ j_ data2
  have e4 : (fun (i_ j_ : Int) (data2 : LMv) => run tb (Q102.G N) Q102.A 1 (Q102.fin N) n Q102.k4 (Q102.st4 data a_ b_ pivot i_ j_ data2)) = Q102.l4 N data a_ b_ pivot n := by funext i_ j_ data2; exact h4 i_ j_ data2
  have g0 : (∀ (i_ : Int) (data2 : LMv), run tb (Q102.G N) Q102.A 1 (Q102.fin N) (n + 1) Q102.k0 (Q102.st0 data a_ b_ pivot i_ data2) = Q102.l0 N data a_ b_ pivot (n + 1) i_ data2) := by
   intro i_ data2
   exact (run_succ (by kernel_rfl)).trans ((Q102.step0 N _ data a_ b_ pivot i_ data2).trans ((congr (congr (congr (congr (congrArg (fun r0 r1 r2 r3 r4 => Q102.s0 N data a_ b_ pivot r0 r1 r2 r3 r4 i_ data2) e0) e1) e2) e3) e4).trans (Q102.l0_s N data a_ b_ pivot n i_ data2).symm))
  have g1 : (∀ (i_ j_ : Int) (data2 : LMv), run tb (Q102.G N) Q102.A 1 (Q102.fin N) (n + 1) Q102.k1 (Q102.st1 data a_ b_ pivot i_ j_ data2) = Q102.l1 N data a_ b_ pivot (n + 1) i_ j_ data2) := by
   intro i_ j_ data2
   exact (run_succ (by kernel_rfl)).trans ((Q102.step1 N _ data a_ b_ pivot i_ j_ data2).trans ((congr (congr (congr (congr (congrArg (fun r0 r1 r2 r3 r4 => Q102.s1 N data a_ b_ pivot r0 r1 r2 r3 r4 i_ j_ data2) e0) e1) e2) e3) e4).trans (Q102.l1_s N data a_ b_ pivot n i_ j_ data2).symm))
  have g2 : (∀ (i_ j_ : Int) (data2 : LMv), run tb (Q102.G N) Q102.A 1 (Q102.fin N) (n + 1) Q102.k2 (Q102.st2 data a_ b_ pivot i_ j_ data2) = Q102.l2 N data a_ b_ pivot (n + 1) i_ j_ data2) := by
   intro i_ j_ data2
   exact (run_succ (by kernel_rfl)).trans ((Q102.step2 N _ data a_ b_ pivot i_ j_ data2).trans ((congr (congr (congr (congr (congrArg (fun r0 r1 r2 r3 r4 => Q102.s2 N data a_ b_ pivot r0 r1 r2 r3 r4 i_ j_ data2) e0) e1) e2) e3) e4).trans (Q102.l2_s N data a_ b_ pivot n i_ j_ data2).symm))
  have g3 : (∀ (i_ j_ : Int) (data2 : LMv), run tb (Q102.G N) Q102.A 1 (Q102.fin N) (n + 1) Q102.k3 (Q102.st3 data a_ b_ pivot i_ j_ data2) = Q102.l3 N data a_ b_ pivot (n + 1) i_ j_ data2) := by
   intro i_ j_ data2
   exact (run_succ (by kernel_rfl)).trans ((Q102.step3 N _ data a_ b_ pivot i_ j_ data2).trans ((congr (congr (congr (congr (congrArg (fun r0 r1 r2 r3 r4 => Q102.s3 N data a_ b_ pivot r0 r1 r2 r3 r4 i_ j_ data2) e0) e1) e2) e3) e4).trans (Q102.l3_s N data a_ b_ pivot n i_ j_ data2).symm))
  have g4 : (∀ (i_ j_ : Int) (data2 : LMv), run tb (Q102.G N) Q102.A 1 (Q102.fin N) (n + 1) Q102.k4 (Q102.st4 data a_ b_ pivot i_ j_ data2) = Q102.l4 N data a_ b_ pivot (n + 1) i_ j_ data2) := by
   intro i_ j_ data2
   exact (run_succ (by kernel_rfl)).trans ((Q102.step4 N _ data a_ b_ pivot i_ j_ data2).trans ((congr (congr (congr (congr (congrArg (fun r0 r1 r2 r3 r4 => Q102.s4 N data a_ b_ pivot r0 r1 r2 r3 r4 i_ j_ data2) e0) e1) e2) e3) e4).trans (Q102.l4_s N data a_ b_ pivot n i_ j_ data2).symm))
  exact ⟨g0, g1, g2, g3, g4⟩
theorem Q102.ok (N : Nat) : FnOk Try.prog 102 (Q102.D N) := by
 refine FnOk_of tb_ok (Checked.mixed Try.checked) ⟨Try.f102, Try.func102, by kernel_rfl, by kernel_rfl, fun x y h => ⟨Q102.G N, Q102.A, N, gamOf_ok (by simp only [List.forall_mem_cons, List.not_mem_nil, false_implies, implies_true, and_true]; exact ⟨Q66.ok N, Q66.fit N⟩), ?_⟩⟩ (Q102.fit N)
 rw [absFn_n (n0 := 1) rfl (by kernel_rfl)]
 refine (Q102.entry N (run tb (Q102.G N) Q102.A 1 (Q102.fin N) N) x).trans ?_
 have e0 : (fun (i_ : Int) (data2 : LMv) => run tb (Q102.G N) Q102.A 1 (Q102.fin N) N Q102.k0 (Q102.st0 x.1 x.2.1 x.2.2.1 x.2.2.2.1 i_ data2)) = Q102.l0 N x.1 x.2.1 x.2.2.1 x.2.2.2.1 N := by funext i_ data2; exact (Q102.runs N x.1 x.2.1 x.2.2.1 x.2.2.2.1 N).1 i_ data2
 have e1 : (fun (i_ j_ : Int) (data2 : LMv) => run tb (Q102.G N) Q102.A 1 (Q102.fin N) N Q102.k1 (Q102.st1 x.1 x.2.1 x.2.2.1 x.2.2.2.1 i_ j_ data2)) = Q102.l1 N x.1 x.2.1 x.2.2.1 x.2.2.2.1 N := by funext i_ j_ data2; exact (Q102.runs N x.1 x.2.1 x.2.2.1 x.2.2.2.1 N).2.1 i_ j_ data2
 have e2 : (fun (i_ j_ : Int) (data2 : LMv) => run tb (Q102.G N) Q102.A 1 (Q102.fin N) N Q102.k2 (Q102.st2 x.1 x.2.1 x.2.2.1 x.2.2.2.1 i_ j_ data2)) = Q102.l2 N x.1 x.2.1 x.2.2.1 x.2.2.2.1 N := by funext i_ j_ data2; exact (Q102.runs N x.1 x.2.1 x.2.2.1 x.2.2.2.1 N).2.2.1 i_ j_ data2
 have e3 : (fun (i_ j_ : Int) (data2 : LMv) => run tb (Q102.G N) Q102.A 1 (Q102.fin N) N Q102.k3 (Q102.st3 x.1 x.2.1 x.2.2.1 x.2.2.2.1 i_ j_ data2)) = Q102.l3 N x.1 x.2.1 x.2.2.1 x.2.2.2.1 N := by funext i_ j_ data2; exact (Q102.runs N x.1 x.2.1 x.2.2.1 x.2.2.2.1 N).2.2.2.1 i_ j_ data2
 have e4 : (fun (i_ j_ : Int) (data2 : LMv) => run tb (Q102.G N) Q102.A 1 (Q102.fin N) N Q102.k4 (Q102.st4 x.1 x.2.1 x.2.2.1 x.2.2.2.1 i_ j_ data2)) = Q102.l4 N x.1 x.2.1 x.2.2.1 x.2.2.2.1 N := by funext i_ j_ data2; exact (Q102.runs N x.1 x.2.1 x.2.2.1 x.2.2.2.1 N).2.2.2.2 i_ j_ data2
 have h' : (Q102.D N).f x = Q102.e N (Q102.l0 N x.1 x.2.1 x.2.2.1 x.2.2.2.1 N) (Q102.l1 N x.1 x.2.1 x.2.2.1 x.2.2.2.1 N) (Q102.l2 N x.1 x.2.1 x.2.2.1 x.2.2.2.1 N) (Q102.l3 N x.1 x.2.1 x.2.2.1 x.2.2.2.1 N) (Q102.l4 N x.1 x.2.1 x.2.2.1 x.2.2.2.1 N) x.1 x.2.1 x.2.2.1 x.2.2.2.1 := by kernel_rfl
 exact (congr (congr (congr (congr (congrArg (fun r0 r1 r2 r3 r4 => Q102.e N r0 r1 r2 r3 r4 x.1 x.2.1 x.2.2.1 x.2.2.2.1) e0) e1) e2) e3) e4).trans (h'.symm.trans h)
def Q107.as : List MK := [.d false tI]
def Q107.rs : List (Bool × HT) := [(false, (.d (.int .u64)))]
def Q107.lc : List AC := []
def Q107.D (N : Nat) : DFn := ⟨Q107.as, Q107.rs, Int, fun x => Q107 N x.1, fun r o => r.1, fun b => (b, ()), fun b => (), none⟩
theorem Q107.fit (N : Nat) : (Q107.D N).Fit := ⟨fun _ _ => rfl, fun _ _ => rfl, by kernel_rfl, (fun _ _ h => nomatch h), by kernel_rfl⟩
noncomputable def Q107.G (N : Nat) : Gam := gamOf [(89, Q89.D N)]
def Q107.A : Nat → Option LoopAnn := fun _ => none
noncomputable def Q107.fin (N : Nat) : St → Option Int := resK tb Try.f107.results.toList (decRes (Q107.D N) Q107.lc)
theorem Q107.entry (N : Nat) (rec : List Item → St → Option Int) (x : (argH Q107.as).den) : seg tb (Q107.G N) Q107.A 0 rec (Q107.fin N) segFuel [.code (bodyOf Try.f107)] (initSt Try.f107 (encArgs Q107.as x) (encMem Q107.as x)) = Q107.e N x.1 := by kernel_rfl
theorem Q107.ok (N : Nat) : FnOk Try.prog 107 (Q107.D N) := by
 refine FnOk_of tb_ok (Checked.mixed Try.checked) ⟨Try.f107, Try.func107, by kernel_rfl, by kernel_rfl, fun x y h => ⟨Q107.G N, Q107.A, N, gamOf_ok (by simp only [List.forall_mem_cons, List.not_mem_nil, false_implies, implies_true, and_true]; exact ⟨Q89.ok N, Q89.fit N⟩), ?_⟩⟩ (Q107.fit N)
 rw [absFn_n (n0 := 0) rfl (by kernel_rfl)]
 exact (Q107.entry N _ x).trans h
def Q108.as : List MK := [.o (.ptr 171 (.d (.int .u64))) true]
def Q108.rs : List (Bool × HT) := [(false, (.d (.int .u64)))]
def Q108.lc : List AC := [.ptr 0 0]
def Q108.D (N : Nat) : DFn := ⟨Q108.as, Q108.rs, (Int × Int), fun x => Q108 N x.1, fun r o => (r.1, o.1), fun b => (b.1, ()), fun b => (b.2, ()), none⟩
theorem Q108.fit (N : Nat) : (Q108.D N).Fit := ⟨fun _ _ => rfl, fun _ _ => rfl, by kernel_rfl, (fun _ _ h => nomatch h), by kernel_rfl⟩
noncomputable def Q108.G (N : Nat) : Gam := gamOf []
def Q108.A : Nat → Option LoopAnn := fun _ => none
noncomputable def Q108.fin (N : Nat) : St → Option (Int × Int) := resK tb Try.f108.results.toList (decRes (Q108.D N) Q108.lc)
theorem Q108.entry (N : Nat) (rec : List Item → St → Option (Int × Int)) (x : (argH Q108.as).den) : seg tb (Q108.G N) Q108.A 1 rec (Q108.fin N) segFuel [.code (bodyOf Try.f108)] (initSt Try.f108 (encArgs Q108.as x) (encMem Q108.as x)) = Q108.e N x.1 := by kernel_rfl
theorem Q108.ok (N : Nat) : FnOk Try.prog 108 (Q108.D N) := by
 refine FnOk_of tb_ok (Checked.mixed Try.checked) ⟨Try.f108, Try.func108, by kernel_rfl, by kernel_rfl, fun x y h => ⟨Q108.G N, Q108.A, N, gamOf_ok (fun p hp => nomatch hp), ?_⟩⟩ (Q108.fit N)
 rw [absFn_n (n0 := 1) rfl (by kernel_rfl)]
 exact (Q108.entry N _ x).trans h
def Q97.as : List MK := [.o (.own 41 (.prod tI (.prod tI tI))) true, .d false tI, .d false tI, .f 66]
def Q97.rs : List (Bool × HT) := []
def Q97.lc : List AC := [.own 0]
def Q97.D (N : Nat) : DFn := ⟨Q97.as, Q97.rs, LMv, fun x => Q97 N x.1 x.2.1 x.2.2.1, fun r o => o.1, fun b => (), fun b => (b, ()), none⟩
theorem Q97.fit (N : Nat) : (Q97.D N).Fit := ⟨fun _ _ => rfl, fun _ _ => rfl, by kernel_rfl, (fun _ _ h => nomatch h), by kernel_rfl⟩
noncomputable def Q97.G (N : Nat) : Gam := gamOf [(107, Q107.D N), (108, Q108.D N)]
def Q97.A : Nat → Option LoopAnn := fun k => bif Nat.beq k 0 then some ⟨[0, 1, 8, 9, 10, 11], [], [], [], [], 2, false⟩ else none
noncomputable def Q97.fin (N : Nat) : St → Option LMv := resK tb Try.f97.results.toList (decRes (Q97.D N) Q97.lc)
noncomputable def Q97.k0 : List Item := stackAt [.r, .r, .t, .r, .r, .r, .b] (bodyOf Try.f97) []
def Q97.st0 (data : LMv) (a_ b_ modulus idx : Int) (data2 : LMv) (random : Int) : St := ⟨[.one (.own 0), .one (.int .i64 a_)] ++ List.replicate 6 (.one .any) ++ [.one (.int .i64 (w64 (b_ - a_))), .one (.ptr 1 0), .one (.int .u64 modulus), .one (.int .i64 idx)] ++ List.replicate 55 (.one .any), [.row 41 (.prod tI (.prod tI tI)) data2, .var 171 [.int .u64 random]]⟩
theorem Q97.step0 (N : Nat) (rec : List Item → St → Option LMv) (data : LMv) (a_ b_ modulus idx : Int) (data2 : LMv) (random : Int) : seg tb (Q97.G N) Q97.A 1 rec (Q97.fin N) segFuel (loopBody Q97.k0) (Q97.st0 data a_ b_ modulus idx data2 random) = Q97.s0 N data a_ b_ (fun modulus idx data2 random => rec Q97.k0 (Q97.st0 data a_ b_ modulus idx data2 random)) modulus idx data2 random := by kernel_rfl
theorem Q97.entry (N : Nat) (rec : List Item → St → Option LMv) (x : (argH Q97.as).den) : seg tb (Q97.G N) Q97.A 1 rec (Q97.fin N) segFuel [.code (bodyOf Try.f97)] (initSt Try.f97 (encArgs Q97.as x) (encMem Q97.as x)) = Q97.e N (fun modulus idx data2 random => rec Q97.k0 (Q97.st0 x.1 x.2.1 x.2.2.1 modulus idx data2 random)) x.1 x.2.1 x.2.2.1 := by kernel_rfl
theorem Q97.runs (N : Nat) (data : LMv) (a_ b_ : Int) : ∀ n, (∀ (modulus idx : Int) (data2 : LMv) (random : Int), run tb (Q97.G N) Q97.A 1 (Q97.fin N) n Q97.k0 (Q97.st0 data a_ b_ modulus idx data2 random) = Q97.l0 N data a_ b_ n modulus idx data2 random)
 | 0 => fun _ _ _ _ => rfl
 | n + 1 => by
  have h0 := Q97.runs N data a_ b_ n
  have e0 : (fun (modulus idx : Int) (data2 : LMv) (random : Int) => run tb (Q97.G N) Q97.A 1 (Q97.fin N) n Q97.k0 (Q97.st0 data a_ b_ modulus idx data2 random)) = Q97.l0 N data a_ b_ n := by funext modulus idx data2 random; exact h0 modulus idx data2 random
  have g0 : (∀ (modulus idx : Int) (data2 : LMv) (random : Int), run tb (Q97.G N) Q97.A 1 (Q97.fin N) (n + 1) Q97.k0 (Q97.st0 data a_ b_ modulus idx data2 random) = Q97.l0 N data a_ b_ (n + 1) modulus idx data2 random) := by
   intro modulus idx data2 random
   exact (run_succ (by kernel_rfl)).trans ((Q97.step0 N _ data a_ b_ modulus idx data2 random).trans ((congrArg (fun r0 => Q97.s0 N data a_ b_ r0 modulus idx data2 random) e0).trans (Q97.l0_s N data a_ b_ n modulus idx data2 random).symm))
  exact g0
theorem Q97.ok (N : Nat) : FnOk Try.prog 97 (Q97.D N) := by
 refine FnOk_of tb_ok (Checked.mixed Try.checked) ⟨Try.f97, Try.func97, by kernel_rfl, by kernel_rfl, fun x y h => ⟨Q97.G N, Q97.A, N, gamOf_ok (by simp only [List.forall_mem_cons, List.not_mem_nil, false_implies, implies_true, and_true]; exact ⟨⟨Q107.ok N, Q107.fit N⟩, ⟨Q108.ok N, Q108.fit N⟩⟩), ?_⟩⟩ (Q97.fit N)
 rw [absFn_n (n0 := 1) rfl (by kernel_rfl)]
 refine (Q97.entry N (run tb (Q97.G N) Q97.A 1 (Q97.fin N) N) x).trans ?_
 have e0 : (fun (modulus idx : Int) (data2 : LMv) (random : Int) => run tb (Q97.G N) Q97.A 1 (Q97.fin N) N Q97.k0 (Q97.st0 x.1 x.2.1 x.2.2.1 modulus idx data2 random)) = Q97.l0 N x.1 x.2.1 x.2.2.1 N := by funext modulus idx data2 random; exact (Q97.runs N x.1 x.2.1 x.2.2.1 N) modulus idx data2 random
 have h' : (Q97.D N).f x = Q97.e N (Q97.l0 N x.1 x.2.1 x.2.2.1 N) x.1 x.2.1 x.2.2.1 := by kernel_rfl
 exact (congrArg (fun r0 => Q97.e N r0 x.1 x.2.1 x.2.2.1) e0).trans (h'.symm.trans h)
def Q88.as : List MK := [.o (.own 41 (.prod tI (.prod tI tI))) true, .d false tI, .d false tI, .d false tI, .f 66]
def Q88.rs : List (Bool × HT) := []
def Q88.lc : List AC := [.own 0]
def Q88.D (N : Nat) : DFn := ⟨Q88.as, Q88.rs, LMv, fun x => Q88 N x.1 x.2.1 x.2.2.1 x.2.2.2.1, fun r o => o.1, fun b => (), fun b => (b, ()), none⟩
theorem Q88.fit (N : Nat) : (Q88.D N).Fit := ⟨fun _ _ => rfl, fun _ _ => rfl, by kernel_rfl, (fun _ _ h => nomatch h), by kernel_rfl⟩
noncomputable def Q88.G (N : Nat) : Gam := gamOf [(95, Q95.D N), (96, Q96.D N), (97, Q97.D N), (98, Q98.D N), (99, Q99.D N), (100, Q100.D N), (66, Q66.D N), (101, Q101.D N), (102, Q102.D N), (88, Q88.D N)]
def Q88.A : Nat → Option LoopAnn := fun k => bif Nat.beq k 0 then some ⟨[0, 1, 2, 3, 4, 10, 11], [], [], [], [], 1, false⟩ else none
noncomputable def Q88.fin (N : Nat) : St → Option LMv := resK tb Try.f88.results.toList (decRes (Q88.D (N + 1)) Q88.lc)
noncomputable def Q88.k0 : List Item := stackAt [.r, .r, .b] (bodyOf Try.f88) []
def Q88.st0 (data : LMv) (a_ b_ limit a_2 b_2 limit2 : Int) (wasBalanced wasPartitioned : Bool) (data2 : LMv) : St := ⟨[.one (.own 0), .one (.int .i64 a_2), .one (.int .i64 b_2), .one (.int .i64 limit2), .one (.fn 66)] ++ List.replicate 5 (.one .any) ++ [.one (.bool wasBalanced), .one (.bool wasPartitioned)] ++ List.replicate 136 (.one .any), [.row 41 (.prod tI (.prod tI tI)) data2]⟩
theorem Q88.step0_tt (N : Nat) (rec : List Item → St → Option LMv) (data : LMv) (a_ b_ limit a_2 b_2 limit2 : Int) (data2 : LMv) : seg tb (Q88.G N) Q88.A 1 rec (Q88.fin N) segFuel (loopBody Q88.k0) (Q88.st0 data a_ b_ limit a_2 b_2 limit2 true true data2) = Q88.s0 N (Q88 N) data a_ b_ limit (fun a_2 b_2 limit2 wasBalanced wasPartitioned data2 => rec Q88.k0 (Q88.st0 data a_ b_ limit a_2 b_2 limit2 wasBalanced wasPartitioned data2)) a_2 b_2 limit2 true true data2 := by kernel_rfl
theorem Q88.step0_tf (N : Nat) (rec : List Item → St → Option LMv) (data : LMv) (a_ b_ limit a_2 b_2 limit2 : Int) (data2 : LMv) : seg tb (Q88.G N) Q88.A 1 rec (Q88.fin N) segFuel (loopBody Q88.k0) (Q88.st0 data a_ b_ limit a_2 b_2 limit2 true false data2) = Q88.s0 N (Q88 N) data a_ b_ limit (fun a_2 b_2 limit2 wasBalanced wasPartitioned data2 => rec Q88.k0 (Q88.st0 data a_ b_ limit a_2 b_2 limit2 wasBalanced wasPartitioned data2)) a_2 b_2 limit2 true false data2 := by kernel_rfl
theorem Q88.step0_ft (N : Nat) (rec : List Item → St → Option LMv) (data : LMv) (a_ b_ limit a_2 b_2 limit2 : Int) (data2 : LMv) : seg tb (Q88.G N) Q88.A 1 rec (Q88.fin N) segFuel (loopBody Q88.k0) (Q88.st0 data a_ b_ limit a_2 b_2 limit2 false true data2) = Q88.s0 N (Q88 N) data a_ b_ limit (fun a_2 b_2 limit2 wasBalanced wasPartitioned data2 => rec Q88.k0 (Q88.st0 data a_ b_ limit a_2 b_2 limit2 wasBalanced wasPartitioned data2)) a_2 b_2 limit2 false true data2 := by kernel_rfl
theorem Q88.step0_ff (N : Nat) (rec : List Item → St → Option LMv) (data : LMv) (a_ b_ limit a_2 b_2 limit2 : Int) (data2 : LMv) : seg tb (Q88.G N) Q88.A 1 rec (Q88.fin N) segFuel (loopBody Q88.k0) (Q88.st0 data a_ b_ limit a_2 b_2 limit2 false false data2) = Q88.s0 N (Q88 N) data a_ b_ limit (fun a_2 b_2 limit2 wasBalanced wasPartitioned data2 => rec Q88.k0 (Q88.st0 data a_ b_ limit a_2 b_2 limit2 wasBalanced wasPartitioned data2)) a_2 b_2 limit2 false false data2 := by kernel_rfl
theorem Q88.step0 (N : Nat) (rec : List Item → St → Option LMv) (data : LMv) (a_ b_ limit a_2 b_2 limit2 : Int) (wasBalanced wasPartitioned : Bool) (data2 : LMv) : seg tb (Q88.G N) Q88.A 1 rec (Q88.fin N) segFuel (loopBody Q88.k0) (Q88.st0 data a_ b_ limit a_2 b_2 limit2 wasBalanced wasPartitioned data2) = Q88.s0 N (Q88 N) data a_ b_ limit (fun a_2 b_2 limit2 wasBalanced wasPartitioned data2 => rec Q88.k0 (Q88.st0 data a_ b_ limit a_2 b_2 limit2 wasBalanced wasPartitioned data2)) a_2 b_2 limit2 wasBalanced wasPartitioned data2 := match wasBalanced, wasPartitioned with | true, true => Q88.step0_tt N rec data a_ b_ limit a_2 b_2 limit2 data2 | true, false => Q88.step0_tf N rec data a_ b_ limit a_2 b_2 limit2 data2 | false, true => Q88.step0_ft N rec data a_ b_ limit a_2 b_2 limit2 data2 | false, false => Q88.step0_ff N rec data a_ b_ limit a_2 b_2 limit2 data2
theorem Q88.entry (N : Nat) (rec : List Item → St → Option LMv) (x : (argH Q88.as).den) : seg tb (Q88.G N) Q88.A 1 rec (Q88.fin N) segFuel [.code (bodyOf Try.f88)] (initSt Try.f88 (encArgs Q88.as x) (encMem Q88.as x)) = Q88.e N (Q88 N) (fun a_2 b_2 limit2 wasBalanced wasPartitioned data2 => rec Q88.k0 (Q88.st0 x.1 x.2.1 x.2.2.1 x.2.2.2.1 a_2 b_2 limit2 wasBalanced wasPartitioned data2)) x.1 x.2.1 x.2.2.1 x.2.2.2.1 := by kernel_rfl
theorem Q88.runs (N : Nat) (data : LMv) (a_ b_ limit : Int) : ∀ n, (∀ (a_2 b_2 limit2 : Int) (wasBalanced wasPartitioned : Bool) (data2 : LMv), run tb (Q88.G N) Q88.A 1 (Q88.fin N) n Q88.k0 (Q88.st0 data a_ b_ limit a_2 b_2 limit2 wasBalanced wasPartitioned data2) = Q88.l0 N (Q88 N) data a_ b_ limit n a_2 b_2 limit2 wasBalanced wasPartitioned data2)
 | 0 => fun _ _ _ _ _ _ => rfl
 | n + 1 => by
  have h0 := Q88.runs N data a_ b_ limit n
  have e0 : (fun (a_2 b_2 limit2 : Int) (wasBalanced wasPartitioned : Bool) (data2 : LMv) => run tb (Q88.G N) Q88.A 1 (Q88.fin N) n Q88.k0 (Q88.st0 data a_ b_ limit a_2 b_2 limit2 wasBalanced wasPartitioned data2)) = Q88.l0 N (Q88 N) data a_ b_ limit n := by funext a_2 b_2 limit2 wasBalanced wasPartitioned data2; exact h0 a_2 b_2 limit2 wasBalanced wasPartitioned data2
  have g0 : (∀ (a_2 b_2 limit2 : Int) (wasBalanced wasPartitioned : Bool) (data2 : LMv), run tb (Q88.G N) Q88.A 1 (Q88.fin N) (n + 1) Q88.k0 (Q88.st0 data a_ b_ limit a_2 b_2 limit2 wasBalanced wasPartitioned data2) = Q88.l0 N (Q88 N) data a_ b_ limit (n + 1) a_2 b_2 limit2 wasBalanced wasPartitioned data2) := by
   intro a_2 b_2 limit2 wasBalanced wasPartitioned data2
   exact (run_succ (by kernel_rfl)).trans ((Q88.step0 N _ data a_ b_ limit a_2 b_2 limit2 wasBalanced wasPartitioned data2).trans ((congrArg (fun r0 => Q88.s0 N (Q88 N) data a_ b_ limit r0 a_2 b_2 limit2 wasBalanced wasPartitioned data2) e0).trans (Q88.l0_s N (Q88 N) data a_ b_ limit n a_2 b_2 limit2 wasBalanced wasPartitioned data2).symm))
  exact g0
theorem Q88.ok1 (N : Nat) (ih : FnOk Try.prog 88 (Q88.D N)) : FnOk Try.prog 88 (Q88.D (N + 1)) := by
 refine FnOk_of tb_ok (Checked.mixed Try.checked) ⟨Try.f88, Try.func88, by kernel_rfl, by kernel_rfl, fun x y h => ⟨Q88.G N, Q88.A, N, gamOf_ok (by simp only [List.forall_mem_cons, List.not_mem_nil, false_implies, implies_true, and_true]; exact ⟨⟨Q95.ok N, Q95.fit N⟩, ⟨Q96.ok N, Q96.fit N⟩, ⟨Q97.ok N, Q97.fit N⟩, ⟨Q98.ok N, Q98.fit N⟩, ⟨Q99.ok N, Q99.fit N⟩, ⟨Q100.ok N, Q100.fit N⟩, ⟨Q66.ok N, Q66.fit N⟩, ⟨Q101.ok N, Q101.fit N⟩, ⟨Q102.ok N, Q102.fit N⟩, ⟨ih, Q88.fit N⟩⟩), ?_⟩⟩ (Q88.fit (N + 1))
 rw [absFn_n (n0 := 1) rfl (by kernel_rfl)]
 refine (Q88.entry N (run tb (Q88.G N) Q88.A 1 (Q88.fin N) N) x).trans ?_
 have e0 : (fun (a_2 b_2 limit2 : Int) (wasBalanced wasPartitioned : Bool) (data2 : LMv) => run tb (Q88.G N) Q88.A 1 (Q88.fin N) N Q88.k0 (Q88.st0 x.1 x.2.1 x.2.2.1 x.2.2.2.1 a_2 b_2 limit2 wasBalanced wasPartitioned data2)) = Q88.l0 N (Q88 N) x.1 x.2.1 x.2.2.1 x.2.2.2.1 N := by funext a_2 b_2 limit2 wasBalanced wasPartitioned data2; exact (Q88.runs N x.1 x.2.1 x.2.2.1 x.2.2.2.1 N) a_2 b_2 limit2 wasBalanced wasPartitioned data2
 have h' : (Q88.D (N + 1)).f x = Q88.e N (Q88 N) (Q88.l0 N (Q88 N) x.1 x.2.1 x.2.2.1 x.2.2.2.1 N) x.1 x.2.1 x.2.2.1 x.2.2.2.1 := by kernel_rfl
 exact (congrArg (fun r0 => Q88.e N (Q88 N) r0 x.1 x.2.1 x.2.2.1 x.2.2.2.1) e0).trans (h'.symm.trans h)
theorem Q88.ok : ∀ N, FnOk Try.prog 88 (Q88.D N)
 | 0 => FnOk_none Try.func88 (by kernel_rfl) (by kernel_rfl) (fun x => rfl)
 | N + 1 => Q88.ok1 N (Q88.ok N)
def Q65.as : List MK := [.o (.own 41 (.prod tI (.prod tI tI))) true, .f 66]
def Q65.rs : List (Bool × HT) := []
def Q65.lc : List AC := [.own 0]
def Q65.D (N : Nat) : DFn := ⟨Q65.as, Q65.rs, LMv, fun x => Q65 N x.1, fun r o => o.1, fun b => (), fun b => (b, ()), none⟩
theorem Q65.fit (N : Nat) : (Q65.D N).Fit := ⟨fun _ _ => rfl, fun _ _ => rfl, by kernel_rfl, (fun _ _ h => nomatch h), by kernel_rfl⟩
noncomputable def Q65.G (N : Nat) : Gam := gamOf [(89, Q89.D N), (88, Q88.D N)]
def Q65.A : Nat → Option LoopAnn := fun _ => none
noncomputable def Q65.fin (N : Nat) : St → Option LMv := resK tb Try.f65.results.toList (decRes (Q65.D N) Q65.lc)
theorem Q65.entry (N : Nat) (rec : List Item → St → Option LMv) (x : (argH Q65.as).den) : seg tb (Q65.G N) Q65.A 1 rec (Q65.fin N) segFuel [.code (bodyOf Try.f65)] (initSt Try.f65 (encArgs Q65.as x) (encMem Q65.as x)) = Q65.e N x.1 := by kernel_rfl
theorem Q65.ok (N : Nat) : FnOk Try.prog 65 (Q65.D N) := by
 refine FnOk_of tb_ok (Checked.mixed Try.checked) ⟨Try.f65, Try.func65, by kernel_rfl, by kernel_rfl, fun x y h => ⟨Q65.G N, Q65.A, N, gamOf_ok (by simp only [List.forall_mem_cons, List.not_mem_nil, false_implies, implies_true, and_true]; exact ⟨⟨Q89.ok N, Q89.fit N⟩, ⟨Q88.ok N, Q88.fit N⟩⟩), ?_⟩⟩ (Q65.fit N)
 rw [absFn_n (n0 := 1) rfl (by kernel_rfl)]
 exact (Q65.entry N _ x).trans h
def Q67.as : List MK := [.o (.own 41 (.prod tI (.prod tI tI))) false]
def Q67.rs : List (Bool × HT) := [(false, (.own 41 (.prod tI (.prod tI tI))))]
def Q67.lc : List AC := []
def Q67.D (N : Nat) : DFn := ⟨Q67.as, Q67.rs, LMv, fun x => Q67 N x.1, fun r o => r.1, fun b => (b, ()), fun b => (), none⟩
theorem Q67.fit (N : Nat) : (Q67.D N).Fit := ⟨fun _ _ => rfl, fun _ _ => rfl, by kernel_rfl, (fun _ _ h => nomatch h), by kernel_rfl⟩
noncomputable def Q67.G (N : Nat) : Gam := gamOf []
def Q67.A : Nat → Option LoopAnn := fun k => bif Nat.beq k 0 then some ⟨[0, 3], [], [], [], [], 1, false⟩ else bif Nat.beq k 2 then some ⟨[0, 3, 4, 5], [], [], [], [], 1, false⟩ else none
noncomputable def Q67.fin (N : Nat) : St → Option LMv := resK tb Try.f67.results.toList (decRes (Q67.D N) Q67.lc)
noncomputable def Q67.k0 : List Item := stackAt [.r, .r, .l, .r, .b] (bodyOf Try.f67) []
def Q67.st0 (s_ : LMv) (k_ : Int) : St := ⟨[.one (.own 0), .one .any, .one .any, .one (.int .i64 k_)] ++ List.replicate 57 (.one .any), [.row 41 (.prod tI (.prod tI tI)) s_]⟩
noncomputable def Q67.k1 : List Item := stackAt [.r, .r, .l, .r, .b, .w, .r, .l, .b, .r, .t, .r, .l, .r, .b] (bodyOf Try.f67) []
def Q67.st1 (s_ : LMv) (k_ s2_ k2_ : Int) (s_2 : LMv) : St := ⟨[.one (.own 0), .one .any, .one .any, .one (.int .i64 k_), .one (.vw 0 s2_ 3), .one (.int .i64 k2_)] ++ List.replicate 55 (.one .any), [.row 41 (.prod tI (.prod tI tI)) s_2]⟩
theorem Q67.step0 (N : Nat) (rec : List Item → St → Option LMv) (s_ : LMv) (k_ : Int) : seg tb (Q67.G N) Q67.A 1 rec (Q67.fin N) segFuel (loopBody Q67.k0) (Q67.st0 s_ k_) = Q67.s0 N s_ (fun k_ => rec Q67.k0 (Q67.st0 s_ k_)) (fun k_ s2_ k2_ s_2 => rec Q67.k1 (Q67.st1 s_ k_ s2_ k2_ s_2)) k_ := by kernel_rfl
theorem Q67.step1 (N : Nat) (rec : List Item → St → Option LMv) (s_ : LMv) (k_ s2_ k2_ : Int) (s_2 : LMv) : seg tb (Q67.G N) Q67.A 1 rec (Q67.fin N) segFuel (loopBody Q67.k1) (Q67.st1 s_ k_ s2_ k2_ s_2) = Q67.s1 N s_ (fun k_ => rec Q67.k0 (Q67.st0 s_ k_)) (fun k_ s2_ k2_ s_2 => rec Q67.k1 (Q67.st1 s_ k_ s2_ k2_ s_2)) k_ s2_ k2_ s_2 := by kernel_rfl
theorem Q67.entry (N : Nat) (rec : List Item → St → Option LMv) (x : (argH Q67.as).den) : seg tb (Q67.G N) Q67.A 1 rec (Q67.fin N) segFuel [.code (bodyOf Try.f67)] (initSt Try.f67 (encArgs Q67.as x) (encMem Q67.as x)) = Q67.e N (fun k_ => rec Q67.k0 (Q67.st0 x.1 k_)) (fun k_ s2_ k2_ s_2 => rec Q67.k1 (Q67.st1 x.1 k_ s2_ k2_ s_2)) x.1 := by kernel_rfl
theorem Q67.runs (N : Nat) (s_ : LMv) : ∀ n, (∀ (k_ : Int), run tb (Q67.G N) Q67.A 1 (Q67.fin N) n Q67.k0 (Q67.st0 s_ k_) = Q67.l0 N s_ n k_) ∧ (∀ (k_ s2_ k2_ : Int) (s_2 : LMv), run tb (Q67.G N) Q67.A 1 (Q67.fin N) n Q67.k1 (Q67.st1 s_ k_ s2_ k2_ s_2) = Q67.l1 N s_ n k_ s2_ k2_ s_2)
 | 0 => ⟨fun _ => rfl, fun _ _ _ _ => rfl⟩
 | n + 1 => by
  obtain ⟨h0, h1⟩ := Q67.runs N s_ n
  have e0 : (fun (k_ : Int) => run tb (Q67.G N) Q67.A 1 (Q67.fin N) n Q67.k0 (Q67.st0 s_ k_)) = Q67.l0 N s_ n := by funext k_; exact h0 k_
  have e1 : (fun (k_ s2_ k2_ : Int) (s_2 : LMv) => run tb (Q67.G N) Q67.A 1 (Q67.fin N) n Q67.k1 (Q67.st1 s_ k_ s2_ k2_ s_2)) = Q67.l1 N s_ n := by funext k_ s2_ k2_ s_2; exact h1 k_ s2_ k2_ s_2
  have g0 : (∀ (k_ : Int), run tb (Q67.G N) Q67.A 1 (Q67.fin N) (n + 1) Q67.k0 (Q67.st0 s_ k_) = Q67.l0 N s_ (n + 1) k_) := by
   intro k_
   exact (run_succ (by kernel_rfl)).trans ((Q67.step0 N _ s_ k_).trans ((congr (congrArg (fun r0 r1 => Q67.s0 N s_ r0 r1 k_) e0) e1).trans (Q67.l0_s N s_ n k_).symm))
  have g1 : (∀ (k_ s2_ k2_ : Int) (s_2 : LMv), run tb (Q67.G N) Q67.A 1 (Q67.fin N) (n + 1) Q67.k1 (Q67.st1 s_ k_ s2_ k2_ s_2) = Q67.l1 N s_ (n + 1) k_ s2_ k2_ s_2) := by
   intro k_ s2_ k2_ s_2
   exact (run_succ (by kernel_rfl)).trans ((Q67.step1 N _ s_ k_ s2_ k2_ s_2).trans ((congr (congrArg (fun r0 r1 => Q67.s1 N s_ r0 r1 k_ s2_ k2_ s_2) e0) e1).trans (Q67.l1_s N s_ n k_ s2_ k2_ s_2).symm))
  exact ⟨g0, g1⟩
theorem Q67.ok (N : Nat) : FnOk Try.prog 67 (Q67.D N) := by
 refine FnOk_of tb_ok (Checked.mixed Try.checked) ⟨Try.f67, Try.func67, by kernel_rfl, by kernel_rfl, fun x y h => ⟨Q67.G N, Q67.A, N, gamOf_ok (fun p hp => nomatch hp), ?_⟩⟩ (Q67.fit N)
 rw [absFn_n (n0 := 1) rfl (by kernel_rfl)]
 refine (Q67.entry N (run tb (Q67.G N) Q67.A 1 (Q67.fin N) N) x).trans ?_
 have e0 : (fun (k_ : Int) => run tb (Q67.G N) Q67.A 1 (Q67.fin N) N Q67.k0 (Q67.st0 x.1 k_)) = Q67.l0 N x.1 N := by funext k_; exact (Q67.runs N x.1 N).1 k_
 have e1 : (fun (k_ s2_ k2_ : Int) (s_2 : LMv) => run tb (Q67.G N) Q67.A 1 (Q67.fin N) N Q67.k1 (Q67.st1 x.1 k_ s2_ k2_ s_2)) = Q67.l1 N x.1 N := by funext k_ s2_ k2_ s_2; exact (Q67.runs N x.1 N).2 k_ s2_ k2_ s_2
 have h' : (Q67.D N).f x = Q67.e N (Q67.l0 N x.1 N) (Q67.l1 N x.1 N) x.1 := by kernel_rfl
 exact (congr (congrArg (fun r0 r1 => Q67.e N r0 r1 x.1) e0) e1).trans (h'.symm.trans h)
def Q87.as : List MK := [.d true (.prod .str (.prod tI (.prod tI (.prod (.slice 107 (.prod (.int .u8) (.prod tI (.prod tI (.slice 127 (.prod tI (.prod tI (.prod tI tI)))))))) (.prod (.slice 3 tI) (.prod .bool (.prod .bool (.prod (.slice 109 (.prod tI (.prod tI (.prod tI .bool)))) (.prod tI (.prod tI tI)))))))))), .d false tI, .d false tI, .d false tI]
def Q87.rs : List (Bool × HT) := [(false, (.d tI))]
def Q87.lc : List AC := []
def Q87.D (N : Nat) : DFn := ⟨Q87.as, Q87.rs, Int, fun x => Q87 N x.1 x.2.1 x.2.2.1 x.2.2.2.1, fun r o => r.1, fun b => (b, ()), fun b => (), none⟩
theorem Q87.fit (N : Nat) : (Q87.D N).Fit := ⟨fun _ _ => rfl, fun _ _ => rfl, by kernel_rfl, (fun _ _ h => nomatch h), by kernel_rfl⟩
noncomputable def Q87.G (N : Nat) : Gam := gamOf [(93, Q93.D N)]
def Q87.A : Nat → Option LoopAnn := fun _ => none
noncomputable def Q87.fin (N : Nat) : St → Option Int := resK tb Try.f87.results.toList (decRes (Q87.D N) Q87.lc)
theorem Q87.entry (N : Nat) (rec : List Item → St → Option Int) (x : (argH Q87.as).den) : seg tb (Q87.G N) Q87.A 0 rec (Q87.fin N) segFuel [.code (bodyOf Try.f87)] (initSt Try.f87 (encArgs Q87.as x) (encMem Q87.as x)) = Q87.e N x.1 x.2.1 x.2.2.1 x.2.2.2.1 := by kernel_rfl
theorem Q87.ok (N : Nat) : FnOk Try.prog 87 (Q87.D N) := by
 refine FnOk_of tb_ok (Checked.mixed Try.checked) ⟨Try.f87, Try.func87, by kernel_rfl, by kernel_rfl, fun x y h => ⟨Q87.G N, Q87.A, N, gamOf_ok (by simp only [List.forall_mem_cons, List.not_mem_nil, false_implies, implies_true, and_true]; exact ⟨Q93.ok N, Q93.fit N⟩), ?_⟩⟩ (Q87.fit N)
 rw [absFn_n (n0 := 0) rfl (by kernel_rfl)]
 exact (Q87.entry N _ x).trans h
def Q64.as : List MK := [.o (.own 41 (.prod tI (.prod tI tI))) false, .d true (.prod .str (.prod tI (.prod tI (.prod (.slice 107 (.prod (.int .u8) (.prod tI (.prod tI (.slice 127 (.prod tI (.prod tI (.prod tI tI)))))))) (.prod (.slice 3 tI) (.prod .bool (.prod .bool (.prod (.slice 109 (.prod tI (.prod tI (.prod tI .bool)))) (.prod tI (.prod tI tI)))))))))), .d true (.prod (.slice 3 tI) (.prod (.prod (.slice 3 tI) (.slice 3 tI)) (.prod tI tI))), .d false tI, .d true (.prod tI (.prod tI (.prod tI tI)))]
def Q64.rs : List (Bool × HT) := [(false, (.own 41 (.prod tI (.prod tI tI))))]
def Q64.lc : List AC := []
def Q64.D (N : Nat) : DFn := ⟨Q64.as, Q64.rs, LMv, fun x => Q64 N x.1 x.2.1 x.2.2.1 x.2.2.2.1 x.2.2.2.2.1, fun r o => r.1, fun b => (b, ()), fun b => (), none⟩
theorem Q64.fit (N : Nat) : (Q64.D N).Fit := ⟨fun _ _ => rfl, fun _ _ => rfl, by kernel_rfl, (fun _ _ h => nomatch h), by kernel_rfl⟩
noncomputable def Q64.G (N : Nat) : Gam := gamOf [(63, Q63.D N), (62, Q62.D N), (87, Q87.D N)]
def Q64.A : Nat → Option LoopAnn := fun k => bif Nat.beq k 0 then some ⟨[0, 3, 6, 7, 9, 11, 12, 13, 14, 39, 40], [], [], [(false, 0, 0, 4)], [], 5, false⟩ else none
noncomputable def Q64.fin (N : Nat) : St → Option LMv := resK tb Try.f64.results.toList (decRes (Q64.D N) Q64.lc)
noncomputable def Q64.k0 : List Item := stackAt [.r, .r, .r, .r, .r, .l, .r, .b] (bodyOf Try.f64) []
def Q64.st0 (out : LMv) (r_ : TRules) (p_ : TPos) (from_ : Int) (w_ : TWay) (kind dy x_ y_ t40_ : Int) (out2 : LMv) : St := ⟨[.one (.own 4), .one .any, .one .any, .one (.int .i64 from_), .one .any, .one .any, .one (.ptr 1 0), .one (.ptr 2 0), .one .any, .one (.ptr 3 0), .one .any, .one (.int .i64 kind), .one (.int .i64 dy), .one (.int .i64 x_), .one (.int .i64 y_)] ++ List.replicate 24 (.one .any) ++ [.one (.int .i64 w_.2.2.1), .one (.int .i64 t40_)] ++ List.replicate 75 (.one .any), [.gone, .var 26 [.str r_.1, .int .i64 r_.2.1, .int .i64 r_.2.2.1, .fro 107 (.prod (.int .u8) (.prod tI (.prod tI (.slice 127 (.prod tI (.prod tI (.prod tI tI))))))) r_.2.2.2.1, .fro 3 tI r_.2.2.2.2.1, .bool r_.2.2.2.2.2.1, .bool r_.2.2.2.2.2.2.1, .fro 109 (.prod tI (.prod tI (.prod tI .bool))) r_.2.2.2.2.2.2.2.1, .int .i64 r_.2.2.2.2.2.2.2.2.1, .int .i64 r_.2.2.2.2.2.2.2.2.2.1, .int .i64 r_.2.2.2.2.2.2.2.2.2.2], .var 29 [.fro 3 tI p_.1, .fro 3 tI p_.2.1.1, .fro 3 tI p_.2.1.2, .int .i64 p_.2.2.1, .int .i64 p_.2.2.2], .var 127 [.int .i64 w_.1, .int .i64 w_.2.1, .int .i64 w_.2.2.1, .int .i64 w_.2.2.2], .row 41 (.prod tI (.prod tI tI)) out2]⟩
theorem Q64.step0 (N : Nat) (rec : List Item → St → Option LMv) (out : LMv) (r_ : TRules) (p_ : TPos) (from_ : Int) (w_ : TWay) (kind dy x_ y_ t40_ : Int) (out2 : LMv) : seg tb (Q64.G N) Q64.A 1 rec (Q64.fin N) segFuel (loopBody Q64.k0) (Q64.st0 out r_ p_ from_ w_ kind dy x_ y_ t40_ out2) = Q64.s0 N out r_ p_ from_ w_ (fun kind dy x_ y_ t40_ out2 => rec Q64.k0 (Q64.st0 out r_ p_ from_ w_ kind dy x_ y_ t40_ out2)) kind dy x_ y_ t40_ out2 := by kernel_rfl
theorem Q64.entry (N : Nat) (rec : List Item → St → Option LMv) (x : (argH Q64.as).den) : seg tb (Q64.G N) Q64.A 1 rec (Q64.fin N) segFuel [.code (bodyOf Try.f64)] (initSt Try.f64 (encArgs Q64.as x) (encMem Q64.as x)) = Q64.e N (fun kind dy x_ y_ t40_ out2 => rec Q64.k0 (Q64.st0 x.1 x.2.1 x.2.2.1 x.2.2.2.1 x.2.2.2.2.1 kind dy x_ y_ t40_ out2)) x.1 x.2.1 x.2.2.1 x.2.2.2.1 x.2.2.2.2.1 := by kernel_rfl
theorem Q64.runs (N : Nat) (out : LMv) (r_ : TRules) (p_ : TPos) (from_ : Int) (w_ : TWay) : ∀ n, (∀ (kind dy x_ y_ t40_ : Int) (out2 : LMv), run tb (Q64.G N) Q64.A 1 (Q64.fin N) n Q64.k0 (Q64.st0 out r_ p_ from_ w_ kind dy x_ y_ t40_ out2) = Q64.l0 N out r_ p_ from_ w_ n kind dy x_ y_ t40_ out2)
 | 0 => fun _ _ _ _ _ _ => rfl
 | n + 1 => by
  have h0 := Q64.runs N out r_ p_ from_ w_ n
  have e0 : (fun (kind dy x_ y_ t40_ : Int) (out2 : LMv) => run tb (Q64.G N) Q64.A 1 (Q64.fin N) n Q64.k0 (Q64.st0 out r_ p_ from_ w_ kind dy x_ y_ t40_ out2)) = Q64.l0 N out r_ p_ from_ w_ n := by funext kind dy x_ y_ t40_ out2; exact h0 kind dy x_ y_ t40_ out2
  have g0 : (∀ (kind dy x_ y_ t40_ : Int) (out2 : LMv), run tb (Q64.G N) Q64.A 1 (Q64.fin N) (n + 1) Q64.k0 (Q64.st0 out r_ p_ from_ w_ kind dy x_ y_ t40_ out2) = Q64.l0 N out r_ p_ from_ w_ (n + 1) kind dy x_ y_ t40_ out2) := by
   intro kind dy x_ y_ t40_ out2
   exact (run_succ (by kernel_rfl)).trans ((Q64.step0 N _ out r_ p_ from_ w_ kind dy x_ y_ t40_ out2).trans ((congrArg (fun r0 => Q64.s0 N out r_ p_ from_ w_ r0 kind dy x_ y_ t40_ out2) e0).trans (Q64.l0_s N out r_ p_ from_ w_ n kind dy x_ y_ t40_ out2).symm))
  exact g0
theorem Q64.ok (N : Nat) : FnOk Try.prog 64 (Q64.D N) := by
 refine FnOk_of tb_ok (Checked.mixed Try.checked) ⟨Try.f64, Try.func64, by kernel_rfl, by kernel_rfl, fun x y h => ⟨Q64.G N, Q64.A, N, gamOf_ok (by simp only [List.forall_mem_cons, List.not_mem_nil, false_implies, implies_true, and_true]; exact ⟨⟨Q63.ok N, Q63.fit N⟩, ⟨Q62.ok N, Q62.fit N⟩, ⟨Q87.ok N, Q87.fit N⟩⟩), ?_⟩⟩ (Q64.fit N)
 rw [absFn_n (n0 := 1) rfl (by kernel_rfl)]
 refine (Q64.entry N (run tb (Q64.G N) Q64.A 1 (Q64.fin N) N) x).trans ?_
 have e0 : (fun (kind dy x_ y_ t40_ : Int) (out2 : LMv) => run tb (Q64.G N) Q64.A 1 (Q64.fin N) N Q64.k0 (Q64.st0 x.1 x.2.1 x.2.2.1 x.2.2.2.1 x.2.2.2.2.1 kind dy x_ y_ t40_ out2)) = Q64.l0 N x.1 x.2.1 x.2.2.1 x.2.2.2.1 x.2.2.2.2.1 N := by funext kind dy x_ y_ t40_ out2; exact (Q64.runs N x.1 x.2.1 x.2.2.1 x.2.2.2.1 x.2.2.2.2.1 N) kind dy x_ y_ t40_ out2
 have h' : (Q64.D N).f x = Q64.e N (Q64.l0 N x.1 x.2.1 x.2.2.1 x.2.2.2.1 x.2.2.2.2.1 N) x.1 x.2.1 x.2.2.1 x.2.2.2.1 x.2.2.2.2.1 := by kernel_rfl
 exact (congrArg (fun r0 => Q64.e N r0 x.1 x.2.1 x.2.2.1 x.2.2.2.1 x.2.2.2.2.1) e0).trans (h'.symm.trans h)
def Q61.as : List MK := [.d true (.prod .str (.prod tI (.prod tI (.prod (.slice 107 (.prod (.int .u8) (.prod tI (.prod tI (.slice 127 (.prod tI (.prod tI (.prod tI tI)))))))) (.prod (.slice 3 tI) (.prod .bool (.prod .bool (.prod (.slice 109 (.prod tI (.prod tI (.prod tI .bool)))) (.prod tI (.prod tI tI)))))))))), .d true (.prod (.slice 3 tI) (.prod (.prod (.slice 3 tI) (.slice 3 tI)) (.prod tI tI))), .d false tI]
def Q61.rs : List (Bool × HT) := [(false, (.d .bool))]
def Q61.lc : List AC := []
def Q61.D (N : Nat) : DFn := ⟨Q61.as, Q61.rs, Bool, fun x => Q61 N x.1 x.2.1 x.2.2.1, fun r o => r.1, fun b => (b, ()), fun b => (), none⟩
theorem Q61.fit (N : Nat) : (Q61.D N).Fit := ⟨fun _ _ => rfl, fun _ _ => rfl, by kernel_rfl, (fun _ _ h => nomatch h), by kernel_rfl⟩
noncomputable def Q61.G (N : Nat) : Gam := gamOf []
def Q61.A : Nat → Option LoopAnn := fun k => bif Nat.beq k 0 then some ⟨[3, 4, 7], [], [], [], [], 2, false⟩ else none
noncomputable def Q61.fin (N : Nat) : St → Option Bool := resK tb Try.f61.results.toList (decRes (Q61.D N) Q61.lc)
noncomputable def Q61.k0 : List Item := stackAt [.r, .r, .l, .r, .t, .r, .b] (bodyOf Try.f61) []
def Q61.st0 (r_ : TRules) (p_ : TPos) (s_ low : Int) : St := ⟨List.replicate 3 (.one .any) ++ [.one (.ptr 0 0), .one (.ptr 1 0), .one .any, .one .any, .one (.int .i64 low)] ++ List.replicate 24 (.one .any), [.var 26 [.str r_.1, .int .i64 r_.2.1, .int .i64 r_.2.2.1, .fro 107 (.prod (.int .u8) (.prod tI (.prod tI (.slice 127 (.prod tI (.prod tI (.prod tI tI))))))) r_.2.2.2.1, .fro 3 tI r_.2.2.2.2.1, .bool r_.2.2.2.2.2.1, .bool r_.2.2.2.2.2.2.1, .fro 109 (.prod tI (.prod tI (.prod tI .bool))) r_.2.2.2.2.2.2.2.1, .int .i64 r_.2.2.2.2.2.2.2.2.1, .int .i64 r_.2.2.2.2.2.2.2.2.2.1, .int .i64 r_.2.2.2.2.2.2.2.2.2.2], .var 29 [.fro 3 tI p_.1, .fro 3 tI p_.2.1.1, .fro 3 tI p_.2.1.2, .int .i64 p_.2.2.1, .int .i64 p_.2.2.2]]⟩
theorem Q61.step0 (N : Nat) (rec : List Item → St → Option Bool) (r_ : TRules) (p_ : TPos) (s_ low : Int) : seg tb (Q61.G N) Q61.A 0 rec (Q61.fin N) segFuel (loopBody Q61.k0) (Q61.st0 r_ p_ s_ low) = Q61.s0 N r_ p_ s_ (fun low => rec Q61.k0 (Q61.st0 r_ p_ s_ low)) low := by kernel_rfl
theorem Q61.entry (N : Nat) (rec : List Item → St → Option Bool) (x : (argH Q61.as).den) : seg tb (Q61.G N) Q61.A 0 rec (Q61.fin N) segFuel [.code (bodyOf Try.f61)] (initSt Try.f61 (encArgs Q61.as x) (encMem Q61.as x)) = Q61.e N (fun low => rec Q61.k0 (Q61.st0 x.1 x.2.1 x.2.2.1 low)) x.1 x.2.1 x.2.2.1 := by kernel_rfl
theorem Q61.runs (N : Nat) (r_ : TRules) (p_ : TPos) (s_ : Int) : ∀ n, (∀ (low : Int), run tb (Q61.G N) Q61.A 0 (Q61.fin N) n Q61.k0 (Q61.st0 r_ p_ s_ low) = Q61.l0 N r_ p_ s_ n low)
 | 0 => fun _ => rfl
 | n + 1 => by
  have h0 := Q61.runs N r_ p_ s_ n
  have e0 : (fun (low : Int) => run tb (Q61.G N) Q61.A 0 (Q61.fin N) n Q61.k0 (Q61.st0 r_ p_ s_ low)) = Q61.l0 N r_ p_ s_ n := by funext low; exact h0 low
  have g0 : (∀ (low : Int), run tb (Q61.G N) Q61.A 0 (Q61.fin N) (n + 1) Q61.k0 (Q61.st0 r_ p_ s_ low) = Q61.l0 N r_ p_ s_ (n + 1) low) := by
   intro low
   exact (run_succ (by kernel_rfl)).trans ((Q61.step0 N _ r_ p_ s_ low).trans ((congrArg (fun r0 => Q61.s0 N r_ p_ s_ r0 low) e0).trans (Q61.l0_s N r_ p_ s_ n low).symm))
  exact g0
theorem Q61.ok (N : Nat) : FnOk Try.prog 61 (Q61.D N) := by
 refine FnOk_of tb_ok (Checked.mixed Try.checked) ⟨Try.f61, Try.func61, by kernel_rfl, by kernel_rfl, fun x y h => ⟨Q61.G N, Q61.A, N, gamOf_ok (fun p hp => nomatch hp), ?_⟩⟩ (Q61.fit N)
 rw [absFn_n (n0 := 0) rfl (by kernel_rfl)]
 refine (Q61.entry N (run tb (Q61.G N) Q61.A 0 (Q61.fin N) N) x).trans ?_
 have e0 : (fun (low : Int) => run tb (Q61.G N) Q61.A 0 (Q61.fin N) N Q61.k0 (Q61.st0 x.1 x.2.1 x.2.2.1 low)) = Q61.l0 N x.1 x.2.1 x.2.2.1 N := by funext low; exact (Q61.runs N x.1 x.2.1 x.2.2.1 N) low
 have h' : (Q61.D N).f x = Q61.e N (Q61.l0 N x.1 x.2.1 x.2.2.1 N) x.1 x.2.1 x.2.2.1 := by kernel_rfl
 exact (congrArg (fun r0 => Q61.e N r0 x.1 x.2.1 x.2.2.1) e0).trans (h'.symm.trans h)
def Q38.as : List MK := [.d true (.prod .str (.prod tI (.prod tI (.prod (.slice 107 (.prod (.int .u8) (.prod tI (.prod tI (.slice 127 (.prod tI (.prod tI (.prod tI tI)))))))) (.prod (.slice 3 tI) (.prod .bool (.prod .bool (.prod (.slice 109 (.prod tI (.prod tI (.prod tI .bool)))) (.prod tI (.prod tI tI)))))))))), .d true (.prod (.slice 3 tI) (.prod (.prod (.slice 3 tI) (.slice 3 tI)) (.prod tI tI)))]
def Q38.rs : List (Bool × HT) := [(false, (.own 41 (.prod tI (.prod tI tI))))]
def Q38.lc : List AC := []
def Q38.D (N : Nat) : DFn := ⟨Q38.as, Q38.rs, LMv, fun x => Q38 N x.1 x.2.1, fun r o => r.1, fun b => (b, ()), fun b => (), none⟩
theorem Q38.fit (N : Nat) : (Q38.D N).Fit := ⟨fun _ _ => rfl, fun _ _ => rfl, by kernel_rfl, (fun _ _ h => nomatch h), by kernel_rfl⟩
noncomputable def Q38.G (N : Nat) : Gam := gamOf [(62, Q62.D N), (63, Q63.D N), (65, Q65.D N), (67, Q67.D N), (64, Q64.D N), (61, Q61.D N)]
def Q38.A : Nat → Option LoopAnn := fun k => bif Nat.beq k 0 then some ⟨[2, 3, 5, 17, 18, 19], [(5, 41)], [], [], [], 3, false⟩ else bif Nat.beq k 2 then some ⟨[2, 3, 5, 6, 7, 17, 18, 19, 26, 27], [], [], [(false, 5, 0, 2)], [], 3, false⟩ else bif Nat.beq k 4 then some ⟨[2, 3, 5, 47, 48, 49], [], [], [], [], 3, false⟩ else bif Nat.beq k 6 then some ⟨[2, 3, 5, 9, 47, 48, 49, 65, 66, 67], [], [], [(false, 5, 0, 2)], [], 3, false⟩ else none
noncomputable def Q38.fin (N : Nat) : St → Option LMv := resK tb Try.f38.results.toList (decRes (Q38.D N) Q38.lc)
noncomputable def Q38.k0 : List Item := stackAt [.r, .r, .l, .r, .b] (bodyOf Try.f38) []
def Q38.st0 (r_ : TRules) (p_ : TPos) (t17_ : LInt) (t18_ t19_ : Int) (out : LMv) : St := ⟨[.one .any, .one .any, .one (.ptr 0 0), .one (.ptr 1 0), .one .any, .one (.own 2)] ++ List.replicate 11 (.one .any) ++ [.one (.fro 3 tI t17_), .one (.int .i64 t18_), .one (.int .i64 t19_)] ++ List.replicate 63 (.one .any), [.var 26 [.str r_.1, .int .i64 r_.2.1, .int .i64 r_.2.2.1, .fro 107 (.prod (.int .u8) (.prod tI (.prod tI (.slice 127 (.prod tI (.prod tI (.prod tI tI))))))) r_.2.2.2.1, .fro 3 tI r_.2.2.2.2.1, .bool r_.2.2.2.2.2.1, .bool r_.2.2.2.2.2.2.1, .fro 109 (.prod tI (.prod tI (.prod tI .bool))) r_.2.2.2.2.2.2.2.1, .int .i64 r_.2.2.2.2.2.2.2.2.1, .int .i64 r_.2.2.2.2.2.2.2.2.2.1, .int .i64 r_.2.2.2.2.2.2.2.2.2.2], .var 29 [.fro 3 tI p_.1, .fro 3 tI p_.2.1.1, .fro 3 tI p_.2.1.2, .int .i64 p_.2.2.1, .int .i64 p_.2.2.2], .row 41 (.prod tI (.prod tI tI)) out]⟩
noncomputable def Q38.k1 : List Item := stackAt [.r, .r, .l, .r, .b, .w, .r, .r, .l, .b, .r, .r, .b] (bodyOf Try.f38) []
def Q38.st1 (r_ : TRules) (p_ : TPos) (t_ n_ : Int) (t17_ : LInt) (t18_ t19_ t27_ : Int) (out : LMv) : St := ⟨[.one .any, .one .any, .one (.ptr 0 0), .one (.ptr 1 0), .one .any, .one (.own 2), .one (.int .i64 t_), .one (.int .i64 n_)] ++ List.replicate 9 (.one .any) ++ [.one (.fro 3 tI t17_), .one (.int .i64 t18_), .one (.int .i64 t19_)] ++ List.replicate 6 (.one .any) ++ [.one (.int .i64 (p_.1.length : Int)), .one (.int .i64 t27_)] ++ List.replicate 55 (.one .any), [.var 26 [.str r_.1, .int .i64 r_.2.1, .int .i64 r_.2.2.1, .fro 107 (.prod (.int .u8) (.prod tI (.prod tI (.slice 127 (.prod tI (.prod tI (.prod tI tI))))))) r_.2.2.2.1, .fro 3 tI r_.2.2.2.2.1, .bool r_.2.2.2.2.2.1, .bool r_.2.2.2.2.2.2.1, .fro 109 (.prod tI (.prod tI (.prod tI .bool))) r_.2.2.2.2.2.2.2.1, .int .i64 r_.2.2.2.2.2.2.2.2.1, .int .i64 r_.2.2.2.2.2.2.2.2.2.1, .int .i64 r_.2.2.2.2.2.2.2.2.2.2], .var 29 [.fro 3 tI p_.1, .fro 3 tI p_.2.1.1, .fro 3 tI p_.2.1.2, .int .i64 p_.2.2.1, .int .i64 p_.2.2.2], .row 41 (.prod tI (.prod tI tI)) out]⟩
noncomputable def Q38.k2 : List Item := stackAt [.r, .r, .r, .l, .r, .b] (bodyOf Try.f38) []
def Q38.st2 (r_ : TRules) (p_ : TPos) (t49_ : Int) (out : LMv) : St := ⟨[.one .any, .one .any, .one (.ptr 0 0), .one (.ptr 1 0), .one .any, .one (.own 2)] ++ List.replicate 41 (.one .any) ++ [.one (.fro 3 tI p_.1), .one (.int .i64 (p_.1.length : Int)), .one (.int .i64 t49_)] ++ List.replicate 33 (.one .any), [.var 26 [.str r_.1, .int .i64 r_.2.1, .int .i64 r_.2.2.1, .fro 107 (.prod (.int .u8) (.prod tI (.prod tI (.slice 127 (.prod tI (.prod tI (.prod tI tI))))))) r_.2.2.2.1, .fro 3 tI r_.2.2.2.2.1, .bool r_.2.2.2.2.2.1, .bool r_.2.2.2.2.2.2.1, .fro 109 (.prod tI (.prod tI (.prod tI .bool))) r_.2.2.2.2.2.2.2.1, .int .i64 r_.2.2.2.2.2.2.2.2.1, .int .i64 r_.2.2.2.2.2.2.2.2.2.1, .int .i64 r_.2.2.2.2.2.2.2.2.2.2], .var 29 [.fro 3 tI p_.1, .fro 3 tI p_.2.1.1, .fro 3 tI p_.2.1.2, .int .i64 p_.2.2.1, .int .i64 p_.2.2.2], .row 41 (.prod tI (.prod tI tI)) out]⟩
noncomputable def Q38.k3 : List Item := stackAt [.r, .r, .r, .l, .r, .b, .w, .r, .r, .l, .b, .r, .r, .t, .r, .b] (bodyOf Try.f38) []
def Q38.st3 (r_ : TRules) (p_ : TPos) (s_ t49_ : Int) (t65_ : (List TWay)) (t66_ t67_ : Int) (out : LMv) : St := ⟨[.one .any, .one .any, .one (.ptr 0 0), .one (.ptr 1 0), .one .any, .one (.own 2)] ++ List.replicate 3 (.one .any) ++ [.one (.int .i64 s_)] ++ List.replicate 37 (.one .any) ++ [.one (.fro 3 tI p_.1), .one (.int .i64 (p_.1.length : Int)), .one (.int .i64 t49_)] ++ List.replicate 15 (.one .any) ++ [.one (.fro 127 (.prod tI (.prod tI (.prod tI tI))) t65_), .one (.int .i64 t66_), .one (.int .i64 t67_)] ++ List.replicate 15 (.one .any), [.var 26 [.str r_.1, .int .i64 r_.2.1, .int .i64 r_.2.2.1, .fro 107 (.prod (.int .u8) (.prod tI (.prod tI (.slice 127 (.prod tI (.prod tI (.prod tI tI))))))) r_.2.2.2.1, .fro 3 tI r_.2.2.2.2.1, .bool r_.2.2.2.2.2.1, .bool r_.2.2.2.2.2.2.1, .fro 109 (.prod tI (.prod tI (.prod tI .bool))) r_.2.2.2.2.2.2.2.1, .int .i64 r_.2.2.2.2.2.2.2.2.1, .int .i64 r_.2.2.2.2.2.2.2.2.2.1, .int .i64 r_.2.2.2.2.2.2.2.2.2.2], .var 29 [.fro 3 tI p_.1, .fro 3 tI p_.2.1.1, .fro 3 tI p_.2.1.2, .int .i64 p_.2.2.1, .int .i64 p_.2.2.2], .row 41 (.prod tI (.prod tI tI)) out]⟩
theorem Q38.step0 (N : Nat) (rec : List Item → St → Option LMv) (r_ : TRules) (p_ : TPos) (t17_ : LInt) (t18_ t19_ : Int) (out : LMv) : seg tb (Q38.G N) Q38.A 0 rec (Q38.fin N) segFuel (loopBody Q38.k0) (Q38.st0 r_ p_ t17_ t18_ t19_ out) = Q38.s0 N r_ p_ (fun t17_ t18_ t19_ out => rec Q38.k0 (Q38.st0 r_ p_ t17_ t18_ t19_ out)) (fun t_ n_ t17_ t18_ t19_ t27_ out => rec Q38.k1 (Q38.st1 r_ p_ t_ n_ t17_ t18_ t19_ t27_ out)) (fun t49_ out => rec Q38.k2 (Q38.st2 r_ p_ t49_ out)) (fun s_ t49_ t65_ t66_ t67_ out => rec Q38.k3 (Q38.st3 r_ p_ s_ t49_ t65_ t66_ t67_ out)) t17_ t18_ t19_ out := by kernel_rfl
theorem Q38.step1 (N : Nat) (rec : List Item → St → Option LMv) (r_ : TRules) (p_ : TPos) (t_ n_ : Int) (t17_ : LInt) (t18_ t19_ t27_ : Int) (out : LMv) : seg tb (Q38.G N) Q38.A 0 rec (Q38.fin N) segFuel (loopBody Q38.k1) (Q38.st1 r_ p_ t_ n_ t17_ t18_ t19_ t27_ out) = Q38.s1 N r_ p_ (fun t17_ t18_ t19_ out => rec Q38.k0 (Q38.st0 r_ p_ t17_ t18_ t19_ out)) (fun t_ n_ t17_ t18_ t19_ t27_ out => rec Q38.k1 (Q38.st1 r_ p_ t_ n_ t17_ t18_ t19_ t27_ out)) (fun t49_ out => rec Q38.k2 (Q38.st2 r_ p_ t49_ out)) (fun s_ t49_ t65_ t66_ t67_ out => rec Q38.k3 (Q38.st3 r_ p_ s_ t49_ t65_ t66_ t67_ out)) t_ n_ t17_ t18_ t19_ t27_ out := by kernel_rfl
theorem Q38.step2 (N : Nat) (rec : List Item → St → Option LMv) (r_ : TRules) (p_ : TPos) (t49_ : Int) (out : LMv) : seg tb (Q38.G N) Q38.A 0 rec (Q38.fin N) segFuel (loopBody Q38.k2) (Q38.st2 r_ p_ t49_ out) = Q38.s2 N r_ p_ (fun t17_ t18_ t19_ out => rec Q38.k0 (Q38.st0 r_ p_ t17_ t18_ t19_ out)) (fun t_ n_ t17_ t18_ t19_ t27_ out => rec Q38.k1 (Q38.st1 r_ p_ t_ n_ t17_ t18_ t19_ t27_ out)) (fun t49_ out => rec Q38.k2 (Q38.st2 r_ p_ t49_ out)) (fun s_ t49_ t65_ t66_ t67_ out => rec Q38.k3 (Q38.st3 r_ p_ s_ t49_ t65_ t66_ t67_ out)) t49_ out := by kernel_rfl
theorem Q38.step3 (N : Nat) (rec : List Item → St → Option LMv) (r_ : TRules) (p_ : TPos) (s_ t49_ : Int) (t65_ : (List TWay)) (t66_ t67_ : Int) (out : LMv) : seg tb (Q38.G N) Q38.A 0 rec (Q38.fin N) segFuel (loopBody Q38.k3) (Q38.st3 r_ p_ s_ t49_ t65_ t66_ t67_ out) = Q38.s3 N r_ p_ (fun t17_ t18_ t19_ out => rec Q38.k0 (Q38.st0 r_ p_ t17_ t18_ t19_ out)) (fun t_ n_ t17_ t18_ t19_ t27_ out => rec Q38.k1 (Q38.st1 r_ p_ t_ n_ t17_ t18_ t19_ t27_ out)) (fun t49_ out => rec Q38.k2 (Q38.st2 r_ p_ t49_ out)) (fun s_ t49_ t65_ t66_ t67_ out => rec Q38.k3 (Q38.st3 r_ p_ s_ t49_ t65_ t66_ t67_ out)) s_ t49_ t65_ t66_ t67_ out := by kernel_rfl
theorem Q38.entry (N : Nat) (rec : List Item → St → Option LMv) (x : (argH Q38.as).den) : seg tb (Q38.G N) Q38.A 0 rec (Q38.fin N) segFuel [.code (bodyOf Try.f38)] (initSt Try.f38 (encArgs Q38.as x) (encMem Q38.as x)) = Q38.e N (fun t17_ t18_ t19_ out => rec Q38.k0 (Q38.st0 x.1 x.2.1 t17_ t18_ t19_ out)) (fun t_ n_ t17_ t18_ t19_ t27_ out => rec Q38.k1 (Q38.st1 x.1 x.2.1 t_ n_ t17_ t18_ t19_ t27_ out)) (fun t49_ out => rec Q38.k2 (Q38.st2 x.1 x.2.1 t49_ out)) (fun s_ t49_ t65_ t66_ t67_ out => rec Q38.k3 (Q38.st3 x.1 x.2.1 s_ t49_ t65_ t66_ t67_ out)) x.1 x.2.1 := by kernel_rfl
theorem Q38.runs (N : Nat) (r_ : TRules) (p_ : TPos) : ∀ n, (∀ (t17_ : LInt) (t18_ t19_ : Int) (out : LMv), run tb (Q38.G N) Q38.A 0 (Q38.fin N) n Q38.k0 (Q38.st0 r_ p_ t17_ t18_ t19_ out) = Q38.l0 N r_ p_ n t17_ t18_ t19_ out) ∧ (∀ (t_ n_ : Int) (t17_ : LInt) (t18_ t19_ t27_ : Int) (out : LMv), run tb (Q38.G N) Q38.A 0 (Q38.fin N) n Q38.k1 (Q38.st1 r_ p_ t_ n_ t17_ t18_ t19_ t27_ out) = Q38.l1 N r_ p_ n t_ n_ t17_ t18_ t19_ t27_ out) ∧ (∀ (t49_ : Int) (out : LMv), run tb (Q38.G N) Q38.A 0 (Q38.fin N) n Q38.k2 (Q38.st2 r_ p_ t49_ out) = Q38.l2 N r_ p_ n t49_ out) ∧ (∀ (s_ t49_ : Int) (t65_ : (List TWay)) (t66_ t67_ : Int) (out : LMv), run tb (Q38.G N) Q38.A 0 (Q38.fin N) n Q38.k3 (Q38.st3 r_ p_ s_ t49_ t65_ t66_ t67_ out) = Q38.l3 N r_ p_ n s_ t49_ t65_ t66_ t67_ out)
 | 0 => ⟨fun _ _ _ _ => rfl, fun _ _ _ _ _ _ _ => rfl, fun _ _ => rfl, fun _ _ _ _ _ _ => rfl⟩
 | n + 1 => by
  obtain ⟨h0, h1, h2, h3⟩ := Q38.runs N r_ p_ n
  have e0 : (fun (t17_ : LInt) (t18_ t19_ : Int) (out : LMv) => run tb (Q38.G N) Q38.A 0 (Q38.fin N) n Q38.k0 (Q38.st0 r_ p_ t17_ t18_ t19_ out)) = Q38.l0 N r_ p_ n := by funext t17_ t18_ t19_ out; exact h0 t17_ t18_ t19_ out
  have e1 : (fun (t_ n_ : Int) (t17_ : LInt) (t18_ t19_ t27_ : Int) (out : LMv) => run tb (Q38.G N) Q38.A 0 (Q38.fin N) n Q38.k1 (Q38.st1 r_ p_ t_ n_ t17_ t18_ t19_ t27_ out)) = Q38.l1 N r_ p_ n := by funext t_ n_ t17_ t18_ t19_ t27_ out; exact h1 t_ n_ t17_ t18_ t19_ t27_ out
  have e2 : (fun (t49_ : Int) (out : LMv) => run tb (Q38.G N) Q38.A 0 (Q38.fin N) n Q38.k2 (Q38.st2 r_ p_ t49_ out)) = Q38.l2 N r_ p_ n := by funext t49_ out; exact h2 t49_ out
  have e3 : (fun (s_ t49_ : Int) (t65_ : (List TWay)) (t66_ t67_ : Int) (out : LMv) => run tb (Q38.G N) Q38.A 0 (Q38.fin N) n Q38.k3 (Q38.st3 r_ p_ s_ t49_ t65_ t66_ t67_ out)) = Q38.l3 N r_ p_ n := by funext s_ t49_ t65_ t66_ t67_ out; exact h3 s_ t49_ t65_ t66_ t67_ out
  have g0 : (∀ (t17_ : LInt) (t18_ t19_ : Int) (out : LMv), run tb (Q38.G N) Q38.A 0 (Q38.fin N) (n + 1) Q38.k0 (Q38.st0 r_ p_ t17_ t18_ t19_ out) = Q38.l0 N r_ p_ (n + 1) t17_ t18_ t19_ out) := by
   intro t17_ t18_ t19_ out
   exact (run_succ (by kernel_rfl)).trans ((Q38.step0 N _ r_ p_ t17_ t18_ t19_ out).trans ((congr (congr (congr (congrArg (fun r0 r1 r2 r3 => Q38.s0 N r_ p_ r0 r1 r2 r3 t17_ t18_ t19_ out) e0) e1) e2) e3).trans (Q38.l0_s N r_ p_ n t17_ t18_ t19_ out).symm))
  have g1 : (∀ (t_ n_ : Int) (t17_ : LInt) (t18_ t19_ t27_ : Int) (out : LMv), run tb (Q38.G N) Q38.A 0 (Q38.fin N) (n + 1) Q38.k1 (Q38.st1 r_ p_ t_ n_ t17_ t18_ t19_ t27_ out) = Q38.l1 N r_ p_ (n + 1) t_ n_ t17_ t18_ t19_ t27_ out) := by
   intro t_ n_ t17_ t18_ t19_ t27_ out
   exact (run_succ (by kernel_rfl)).trans ((Q38.step1 N _ r_ p_ t_ n_ t17_ t18_ t19_ t27_ out).trans ((congr (congr (congr (congrArg (fun r0 r1 r2 r3 => Q38.s1 N r_ p_ r0 r1 r2 r3 t_ n_ t17_ t18_ t19_ t27_ out) e0) e1) e2) e3).trans (Q38.l1_s N r_ p_ n t_ n_ t17_ t18_ t19_ t27_ out).symm))
  have g2 : (∀ (t49_ : Int) (out : LMv), run tb (Q38.G N) Q38.A 0 (Q38.fin N) (n + 1) Q38.k2 (Q38.st2 r_ p_ t49_ out) = Q38.l2 N r_ p_ (n + 1) t49_ out) := by
   intro t49_ out
   exact (run_succ (by kernel_rfl)).trans ((Q38.step2 N _ r_ p_ t49_ out).trans ((congr (congr (congr (congrArg (fun r0 r1 r2 r3 => Q38.s2 N r_ p_ r0 r1 r2 r3 t49_ out) e0) e1) e2) e3).trans (Q38.l2_s N r_ p_ n t49_ out).symm))
  have g3 : (∀ (s_ t49_ : Int) (t65_ : (List TWay)) (t66_ t67_ : Int) (out : LMv), run tb (Q38.G N) Q38.A 0 (Q38.fin N) (n + 1) Q38.k3 (Q38.st3 r_ p_ s_ t49_ t65_ t66_ t67_ out) = Q38.l3 N r_ p_ (n + 1) s_ t49_ t65_ t66_ t67_ out) := by
   intro s_ t49_ t65_ t66_ t67_ out
   exact (run_succ (by kernel_rfl)).trans ((Q38.step3 N _ r_ p_ s_ t49_ t65_ t66_ t67_ out).trans ((congr (congr (congr (congrArg (fun r0 r1 r2 r3 => Q38.s3 N r_ p_ r0 r1 r2 r3 s_ t49_ t65_ t66_ t67_ out) e0) e1) e2) e3).trans (Q38.l3_s N r_ p_ n s_ t49_ t65_ t66_ t67_ out).symm))
  exact ⟨g0, g1, g2, g3⟩
theorem Q38.ok (N : Nat) : FnOk Try.prog 38 (Q38.D N) := by
 refine FnOk_of tb_ok (Checked.mixed Try.checked) ⟨Try.f38, Try.func38, by kernel_rfl, by kernel_rfl, fun x y h => ⟨Q38.G N, Q38.A, N, gamOf_ok (by simp only [List.forall_mem_cons, List.not_mem_nil, false_implies, implies_true, and_true]; exact ⟨⟨Q62.ok N, Q62.fit N⟩, ⟨Q63.ok N, Q63.fit N⟩, ⟨Q65.ok N, Q65.fit N⟩, ⟨Q67.ok N, Q67.fit N⟩, ⟨Q64.ok N, Q64.fit N⟩, ⟨Q61.ok N, Q61.fit N⟩⟩), ?_⟩⟩ (Q38.fit N)
 rw [absFn_n (n0 := 0) rfl (by kernel_rfl)]
 refine (Q38.entry N (run tb (Q38.G N) Q38.A 0 (Q38.fin N) N) x).trans ?_
 have e0 : (fun (t17_ : LInt) (t18_ t19_ : Int) (out : LMv) => run tb (Q38.G N) Q38.A 0 (Q38.fin N) N Q38.k0 (Q38.st0 x.1 x.2.1 t17_ t18_ t19_ out)) = Q38.l0 N x.1 x.2.1 N := by funext t17_ t18_ t19_ out; exact (Q38.runs N x.1 x.2.1 N).1 t17_ t18_ t19_ out
 have e1 : (fun (t_ n_ : Int) (t17_ : LInt) (t18_ t19_ t27_ : Int) (out : LMv) => run tb (Q38.G N) Q38.A 0 (Q38.fin N) N Q38.k1 (Q38.st1 x.1 x.2.1 t_ n_ t17_ t18_ t19_ t27_ out)) = Q38.l1 N x.1 x.2.1 N := by funext t_ n_ t17_ t18_ t19_ t27_ out; exact (Q38.runs N x.1 x.2.1 N).2.1 t_ n_ t17_ t18_ t19_ t27_ out
 have e2 : (fun (t49_ : Int) (out : LMv) => run tb (Q38.G N) Q38.A 0 (Q38.fin N) N Q38.k2 (Q38.st2 x.1 x.2.1 t49_ out)) = Q38.l2 N x.1 x.2.1 N := by funext t49_ out; exact (Q38.runs N x.1 x.2.1 N).2.2.1 t49_ out
 have e3 : (fun (s_ t49_ : Int) (t65_ : (List TWay)) (t66_ t67_ : Int) (out : LMv) => run tb (Q38.G N) Q38.A 0 (Q38.fin N) N Q38.k3 (Q38.st3 x.1 x.2.1 s_ t49_ t65_ t66_ t67_ out)) = Q38.l3 N x.1 x.2.1 N := by funext s_ t49_ t65_ t66_ t67_ out; exact (Q38.runs N x.1 x.2.1 N).2.2.2 s_ t49_ t65_ t66_ t67_ out
 have h' : (Q38.D N).f x = Q38.e N (Q38.l0 N x.1 x.2.1 N) (Q38.l1 N x.1 x.2.1 N) (Q38.l2 N x.1 x.2.1 N) (Q38.l3 N x.1 x.2.1 N) x.1 x.2.1 := by kernel_rfl
 exact (congr (congr (congr (congrArg (fun r0 r1 r2 r3 => Q38.e N r0 r1 r2 r3 x.1 x.2.1) e0) e1) e2) e3).trans (h'.symm.trans h)
def Q54.as : List MK := [.d true (.prod .str (.prod tI (.prod tI (.prod (.slice 107 (.prod (.int .u8) (.prod tI (.prod tI (.slice 127 (.prod tI (.prod tI (.prod tI tI)))))))) (.prod (.slice 3 tI) (.prod .bool (.prod .bool (.prod (.slice 109 (.prod tI (.prod tI (.prod tI .bool)))) (.prod tI (.prod tI tI)))))))))), .d true (.prod (.slice 3 tI) (.prod (.prod (.slice 3 tI) (.slice 3 tI)) (.prod tI tI)))]
def Q54.rs : List (Bool × HT) := [(false, (.d tI))]
def Q54.lc : List AC := []
def Q54.D (N : Nat) : DFn := ⟨Q54.as, Q54.rs, Int, fun x => Q54 N x.1 x.2.1, fun r o => r.1, fun b => (b, ()), fun b => (), none⟩
theorem Q54.fit (N : Nat) : (Q54.D N).Fit := ⟨fun _ _ => rfl, fun _ _ => rfl, by kernel_rfl, (fun _ _ h => nomatch h), by kernel_rfl⟩
noncomputable def Q54.G (N : Nat) : Gam := gamOf [(80, Q80.D N), (81, Q81.D N), (38, Q38.D N)]
def Q54.A : Nat → Option LoopAnn := fun k => bif Nat.beq k 0 then some ⟨[2, 3, 5, 12, 13, 14], [], [], [], [], 2, false⟩ else none
noncomputable def Q54.fin (N : Nat) : St → Option Int := resK tb Try.f54.results.toList (decRes (Q54.D N) Q54.lc)
noncomputable def Q54.k0 : List Item := stackAt [.r, .r, .l, .r, .b] (bodyOf Try.f54) []
def Q54.st0 (r_ : TRules) (p_ : TPos) (t13_ t14_ : Int) : St := ⟨[.one .any, .one .any, .one (.ptr 0 0), .one (.ptr 1 0), .one .any, .one (.int .i64 (w64 (1 - p_.2.2.1)))] ++ List.replicate 6 (.one .any) ++ [.one (.fro 109 (.prod tI (.prod tI (.prod tI .bool))) r_.2.2.2.2.2.2.2.1), .one (.int .i64 t13_), .one (.int .i64 t14_)] ++ List.replicate 43 (.one .any), [.var 26 [.str r_.1, .int .i64 r_.2.1, .int .i64 r_.2.2.1, .fro 107 (.prod (.int .u8) (.prod tI (.prod tI (.slice 127 (.prod tI (.prod tI (.prod tI tI))))))) r_.2.2.2.1, .fro 3 tI r_.2.2.2.2.1, .bool r_.2.2.2.2.2.1, .bool r_.2.2.2.2.2.2.1, .fro 109 (.prod tI (.prod tI (.prod tI .bool))) r_.2.2.2.2.2.2.2.1, .int .i64 r_.2.2.2.2.2.2.2.2.1, .int .i64 r_.2.2.2.2.2.2.2.2.2.1, .int .i64 r_.2.2.2.2.2.2.2.2.2.2], .var 29 [.fro 3 tI p_.1, .fro 3 tI p_.2.1.1, .fro 3 tI p_.2.1.2, .int .i64 p_.2.2.1, .int .i64 p_.2.2.2]]⟩
theorem Q54.step0 (N : Nat) (rec : List Item → St → Option Int) (r_ : TRules) (p_ : TPos) (t13_ t14_ : Int) : seg tb (Q54.G N) Q54.A 0 rec (Q54.fin N) segFuel (loopBody Q54.k0) (Q54.st0 r_ p_ t13_ t14_) = Q54.s0 N r_ p_ (fun t13_ t14_ => rec Q54.k0 (Q54.st0 r_ p_ t13_ t14_)) t13_ t14_ := by kernel_rfl
theorem Q54.entry (N : Nat) (rec : List Item → St → Option Int) (x : (argH Q54.as).den) : seg tb (Q54.G N) Q54.A 0 rec (Q54.fin N) segFuel [.code (bodyOf Try.f54)] (initSt Try.f54 (encArgs Q54.as x) (encMem Q54.as x)) = Q54.e N (fun t13_ t14_ => rec Q54.k0 (Q54.st0 x.1 x.2.1 t13_ t14_)) x.1 x.2.1 := by kernel_rfl
theorem Q54.runs (N : Nat) (r_ : TRules) (p_ : TPos) : ∀ n, (∀ (t13_ t14_ : Int), run tb (Q54.G N) Q54.A 0 (Q54.fin N) n Q54.k0 (Q54.st0 r_ p_ t13_ t14_) = Q54.l0 N r_ p_ n t13_ t14_)
 | 0 => fun _ _ => rfl
 | n + 1 => by
  have h0 := Q54.runs N r_ p_ n
  have e0 : (fun (t13_ t14_ : Int) => run tb (Q54.G N) Q54.A 0 (Q54.fin N) n Q54.k0 (Q54.st0 r_ p_ t13_ t14_)) = Q54.l0 N r_ p_ n := by funext t13_ t14_; exact h0 t13_ t14_
  have g0 : (∀ (t13_ t14_ : Int), run tb (Q54.G N) Q54.A 0 (Q54.fin N) (n + 1) Q54.k0 (Q54.st0 r_ p_ t13_ t14_) = Q54.l0 N r_ p_ (n + 1) t13_ t14_) := by
   intro t13_ t14_
   exact (run_succ (by kernel_rfl)).trans ((Q54.step0 N _ r_ p_ t13_ t14_).trans ((congrArg (fun r0 => Q54.s0 N r_ p_ r0 t13_ t14_) e0).trans (Q54.l0_s N r_ p_ n t13_ t14_).symm))
  exact g0
theorem Q54.ok (N : Nat) : FnOk Try.prog 54 (Q54.D N) := by
 refine FnOk_of tb_ok (Checked.mixed Try.checked) ⟨Try.f54, Try.func54, by kernel_rfl, by kernel_rfl, fun x y h => ⟨Q54.G N, Q54.A, N, gamOf_ok (by simp only [List.forall_mem_cons, List.not_mem_nil, false_implies, implies_true, and_true]; exact ⟨⟨Q80.ok N, Q80.fit N⟩, ⟨Q81.ok N, Q81.fit N⟩, ⟨Q38.ok N, Q38.fit N⟩⟩), ?_⟩⟩ (Q54.fit N)
 rw [absFn_n (n0 := 0) rfl (by kernel_rfl)]
 refine (Q54.entry N (run tb (Q54.G N) Q54.A 0 (Q54.fin N) N) x).trans ?_
 have e0 : (fun (t13_ t14_ : Int) => run tb (Q54.G N) Q54.A 0 (Q54.fin N) N Q54.k0 (Q54.st0 x.1 x.2.1 t13_ t14_)) = Q54.l0 N x.1 x.2.1 N := by funext t13_ t14_; exact (Q54.runs N x.1 x.2.1 N) t13_ t14_
 have h' : (Q54.D N).f x = Q54.e N (Q54.l0 N x.1 x.2.1 N) x.1 x.2.1 := by kernel_rfl
 exact (congrArg (fun r0 => Q54.e N r0 x.1 x.2.1) e0).trans (h'.symm.trans h)
def Q32.as : List MK := [.r (.prod (.prod .str (.prod tI (.prod tI (.prod (.slice 107 (.prod (.int .u8) (.prod tI (.prod tI (.slice 127 (.prod tI (.prod tI (.prod tI tI)))))))) (.prod (.slice 3 tI) (.prod .bool (.prod .bool (.prod (.slice 109 (.prod tI (.prod tI (.prod tI .bool)))) (.prod tI (.prod tI tI)))))))))) (.prod (.prod (.slice 3 tI) (.prod (.prod (.slice 3 tI) (.slice 3 tI)) (.prod tI tI))) (.prod (.int .u64) (.slice 144 (.prod (.prod tI (.prod tI tI)) (.prod tI (.prod tI (.prod .bool (.prod tI (.int .u64))))))))))]
def Q32.rs : List (Bool × HT) := [(false, (.d tI))]
def Q32.lc : List AC := []
def Q32.D (N : Nat) : DFn := ⟨Q32.as, Q32.rs, Int, fun x => Q32 N x.1, fun r o => r.1, fun b => (b, ()), fun b => (), none⟩
theorem Q32.fit (N : Nat) : (Q32.D N).Fit := ⟨fun _ _ => rfl, fun _ _ => rfl, by kernel_rfl, (fun _ _ h => nomatch h), by kernel_rfl⟩
noncomputable def Q32.G (N : Nat) : Gam := gamOf [(54, Q54.D N)]
def Q32.A : Nat → Option LoopAnn := fun _ => none
noncomputable def Q32.fin (N : Nat) : St → Option Int := resK tb Try.f32.results.toList (decRes (Q32.D N) Q32.lc)
theorem Q32.entry (N : Nat) (rec : List Item → St → Option Int) (x : (argH Q32.as).den) : seg tb (Q32.G N) Q32.A 0 rec (Q32.fin N) segFuel [.code (bodyOf Try.f32)] (initSt Try.f32 (encArgs Q32.as x) (encMem Q32.as x)) = Q32.e N x.1 := by kernel_rfl
theorem Q32.ok (N : Nat) : FnOk Try.prog 32 (Q32.D N) := by
 refine FnOk_of tb_ok (Checked.mixed Try.checked) ⟨Try.f32, Try.func32, by kernel_rfl, by kernel_rfl, fun x y h => ⟨Q32.G N, Q32.A, N, gamOf_ok (by simp only [List.forall_mem_cons, List.not_mem_nil, false_implies, implies_true, and_true]; exact ⟨Q54.ok N, Q54.fit N⟩), ?_⟩⟩ (Q32.fit N)
 rw [absFn_n (n0 := 0) rfl (by kernel_rfl)]
 exact (Q32.entry N _ x).trans h
def Q29.as : List MK := [.o (.ptr 72 (.prod (.ptr 115 (.prod (.prod (.d .str) (.prod (.d tI) (.prod (.d tI) (.prod (.own 107 (.prod (.int .u8) (.prod tI (.prod tI (.slice 127 (.prod tI (.prod tI (.prod tI tI)))))))) (.prod (.own 3 tI) (.prod (.d .bool) (.prod (.d .bool) (.prod (.own 109 (.prod tI (.prod tI (.prod tI .bool)))) (.d (.prod tI (.prod tI tI))))))))))) (.prod (.prod (.own 3 tI) (.prod (.prod (.own 3 tI) (.own 3 tI)) (.d (.prod tI tI)))) (.prod (.d (.int .u64)) (.own 144 (.prod (.prod tI (.prod tI tI)) (.prod tI (.prod tI (.prod .bool (.prod tI (.int .u64))))))))))) (.d (.prod tI tI)))) true]
def Q29.rs : List (Bool × HT) := [(false, (.ptr 77 (.prod .nilS (.prod .nilS (.d (.prod tI (.prod tI .bool)))))))]
def Q29.lc : List AC := [.ptr 0 0]
def Q29.D (N : Nat) : DFn := ⟨Q29.as, Q29.rs, ((Unit × (Unit × (Int × (Int × Bool)))) × (TBoard × (Int × Int))), fun x => Q29 N x.1, fun r o => (r.1, o.1), fun b => (b.1, ()), fun b => (b.2, ()), some [1]⟩
theorem Q29.fit (N : Nat) : (Q29.D N).Fit := ⟨fun _ _ => rfl, fun _ _ => rfl, by kernel_rfl, (fun x L h => by cases h; kernel_rfl), by kernel_rfl⟩
noncomputable def Q29.G (N : Nat) : Gam := gamOf [(32, Q32.D N)]
def Q29.A : Nat → Option LoopAnn := fun _ => none
noncomputable def Q29.fin (N : Nat) : St → Option ((Unit × (Unit × (Int × (Int × Bool)))) × (TBoard × (Int × Int))) := resK tb Try.f29.results.toList (decRes (Q29.D N) Q29.lc)
theorem Q29.entry (N : Nat) (rec : List Item → St → Option ((Unit × (Unit × (Int × (Int × Bool)))) × (TBoard × (Int × Int)))) (x : (argH Q29.as).den) : seg tb (Q29.G N) Q29.A 9 rec (Q29.fin N) segFuel [.code (bodyOf Try.f29)] (initSt Try.f29 (encArgs Q29.as x) (encMem Q29.as x)) = Q29.e N x.1 := by kernel_rfl
theorem Q29.ok (N : Nat) : FnOk Try.prog 29 (Q29.D N) := by
 refine FnOk_of tb_ok (Checked.mixed Try.checked) ⟨Try.f29, Try.func29, by kernel_rfl, by kernel_rfl, fun x y h => ⟨Q29.G N, Q29.A, N, gamOf_ok (by simp only [List.forall_mem_cons, List.not_mem_nil, false_implies, implies_true, and_true]; exact ⟨Q32.ok N, Q32.fit N⟩), ?_⟩⟩ (Q29.fit N)
 rw [absFn_n (n0 := 9) rfl (by kernel_rfl)]
 exact (Q29.entry N _ x).trans h
end
end Go.Proofs.Ytpielijehhhobaa.Am
