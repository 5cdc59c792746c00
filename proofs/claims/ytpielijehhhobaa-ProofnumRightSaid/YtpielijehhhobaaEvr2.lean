/- PRINTED by gen.py: the abstract machine evaluates the loaded code to these functions. -/
import Derived.Test.YtpielijehhhobaaEvr1
set_option linter.unusedVariables false
set_option linter.unusedSimpArgs false
namespace Go.Proofs.Ytpielijehhhobaa.Am
open Go
noncomputable section
set_option maxRecDepth 100000
def Q49.as : List MK := [.o (.nd 77 73 (.slice 41 (.prod tI (.prod tI tI))) (.prod tI (.prod tI .bool))) true, .d false .bool]
def Q49.rs : List (Bool × HT) := [(false, (.d tI))]
def Q49.lc (n_ : ((List (LMv × List Int × (Int × (Int × Bool)))) × Int)) (own : Bool) : List AC := [.nr n_.2]
def Q49.D (N : Nat) : DFn := ⟨Q49.as, Q49.rs, (Int × ((List (LMv × List Int × (Int × (Int × Bool)))) × Int)), fun x => Q49 N x.1 x.2.1, fun r o => (r.1, o.1), fun b => (b.1, ()), fun b => (b.2, ()), none⟩
theorem Q49.fit (N : Nat) : (Q49.D N).Fit := ⟨fun _ _ => rfl, fun _ _ => rfl, by kernel_rfl, (fun _ _ h => nomatch h), by kernel_rfl⟩
noncomputable def Q49.G (N : Nat) : Gam := gamOf []
def Q49.A : Nat → Option LoopAnn := fun k => bif Nat.beq k 0 then some ⟨[0, 1, 5, 13, 14, 15], [], [], [], [], 1, false⟩ else none
noncomputable def Q49.fin (N : Nat) (n_ : ((List (LMv × List Int × (Int × (Int × Bool)))) × Int)) (own : Bool) : St → Option (Int × ((List (LMv × List Int × (Int × (Int × Bool)))) × Int)) := resK tb Try.f49.results.toList (decRes (Q49.D N) (Q49.lc n_ own))
noncomputable def Q49.k0 : List Item := stackAt [.r, .r, .l, .r, .b] (bodyOf Try.f49) []
def Q49.st0 (n_ : ((List (LMv × List Int × (Int × (Int × Bool)))) × Int)) (own : Bool) (best t14_ t15_ : Int) : St := ⟨[.one (.nr n_.2), .one (.bool own)] ++ List.replicate 3 (.one .any) ++ [.one (.int .i64 best)] ++ List.replicate 7 (.one .any) ++ [.one (.kd n_.2 ((gD (([] : LMv), ([] : List Int), ((0 : Int), ((0 : Int), false))) n_.1 n_.2).2.1.length : Int)), .one (.int .i64 t14_), .one (.int .i64 t15_)] ++ List.replicate 40 (.one .any), [.arena 77 73 (.slice 41 (.prod tI (.prod tI tI))) (.prod tI (.prod tI .bool)) n_.1 none]⟩
theorem Q49.step0 (N : Nat) (rec : List Item → St → Option (Int × ((List (LMv × List Int × (Int × (Int × Bool)))) × Int))) (n_ : ((List (LMv × List Int × (Int × (Int × Bool)))) × Int)) (own : Bool) (best t14_ t15_ : Int) : seg tb (Q49.G N) Q49.A 1 rec (Q49.fin N n_ own) segFuel (loopBody Q49.k0) (Q49.st0 n_ own best t14_ t15_) = Q49.s0 N n_ own (fun best t14_ t15_ => rec Q49.k0 (Q49.st0 n_ own best t14_ t15_)) best t14_ t15_ := by kernel_rfl
theorem Q49.entry (N : Nat) (rec : List Item → St → Option (Int × ((List (LMv × List Int × (Int × (Int × Bool)))) × Int))) (x : (argH Q49.as).den) : seg tb (Q49.G N) Q49.A 1 rec (Q49.fin N x.1 x.2.1) segFuel [.code (bodyOf Try.f49)] (initSt Try.f49 (encArgs Q49.as x) (encMem Q49.as x)) = Q49.e N (fun best t14_ t15_ => rec Q49.k0 (Q49.st0 x.1 x.2.1 best t14_ t15_)) x.1 x.2.1 := by kernel_rfl
theorem Q49.runs (N : Nat) (n_ : ((List (LMv × List Int × (Int × (Int × Bool)))) × Int)) (own : Bool) : ∀ n, (∀ (best t14_ t15_ : Int), run tb (Q49.G N) Q49.A 1 (Q49.fin N n_ own) n Q49.k0 (Q49.st0 n_ own best t14_ t15_) = Q49.l0 N n_ own n best t14_ t15_)
 | 0 => fun _ _ _ => rfl
 | n + 1 => by
  have h0 := Q49.runs N n_ own n
  have e0 : (fun (best t14_ t15_ : Int) => run tb (Q49.G N) Q49.A 1 (Q49.fin N n_ own) n Q49.k0 (Q49.st0 n_ own best t14_ t15_)) = Q49.l0 N n_ own n := by funext best t14_ t15_; exact h0 best t14_ t15_
  have g0 : (∀ (best t14_ t15_ : Int), run tb (Q49.G N) Q49.A 1 (Q49.fin N n_ own) (n + 1) Q49.k0 (Q49.st0 n_ own best t14_ t15_) = Q49.l0 N n_ own (n + 1) best t14_ t15_) := by
   intro best t14_ t15_
   exact (run_succ (by kernel_rfl)).trans ((Q49.step0 N _ n_ own best t14_ t15_).trans ((congrArg (fun r0 => Q49.s0 N n_ own r0 best t14_ t15_) e0).trans (Q49.l0_s N n_ own n best t14_ t15_).symm))
  exact g0
theorem Q49.ok (N : Nat) : FnOk Try.prog 49 (Q49.D N) := by
 refine FnOk_of tb_ok (Checked.mixed Try.checked) ⟨Try.f49, Try.func49, by kernel_rfl, by kernel_rfl, fun x y h => ⟨Q49.G N, Q49.A, N, gamOf_ok (fun p hp => nomatch hp), ?_⟩⟩ (Q49.fit N)
 rw [absFn_n (n0 := 1) rfl (by kernel_rfl)]
 refine (Q49.entry N (run tb (Q49.G N) Q49.A 1 (Q49.fin N x.1 x.2.1) N) x).trans ?_
 have e0 : (fun (best t14_ t15_ : Int) => run tb (Q49.G N) Q49.A 1 (Q49.fin N x.1 x.2.1) N Q49.k0 (Q49.st0 x.1 x.2.1 best t14_ t15_)) = Q49.l0 N x.1 x.2.1 N := by funext best t14_ t15_; exact (Q49.runs N x.1 x.2.1 N) best t14_ t15_
 have h' : (Q49.D N).f x = Q49.e N (Q49.l0 N x.1 x.2.1 N) x.1 x.2.1 := by kernel_rfl
 exact (congrArg (fun r0 => Q49.e N r0 x.1 x.2.1) e0).trans (h'.symm.trans h)
def Q79.as : List MK := [.d true (.prod .str (.prod tI (.prod tI (.prod (.slice 107 (.prod (.int .u8) (.prod tI (.prod tI (.slice 127 (.prod tI (.prod tI (.prod tI tI)))))))) (.prod (.slice 3 tI) (.prod .bool (.prod .bool (.prod (.slice 109 (.prod tI (.prod tI (.prod tI .bool)))) (.prod tI (.prod tI tI)))))))))), .d true (.prod (.slice 3 tI) (.prod (.prod (.slice 3 tI) (.slice 3 tI)) (.prod tI tI))), .d true (.prod tI (.prod tI tI)), .d false (.int .u64)]
def Q79.rs : List (Bool × HT) := [(false, (.d (.int .u64)))]
def Q79.lc : List AC := []
def Q79.D (N : Nat) : DFn := ⟨Q79.as, Q79.rs, Int, fun x => Q79 N x.1 x.2.1 x.2.2.1 x.2.2.2.1, fun r o => r.1, fun b => (b, ()), fun b => (), none⟩
theorem Q79.fit (N : Nat) : (Q79.D N).Fit := ⟨fun _ _ => rfl, fun _ _ => rfl, by kernel_rfl, (fun _ _ h => nomatch h), by kernel_rfl⟩
noncomputable def Q79.G (N : Nat) : Gam := gamOf [(76, Q76.D N), (78, Q78.D N), (77, Q77.D N), (63, Q63.D N), (74, Q74.D N)]
def Q79.A : Nat → Option LoopAnn := fun _ => none
noncomputable def Q79.fin (N : Nat) : St → Option Int := resK tb Try.f79.results.toList (decRes (Q79.D N) Q79.lc)
theorem Q79.entry (N : Nat) (rec : List Item → St → Option Int) (x : (argH Q79.as).den) : seg tb (Q79.G N) Q79.A 0 rec (Q79.fin N) segFuel [.code (bodyOf Try.f79)] (initSt Try.f79 (encArgs Q79.as x) (encMem Q79.as x)) = Q79.e N x.1 x.2.1 x.2.2.1 x.2.2.2.1 := by kernel_rfl
theorem Q79.ok (N : Nat) : FnOk Try.prog 79 (Q79.D N) := by
 refine FnOk_of tb_ok (Checked.mixed Try.checked) ⟨Try.f79, Try.func79, by kernel_rfl, by kernel_rfl, fun x y h => ⟨Q79.G N, Q79.A, N, gamOf_ok (by simp only [List.forall_mem_cons, List.not_mem_nil, false_implies, implies_true, and_true]; exact ⟨⟨Q76.ok N, Q76.fit N⟩, ⟨Q78.ok N, Q78.fit N⟩, ⟨Q77.ok N, Q77.fit N⟩, ⟨Q63.ok N, Q63.fit N⟩, ⟨Q74.ok N, Q74.fit N⟩⟩), ?_⟩⟩ (Q79.fit N)
 rw [absFn_n (n0 := 0) rfl (by kernel_rfl)]
 exact (Q79.entry N _ x).trans h
def Q50.as : List MK := [.o (.ptr 115 (.prod (.prod (.d .str) (.prod (.d tI) (.prod (.d tI) (.prod (.own 107 (.prod (.int .u8) (.prod tI (.prod tI (.slice 127 (.prod tI (.prod tI (.prod tI tI)))))))) (.prod (.own 3 tI) (.prod (.d .bool) (.prod (.d .bool) (.prod (.own 109 (.prod tI (.prod tI (.prod tI .bool)))) (.d (.prod tI (.prod tI tI))))))))))) (.prod (.prod (.own 3 tI) (.prod (.prod (.own 3 tI) (.own 3 tI)) (.d (.prod tI tI)))) (.prod (.d (.int .u64)) (.own 144 (.prod (.prod tI (.prod tI tI)) (.prod tI (.prod tI (.prod .bool (.prod tI (.int .u64))))))))))) true, .d true (.prod tI (.prod tI tI))]
def Q50.rs : List (Bool × HT) := []
def Q50.lc : List AC := [.ptr 0 0]
def Q50.D (N : Nat) : DFn := ⟨Q50.as, Q50.rs, TBoard, fun x => Q50 N x.1 x.2.1, fun r o => o.1, fun b => (), fun b => (b, ()), none⟩
theorem Q50.fit (N : Nat) : (Q50.D N).Fit := ⟨fun _ _ => rfl, fun _ _ => rfl, by kernel_rfl, (fun _ _ h => nomatch h), by kernel_rfl⟩
noncomputable def Q50.G (N : Nat) : Gam := gamOf [(79, Q79.D N), (63, Q63.D N), (74, Q74.D N)]
def Q50.A : Nat → Option LoopAnn := fun _ => none
noncomputable def Q50.fin (N : Nat) : St → Option TBoard := resK tb Try.f50.results.toList (decRes (Q50.D N) Q50.lc)
theorem Q50.entry (N : Nat) (rec : List Item → St → Option TBoard) (x : (argH Q50.as).den) : seg tb (Q50.G N) Q50.A 8 rec (Q50.fin N) segFuel [.code (bodyOf Try.f50)] (initSt Try.f50 (encArgs Q50.as x) (encMem Q50.as x)) = Q50.e N x.1 x.2.1 := by kernel_rfl
theorem Q50.ok (N : Nat) : FnOk Try.prog 50 (Q50.D N) := by
 refine FnOk_of tb_ok (Checked.mixed Try.checked) ⟨Try.f50, Try.func50, by kernel_rfl, by kernel_rfl, fun x y h => ⟨Q50.G N, Q50.A, N, gamOf_ok (by simp only [List.forall_mem_cons, List.not_mem_nil, false_implies, implies_true, and_true]; exact ⟨⟨Q79.ok N, Q79.fit N⟩, ⟨Q63.ok N, Q63.fit N⟩, ⟨Q74.ok N, Q74.fit N⟩⟩), ?_⟩⟩ (Q50.fit N)
 rw [absFn_n (n0 := 8) rfl (by kernel_rfl)]
 exact (Q50.entry N _ x).trans h
def Q51.as : List MK := [.o (.ptr 115 (.prod (.prod (.d .str) (.prod (.d tI) (.prod (.d tI) (.prod (.own 107 (.prod (.int .u8) (.prod tI (.prod tI (.slice 127 (.prod tI (.prod tI (.prod tI tI)))))))) (.prod (.own 3 tI) (.prod (.d .bool) (.prod (.d .bool) (.prod (.own 109 (.prod tI (.prod tI (.prod tI .bool)))) (.d (.prod tI (.prod tI tI))))))))))) (.prod (.prod (.own 3 tI) (.prod (.prod (.own 3 tI) (.own 3 tI)) (.d (.prod tI tI)))) (.prod (.d (.int .u64)) (.own 144 (.prod (.prod tI (.prod tI tI)) (.prod tI (.prod tI (.prod .bool (.prod tI (.int .u64))))))))))) true]
def Q51.rs : List (Bool × HT) := [(false, (.d tI))]
def Q51.lc : List AC := [.ptr 0 0]
def Q51.D (N : Nat) : DFn := ⟨Q51.as, Q51.rs, (Int × TBoard), fun x => Q51 N x.1, fun r o => (r.1, o.1), fun b => (b.1, ()), fun b => (b.2, ()), none⟩
theorem Q51.fit (N : Nat) : (Q51.D N).Fit := ⟨fun _ _ => rfl, fun _ _ => rfl, by kernel_rfl, (fun _ _ h => nomatch h), by kernel_rfl⟩
noncomputable def Q51.G (N : Nat) : Gam := gamOf [(63, Q63.D N)]
def Q51.A : Nat → Option LoopAnn := fun _ => none
noncomputable def Q51.fin (N : Nat) : St → Option (Int × TBoard) := resK tb Try.f51.results.toList (decRes (Q51.D N) Q51.lc)
theorem Q51.entry (N : Nat) (rec : List Item → St → Option (Int × TBoard)) (x : (argH Q51.as).den) : seg tb (Q51.G N) Q51.A 8 rec (Q51.fin N) segFuel [.code (bodyOf Try.f51)] (initSt Try.f51 (encArgs Q51.as x) (encMem Q51.as x)) = Q51.e N x.1 := by kernel_rfl
theorem Q51.ok (N : Nat) : FnOk Try.prog 51 (Q51.D N) := by
 refine FnOk_of tb_ok (Checked.mixed Try.checked) ⟨Try.f51, Try.func51, by kernel_rfl, by kernel_rfl, fun x y h => ⟨Q51.G N, Q51.A, N, gamOf_ok (by simp only [List.forall_mem_cons, List.not_mem_nil, false_implies, implies_true, and_true]; exact ⟨Q63.ok N, Q63.fit N⟩), ?_⟩⟩ (Q51.fit N)
 rw [absFn_n (n0 := 8) rfl (by kernel_rfl)]
 exact (Q51.entry N _ x).trans h
def Q53.as : List MK := [.o (.nd 77 73 (.slice 41 (.prod tI (.prod tI tI))) (.prod tI (.prod tI .bool))) true, .d false .bool]
def Q53.rs : List (Bool × HT) := []
def Q53.lc (n_ : ((List (LMv × List Int × (Int × (Int × Bool)))) × Int)) (own : Bool) : List AC := [.nr n_.2]
def Q53.D (N : Nat) : DFn := ⟨Q53.as, Q53.rs, ((List (LMv × List Int × (Int × (Int × Bool)))) × Int), fun x => Q53 N x.1 x.2.1, fun r o => o.1, fun b => (), fun b => (b, ()), none⟩
theorem Q53.fit (N : Nat) : (Q53.D N).Fit := ⟨fun _ _ => rfl, fun _ _ => rfl, by kernel_rfl, (fun _ _ h => nomatch h), by kernel_rfl⟩
noncomputable def Q53.G (N : Nat) : Gam := gamOf []
def Q53.A : Nat → Option LoopAnn := fun k => bif Nat.beq k 0 then some ⟨[0, 1, 4, 5, 13, 14, 15], [], [], [], [], 1, false⟩ else none
noncomputable def Q53.fin (N : Nat) (n_ : ((List (LMv × List Int × (Int × (Int × Bool)))) × Int)) (own : Bool) : St → Option ((List (LMv × List Int × (Int × (Int × Bool)))) × Int) := resK tb Try.f53.results.toList (decRes (Q53.D N) (Q53.lc n_ own))
noncomputable def Q53.k0 : List Item := stackAt [.r, .l, .r, .b] (bodyOf Try.f53) []
def Q53.st0 (n_ : ((List (LMv × List Int × (Int × (Int × Bool)))) × Int)) (own : Bool) (least sum t14_ t15_ : Int) : St := ⟨[.one (.nr n_.2), .one (.bool own), .one .any, .one .any, .one (.int .i64 least), .one (.int .i64 sum)] ++ List.replicate 7 (.one .any) ++ [.one (.kd n_.2 ((gD (([] : LMv), ([] : List Int), ((0 : Int), ((0 : Int), false))) n_.1 n_.2).2.1.length : Int)), .one (.int .i64 t14_), .one (.int .i64 t15_)] ++ List.replicate 41 (.one .any), [.arena 77 73 (.slice 41 (.prod tI (.prod tI tI))) (.prod tI (.prod tI .bool)) n_.1 none]⟩
theorem Q53.step0 (N : Nat) (rec : List Item → St → Option ((List (LMv × List Int × (Int × (Int × Bool)))) × Int)) (n_ : ((List (LMv × List Int × (Int × (Int × Bool)))) × Int)) (own : Bool) (least sum t14_ t15_ : Int) : seg tb (Q53.G N) Q53.A 1 rec (Q53.fin N n_ own) segFuel (loopBody Q53.k0) (Q53.st0 n_ own least sum t14_ t15_) = Q53.s0 N n_ own (fun least sum t14_ t15_ => rec Q53.k0 (Q53.st0 n_ own least sum t14_ t15_)) least sum t14_ t15_ := by kernel_rfl
theorem Q53.entry (N : Nat) (rec : List Item → St → Option ((List (LMv × List Int × (Int × (Int × Bool)))) × Int)) (x : (argH Q53.as).den) : seg tb (Q53.G N) Q53.A 1 rec (Q53.fin N x.1 x.2.1) segFuel [.code (bodyOf Try.f53)] (initSt Try.f53 (encArgs Q53.as x) (encMem Q53.as x)) = Q53.e N (fun least sum t14_ t15_ => rec Q53.k0 (Q53.st0 x.1 x.2.1 least sum t14_ t15_)) x.1 x.2.1 := by kernel_rfl
theorem Q53.runs (N : Nat) (n_ : ((List (LMv × List Int × (Int × (Int × Bool)))) × Int)) (own : Bool) : ∀ n, (∀ (least sum t14_ t15_ : Int), run tb (Q53.G N) Q53.A 1 (Q53.fin N n_ own) n Q53.k0 (Q53.st0 n_ own least sum t14_ t15_) = Q53.l0 N n_ own n least sum t14_ t15_)
 | 0 => fun _ _ _ _ => rfl
 | n + 1 => by
  have h0 := Q53.runs N n_ own n
  have e0 : (fun (least sum t14_ t15_ : Int) => run tb (Q53.G N) Q53.A 1 (Q53.fin N n_ own) n Q53.k0 (Q53.st0 n_ own least sum t14_ t15_)) = Q53.l0 N n_ own n := by funext least sum t14_ t15_; exact h0 least sum t14_ t15_
  have g0 : (∀ (least sum t14_ t15_ : Int), run tb (Q53.G N) Q53.A 1 (Q53.fin N n_ own) (n + 1) Q53.k0 (Q53.st0 n_ own least sum t14_ t15_) = Q53.l0 N n_ own (n + 1) least sum t14_ t15_) := by
   intro least sum t14_ t15_
   exact (run_succ (by kernel_rfl)).trans ((Q53.step0 N _ n_ own least sum t14_ t15_).trans ((congrArg (fun r0 => Q53.s0 N n_ own r0 least sum t14_ t15_) e0).trans (Q53.l0_s N n_ own n least sum t14_ t15_).symm))
  exact g0
theorem Q53.ok (N : Nat) : FnOk Try.prog 53 (Q53.D N) := by
 refine FnOk_of tb_ok (Checked.mixed Try.checked) ⟨Try.f53, Try.func53, by kernel_rfl, by kernel_rfl, fun x y h => ⟨Q53.G N, Q53.A, N, gamOf_ok (fun p hp => nomatch hp), ?_⟩⟩ (Q53.fit N)
 rw [absFn_n (n0 := 1) rfl (by kernel_rfl)]
 refine (Q53.entry N (run tb (Q53.G N) Q53.A 1 (Q53.fin N x.1 x.2.1) N) x).trans ?_
 have e0 : (fun (least sum t14_ t15_ : Int) => run tb (Q53.G N) Q53.A 1 (Q53.fin N x.1 x.2.1) N Q53.k0 (Q53.st0 x.1 x.2.1 least sum t14_ t15_)) = Q53.l0 N x.1 x.2.1 N := by funext least sum t14_ t15_; exact (Q53.runs N x.1 x.2.1 N) least sum t14_ t15_
 have h' : (Q53.D N).f x = Q53.e N (Q53.l0 N x.1 x.2.1 N) x.1 x.2.1 := by kernel_rfl
 exact (congrArg (fun r0 => Q53.e N r0 x.1 x.2.1) e0).trans (h'.symm.trans h)
def Q34.as : List MK := [.r (.prod (.prod .str (.prod tI (.prod tI (.prod (.slice 107 (.prod (.int .u8) (.prod tI (.prod tI (.slice 127 (.prod tI (.prod tI (.prod tI tI)))))))) (.prod (.slice 3 tI) (.prod .bool (.prod .bool (.prod (.slice 109 (.prod tI (.prod tI (.prod tI .bool)))) (.prod tI (.prod tI tI)))))))))) (.prod (.prod (.slice 3 tI) (.prod (.prod (.slice 3 tI) (.slice 3 tI)) (.prod tI tI))) (.prod (.int .u64) (.slice 144 (.prod (.prod tI (.prod tI tI)) (.prod tI (.prod tI (.prod .bool (.prod tI (.int .u64))))))))))]
def Q34.rs : List (Bool × HT) := [(false, (.own 41 (.prod tI (.prod tI tI))))]
def Q34.lc : List AC := []
def Q34.D (N : Nat) : DFn := ⟨Q34.as, Q34.rs, LMv, fun x => Q34 N x.1, fun r o => r.1, fun b => (b, ()), fun b => (), none⟩
theorem Q34.fit (N : Nat) : (Q34.D N).Fit := ⟨fun _ _ => rfl, fun _ _ => rfl, by kernel_rfl, (fun _ _ h => nomatch h), by kernel_rfl⟩
noncomputable def Q34.G (N : Nat) : Gam := gamOf [(32, Q32.D N), (38, Q38.D N)]
def Q34.A : Nat → Option LoopAnn := fun _ => none
noncomputable def Q34.fin (N : Nat) : St → Option LMv := resK tb Try.f34.results.toList (decRes (Q34.D N) Q34.lc)
theorem Q34.entry (N : Nat) (rec : List Item → St → Option LMv) (x : (argH Q34.as).den) : seg tb (Q34.G N) Q34.A 0 rec (Q34.fin N) segFuel [.code (bodyOf Try.f34)] (initSt Try.f34 (encArgs Q34.as x) (encMem Q34.as x)) = Q34.e N x.1 := by kernel_rfl
theorem Q34.ok (N : Nat) : FnOk Try.prog 34 (Q34.D N) := by
 refine FnOk_of tb_ok (Checked.mixed Try.checked) ⟨Try.f34, Try.func34, by kernel_rfl, by kernel_rfl, fun x y h => ⟨Q34.G N, Q34.A, N, gamOf_ok (by simp only [List.forall_mem_cons, List.not_mem_nil, false_implies, implies_true, and_true]; exact ⟨⟨Q32.ok N, Q32.fit N⟩, ⟨Q38.ok N, Q38.fit N⟩⟩), ?_⟩⟩ (Q34.fit N)
 rw [absFn_n (n0 := 0) rfl (by kernel_rfl)]
 exact (Q34.entry N _ x).trans h
def Q52.as : List MK := [.o (.ptr 72 (.prod (.ptr 115 (.prod (.prod (.d .str) (.prod (.d tI) (.prod (.d tI) (.prod (.own 107 (.prod (.int .u8) (.prod tI (.prod tI (.slice 127 (.prod tI (.prod tI (.prod tI tI)))))))) (.prod (.own 3 tI) (.prod (.d .bool) (.prod (.d .bool) (.prod (.own 109 (.prod tI (.prod tI (.prod tI .bool)))) (.d (.prod tI (.prod tI tI))))))))))) (.prod (.prod (.own 3 tI) (.prod (.prod (.own 3 tI) (.own 3 tI)) (.d (.prod tI tI)))) (.prod (.d (.int .u64)) (.own 144 (.prod (.prod tI (.prod tI tI)) (.prod tI (.prod tI (.prod .bool (.prod tI (.int .u64))))))))))) (.d (.prod tI tI)))) true, .o (.nd 77 73 (.slice 41 (.prod tI (.prod tI tI))) (.prod tI (.prod tI .bool))) true]
def Q52.rs : List (Bool × HT) := []
def Q52.lc (x_ : (TBoard × (Int × Int))) (n_ : ((List (LMv × List Int × (Int × (Int × Bool)))) × Int)) : List AC := [.ptr 0 0, .nr n_.2]
def Q52.D (N : Nat) : DFn := ⟨Q52.as, Q52.rs, ((TBoard × (Int × Int)) × ((List (LMv × List Int × (Int × (Int × Bool)))) × Int)), fun x => Q52 N x.1 x.2.1, fun r o => (o.1, o.2.1), fun b => (), fun b => (b.1, (b.2, ())), some [1]⟩
theorem Q52.fit (N : Nat) : (Q52.D N).Fit := ⟨fun _ _ => rfl, fun _ _ => rfl, by kernel_rfl, (fun x L h => by cases h; kernel_rfl), by kernel_rfl⟩
noncomputable def Q52.G (N : Nat) : Gam := gamOf [(34, Q34.D N), (50, Q50.D N), (29, Q29.D N), (51, Q51.D N)]
def Q52.A : Nat → Option LoopAnn := fun k => bif Nat.beq k 0 then some ⟨[0, 1, 27, 28, 29], [], [], [(true, 1, 3, 11), (true, 1, 4, 12), (true, 1, 7, 13), (true, 1, 11, 14), (true, 1, 12, 15), (true, 1, 13, 16), (true, 1, 17, 17), (false, 1000000, 0, 18)], [], 19, false⟩ else bif Nat.beq k 3000029 then some ⟨[], [], [], [], [], 0, false⟩ else bif Nat.beq k 3000050 then some ⟨[], [], [], [], [], 0, false⟩ else none
noncomputable def Q52.fin (N : Nat) (x_ : (TBoard × (Int × Int))) (n_ : ((List (LMv × List Int × (Int × (Int × Bool)))) × Int)) : St → Option ((TBoard × (Int × Int)) × ((List (LMv × List Int × (Int × (Int × Bool)))) × Int)) := resK tb Try.f52.results.toList (decRes (Q52.D N) (Q52.lc x_ n_))
noncomputable def Q52.k0 : List Item := stackAt [.r, .r, .r, .r, .b] (bodyOf Try.f52) []
def Q52.st0 (x_ : (TBoard × (Int × Int))) (n_ : ((List (LMv × List Int × (Int × (Int × Bool)))) × Int)) (t27_ : LMv) (t28_ t29_ x_2 x_3 : Int) (m1_ : ByteArray) (m1_2 m1_3 : Int) (m1_4 m1_5 : Bool) (m1_6 m1_7 m1_8 m1_9 m1_10 m1_11 : Int) (m11_ : (List TPiece)) (m12_ : LInt) (m13_ : (List TEnd)) (m14_ m15_ m16_ : LInt) (m17_ : (List TUndo)) (nodes : (List (LMv × List Int × (Int × (Int × Bool))))) : St := ⟨[.one (.ptr 0 0), .one (.nr n_.2)] ++ List.replicate 25 (.one .any) ++ [.one (.fro 41 (.prod tI (.prod tI tI)) t27_), .one (.int .i64 t28_), .one (.int .i64 t29_)] ++ List.replicate 26 (.one .any), [.var 72 [.ptr 1 0, .int .i64 x_2, .int .i64 x_3], .var 115 [.str m1_, .int .i64 m1_2, .int .i64 m1_3, .own 11, .own 12, .bool m1_4, .bool m1_5, .own 13, .int .i64 m1_6, .int .i64 m1_7, .int .i64 m1_8, .own 14, .own 15, .own 16, .int .i64 m1_9, .int .i64 m1_10, .int .u64 m1_11, .own 17], .gone, .gone, .gone, .gone, .gone, .gone, .gone, .gone, .gone, .row 107 (.prod (.int .u8) (.prod tI (.prod tI (.slice 127 (.prod tI (.prod tI (.prod tI tI))))))) m11_, .row 3 tI m12_, .row 109 (.prod tI (.prod tI (.prod tI .bool))) m13_, .row 3 tI m14_, .row 3 tI m15_, .row 3 tI m16_, .row 144 (.prod (.prod tI (.prod tI tI)) (.prod tI (.prod tI (.prod .bool (.prod tI (.int .u64)))))) m17_, .arena 77 73 (.slice 41 (.prod tI (.prod tI tI))) (.prod tI (.prod tI .bool)) nodes none]⟩
theorem Q52.step0 (N : Nat) (rec : List Item → St → Option ((TBoard × (Int × Int)) × ((List (LMv × List Int × (Int × (Int × Bool)))) × Int))) (x_ : (TBoard × (Int × Int))) (n_ : ((List (LMv × List Int × (Int × (Int × Bool)))) × Int)) (t27_ : LMv) (t28_ t29_ x_2 x_3 : Int) (m1_ : ByteArray) (m1_2 m1_3 : Int) (m1_4 m1_5 : Bool) (m1_6 m1_7 m1_8 m1_9 m1_10 m1_11 : Int) (m11_ : (List TPiece)) (m12_ : LInt) (m13_ : (List TEnd)) (m14_ m15_ m16_ : LInt) (m17_ : (List TUndo)) (nodes : (List (LMv × List Int × (Int × (Int × Bool))))) : seg tb (Q52.G N) Q52.A 10 rec (Q52.fin N x_ n_) segFuel (loopBody Q52.k0) (Q52.st0 x_ n_ t27_ t28_ t29_ x_2 x_3 m1_ m1_2 m1_3 m1_4 m1_5 m1_6 m1_7 m1_8 m1_9 m1_10 m1_11 m11_ m12_ m13_ m14_ m15_ m16_ m17_ nodes) = Q52.s0 N x_ n_ (fun t27_ t28_ t29_ x_2 x_3 m1_ m1_2 m1_3 m1_4 m1_5 m1_6 m1_7 m1_8 m1_9 m1_10 m1_11 m11_ m12_ m13_ m14_ m15_ m16_ m17_ nodes => rec Q52.k0 (Q52.st0 x_ n_ t27_ t28_ t29_ x_2 x_3 m1_ m1_2 m1_3 m1_4 m1_5 m1_6 m1_7 m1_8 m1_9 m1_10 m1_11 m11_ m12_ m13_ m14_ m15_ m16_ m17_ nodes)) t27_ t28_ t29_ x_2 x_3 m1_ m1_2 m1_3 m1_4 m1_5 m1_6 m1_7 m1_8 m1_9 m1_10 m1_11 m11_ m12_ m13_ m14_ m15_ m16_ m17_ nodes := by kernel_rfl
theorem Q52.entry (N : Nat) (rec : List Item → St → Option ((TBoard × (Int × Int)) × ((List (LMv × List Int × (Int × (Int × Bool)))) × Int))) (x : (argH Q52.as).den) : seg tb (Q52.G N) Q52.A 10 rec (Q52.fin N x.1 x.2.1) segFuel [.code (bodyOf Try.f52)] (initSt Try.f52 (encArgs Q52.as x) (encMem Q52.as x)) = Q52.e N (fun t27_ t28_ t29_ x_2 x_3 m1_ m1_2 m1_3 m1_4 m1_5 m1_6 m1_7 m1_8 m1_9 m1_10 m1_11 m11_ m12_ m13_ m14_ m15_ m16_ m17_ nodes => rec Q52.k0 (Q52.st0 x.1 x.2.1 t27_ t28_ t29_ x_2 x_3 m1_ m1_2 m1_3 m1_4 m1_5 m1_6 m1_7 m1_8 m1_9 m1_10 m1_11 m11_ m12_ m13_ m14_ m15_ m16_ m17_ nodes)) x.1 x.2.1 := by kernel_rfl
theorem Q52.runs (N : Nat) (x_ : (TBoard × (Int × Int))) (n_ : ((List (LMv × List Int × (Int × (Int × Bool)))) × Int)) : ∀ n, (∀ (t27_ : LMv) (t28_ t29_ x_2 x_3 : Int) (m1_ : ByteArray) (m1_2 m1_3 : Int) (m1_4 m1_5 : Bool) (m1_6 m1_7 m1_8 m1_9 m1_10 m1_11 : Int) (m11_ : (List TPiece)) (m12_ : LInt) (m13_ : (List TEnd)) (m14_ m15_ m16_ : LInt) (m17_ : (List TUndo)) (nodes : (List (LMv × List Int × (Int × (Int × Bool))))), run tb (Q52.G N) Q52.A 10 (Q52.fin N x_ n_) n Q52.k0 (Q52.st0 x_ n_ t27_ t28_ t29_ x_2 x_3 m1_ m1_2 m1_3 m1_4 m1_5 m1_6 m1_7 m1_8 m1_9 m1_10 m1_11 m11_ m12_ m13_ m14_ m15_ m16_ m17_ nodes) = Q52.l0 N x_ n_ n t27_ t28_ t29_ x_2 x_3 m1_ m1_2 m1_3 m1_4 m1_5 m1_6 m1_7 m1_8 m1_9 m1_10 m1_11 m11_ m12_ m13_ m14_ m15_ m16_ m17_ nodes)
 | 0 => fun _ _ _ _ _ _ _ _ _ _ _ _ _ _ _ _ _ _ _ _ _ _ _ _ => rfl
 | n + 1 => by
  have h0 := Q52.runs N x_ n_ n
  have e0 : (fun (t27_ : LMv) (t28_ t29_ x_2 x_3 : Int) (m1_ : ByteArray) (m1_2 m1_3 : Int) (m1_4 m1_5 : Bool) (m1_6 m1_7 m1_8 m1_9 m1_10 m1_11 : Int) (m11_ : (List TPiece)) (m12_ : LInt) (m13_ : (List TEnd)) (m14_ m15_ m16_ : LInt) (m17_ : (List TUndo)) (nodes : (List (LMv × List Int × (Int × (Int × Bool))))) => run tb (Q52.G N) Q52.A 10 (Q52.fin N x_ n_) n Q52.k0 (Q52.st0 x_ n_ t27_ t28_ t29_ x_2 x_3 m1_ m1_2 m1_3 m1_4 m1_5 m1_6 m1_7 m1_8 m1_9 m1_10 m1_11 m11_ m12_ m13_ m14_ m15_ m16_ m17_ nodes)) = Q52.l0 N x_ n_ n := by funext t27_ t28_ t29_ x_2 x_3 m1_ m1_2 m1_3 m1_4 m1_5 m1_6 m1_7 m1_8 m1_9 m1_10 m1_11 m11_ m12_ m13_ m14_ m15_ m16_ m17_ nodes; exact h0 t27_ t28_ t29_ x_2 x_3 m1_ m1_2 m1_3 m1_4 m1_5 m1_6 m1_7 m1_8 m1_9 m1_10 m1_11 m11_ m12_ m13_ m14_ m15_ m16_ m17_ nodes
  have g0 : (∀ (t27_ : LMv) (t28_ t29_ x_2 x_3 : Int) (m1_ : ByteArray) (m1_2 m1_3 : Int) (m1_4 m1_5 : Bool) (m1_6 m1_7 m1_8 m1_9 m1_10 m1_11 : Int) (m11_ : (List TPiece)) (m12_ : LInt) (m13_ : (List TEnd)) (m14_ m15_ m16_ : LInt) (m17_ : (List TUndo)) (nodes : (List (LMv × List Int × (Int × (Int × Bool))))), run tb (Q52.G N) Q52.A 10 (Q52.fin N x_ n_) (n + 1) Q52.k0 (Q52.st0 x_ n_ t27_ t28_ t29_ x_2 x_3 m1_ m1_2 m1_3 m1_4 m1_5 m1_6 m1_7 m1_8 m1_9 m1_10 m1_11 m11_ m12_ m13_ m14_ m15_ m16_ m17_ nodes) = Q52.l0 N x_ n_ (n + 1) t27_ t28_ t29_ x_2 x_3 m1_ m1_2 m1_3 m1_4 m1_5 m1_6 m1_7 m1_8 m1_9 m1_10 m1_11 m11_ m12_ m13_ m14_ m15_ m16_ m17_ nodes) := by
   intro t27_ t28_ t29_ x_2 x_3 m1_ m1_2 m1_3 m1_4 m1_5 m1_6 m1_7 m1_8 m1_9 m1_10 m1_11 m11_ m12_ m13_ m14_ m15_ m16_ m17_ nodes
   exact (run_succ (by kernel_rfl)).trans ((Q52.step0 N _ x_ n_ t27_ t28_ t29_ x_2 x_3 m1_ m1_2 m1_3 m1_4 m1_5 m1_6 m1_7 m1_8 m1_9 m1_10 m1_11 m11_ m12_ m13_ m14_ m15_ m16_ m17_ nodes).trans ((congrArg (fun r0 => Q52.s0 N x_ n_ r0 t27_ t28_ t29_ x_2 x_3 m1_ m1_2 m1_3 m1_4 m1_5 m1_6 m1_7 m1_8 m1_9 m1_10 m1_11 m11_ m12_ m13_ m14_ m15_ m16_ m17_ nodes) e0).trans (Q52.l0_s N x_ n_ n t27_ t28_ t29_ x_2 x_3 m1_ m1_2 m1_3 m1_4 m1_5 m1_6 m1_7 m1_8 m1_9 m1_10 m1_11 m11_ m12_ m13_ m14_ m15_ m16_ m17_ nodes).symm))
  exact g0
theorem Q52.ok (N : Nat) : FnOk Try.prog 52 (Q52.D N) := by
 refine FnOk_of tb_ok (Checked.mixed Try.checked) ⟨Try.f52, Try.func52, by kernel_rfl, by kernel_rfl, fun x y h => ⟨Q52.G N, Q52.A, N, gamOf_ok (by simp only [List.forall_mem_cons, List.not_mem_nil, false_implies, implies_true, and_true]; exact ⟨⟨Q34.ok N, Q34.fit N⟩, ⟨Q50.ok N, Q50.fit N⟩, ⟨Q29.ok N, Q29.fit N⟩, ⟨Q51.ok N, Q51.fit N⟩⟩), ?_⟩⟩ (Q52.fit N)
 rw [absFn_n (n0 := 10) rfl (by kernel_rfl)]
 refine (Q52.entry N (run tb (Q52.G N) Q52.A 10 (Q52.fin N x.1 x.2.1) N) x).trans ?_
 have e0 : (fun (t27_ : LMv) (t28_ t29_ x_2 x_3 : Int) (m1_ : ByteArray) (m1_2 m1_3 : Int) (m1_4 m1_5 : Bool) (m1_6 m1_7 m1_8 m1_9 m1_10 m1_11 : Int) (m11_ : (List TPiece)) (m12_ : LInt) (m13_ : (List TEnd)) (m14_ m15_ m16_ : LInt) (m17_ : (List TUndo)) (nodes : (List (LMv × List Int × (Int × (Int × Bool))))) => run tb (Q52.G N) Q52.A 10 (Q52.fin N x.1 x.2.1) N Q52.k0 (Q52.st0 x.1 x.2.1 t27_ t28_ t29_ x_2 x_3 m1_ m1_2 m1_3 m1_4 m1_5 m1_6 m1_7 m1_8 m1_9 m1_10 m1_11 m11_ m12_ m13_ m14_ m15_ m16_ m17_ nodes)) = Q52.l0 N x.1 x.2.1 N := by funext t27_ t28_ t29_ x_2 x_3 m1_ m1_2 m1_3 m1_4 m1_5 m1_6 m1_7 m1_8 m1_9 m1_10 m1_11 m11_ m12_ m13_ m14_ m15_ m16_ m17_ nodes; exact (Q52.runs N x.1 x.2.1 N) t27_ t28_ t29_ x_2 x_3 m1_ m1_2 m1_3 m1_4 m1_5 m1_6 m1_7 m1_8 m1_9 m1_10 m1_11 m11_ m12_ m13_ m14_ m15_ m16_ m17_ nodes
 have h' : (Q52.D N).f x = Q52.e N (Q52.l0 N x.1 x.2.1 N) x.1 x.2.1 := by kernel_rfl
 exact (congrArg (fun r0 => Q52.e N r0 x.1 x.2.1) e0).trans (h'.symm.trans h)
def Q30.as : List MK := [.o (.ptr 72 (.prod (.ptr 115 (.prod (.prod (.d .str) (.prod (.d tI) (.prod (.d tI) (.prod (.own 107 (.prod (.int .u8) (.prod tI (.prod tI (.slice 127 (.prod tI (.prod tI (.prod tI tI)))))))) (.prod (.own 3 tI) (.prod (.d .bool) (.prod (.d .bool) (.prod (.own 109 (.prod tI (.prod tI (.prod tI .bool)))) (.d (.prod tI (.prod tI tI))))))))))) (.prod (.prod (.own 3 tI) (.prod (.prod (.own 3 tI) (.own 3 tI)) (.d (.prod tI tI)))) (.prod (.d (.int .u64)) (.own 144 (.prod (.prod tI (.prod tI tI)) (.prod tI (.prod tI (.prod .bool (.prod tI (.int .u64))))))))))) (.d (.prod tI tI)))) true, .o (.nd 77 73 (.slice 41 (.prod tI (.prod tI tI))) (.prod tI (.prod tI .bool))) true]
def Q30.rs : List (Bool × HT) := []
def Q30.lc (x_ : (TBoard × (Int × Int))) (n_ : ((List (LMv × List Int × (Int × (Int × Bool)))) × Int)) : List AC := [.ptr 0 0, .nr n_.2]
def Q30.D (N : Nat) : DFn := ⟨Q30.as, Q30.rs, ((TBoard × (Int × Int)) × ((List (LMv × List Int × (Int × (Int × Bool)))) × Int)), fun x => Q30 N x.1 x.2.1, fun r o => (o.1, o.2.1), fun b => (), fun b => (b.1, (b.2, ())), some [1]⟩
theorem Q30.fit (N : Nat) : (Q30.D N).Fit := ⟨fun _ _ => rfl, fun _ _ => rfl, by kernel_rfl, (fun x L h => by cases h; kernel_rfl), by kernel_rfl⟩
noncomputable def Q30.G (N : Nat) : Gam := gamOf [(28, Q28.D N), (49, Q49.D N), (50, Q50.D N), (51, Q51.D N), (53, Q53.D N), (52, Q52.D N), (30, Q30.D N)]
def Q30.A : Nat → Option LoopAnn := fun k => bif Nat.beq k 3000050 then some ⟨[], [], [], [], [], 0, false⟩ else none
noncomputable def Q30.fin (N : Nat) (x_ : (TBoard × (Int × Int))) (n_ : ((List (LMv × List Int × (Int × (Int × Bool)))) × Int)) : St → Option ((TBoard × (Int × Int)) × ((List (LMv × List Int × (Int × (Int × Bool)))) × Int)) := resK tb Try.f30.results.toList (decRes (Q30.D (N + 1)) (Q30.lc x_ n_))
theorem Q30.entry (N : Nat) (rec : List Item → St → Option ((TBoard × (Int × Int)) × ((List (LMv × List Int × (Int × (Int × Bool)))) × Int))) (x : (argH Q30.as).den) : seg tb (Q30.G N) Q30.A 10 rec (Q30.fin N x.1 x.2.1) segFuel [.code (bodyOf Try.f30)] (initSt Try.f30 (encArgs Q30.as x) (encMem Q30.as x)) = Q30.e N (Q30 N) x.1 x.2.1 := by kernel_rfl
theorem Q30.ok1 (N : Nat) (ih : FnOk Try.prog 30 (Q30.D N)) : FnOk Try.prog 30 (Q30.D (N + 1)) := by
 refine FnOk_of tb_ok (Checked.mixed Try.checked) ⟨Try.f30, Try.func30, by kernel_rfl, by kernel_rfl, fun x y h => ⟨Q30.G N, Q30.A, N, gamOf_ok (by simp only [List.forall_mem_cons, List.not_mem_nil, false_implies, implies_true, and_true]; exact ⟨⟨Q28.ok N, Q28.fit N⟩, ⟨Q49.ok N, Q49.fit N⟩, ⟨Q50.ok N, Q50.fit N⟩, ⟨Q51.ok N, Q51.fit N⟩, ⟨Q53.ok N, Q53.fit N⟩, ⟨Q52.ok N, Q52.fit N⟩, ⟨ih, Q30.fit N⟩⟩), ?_⟩⟩ (Q30.fit (N + 1))
 rw [absFn_n (n0 := 10) rfl (by kernel_rfl)]
 exact (Q30.entry N _ x).trans h
theorem Q30.ok : ∀ N, FnOk Try.prog 30 (Q30.D N)
 | 0 => FnOk_none Try.func30 (by kernel_rfl) (by kernel_rfl) (fun x => rfl)
 | N + 1 => Q30.ok1 N (Q30.ok N)
def Q10.as : List MK := [.d true (.prod .str (.prod tI (.prod tI (.prod (.slice 107 (.prod (.int .u8) (.prod tI (.prod tI (.slice 127 (.prod tI (.prod tI (.prod tI tI)))))))) (.prod (.slice 3 tI) (.prod .bool (.prod .bool (.prod (.slice 109 (.prod tI (.prod tI (.prod tI .bool)))) (.prod tI (.prod tI tI)))))))))), .d true (.prod (.slice 3 tI) (.prod (.prod (.slice 3 tI) (.slice 3 tI)) (.prod tI tI))), .d false tI]
def Q10.rs : List (Bool × HT) := [(true, (.d (.prod tI (.prod tI (.prod tI tI))))), (false, (.d tI))]
def Q10.lc : List AC := []
def Q10.D (N : Nat) : DFn := ⟨Q10.as, Q10.rs, (TWay × Int), fun x => Q10 N x.1 x.2.1 x.2.2.1, fun r o => (r.1, r.2.1), fun b => (b.1, (b.2, ())), fun b => (), none⟩
theorem Q10.fit (N : Nat) : (Q10.D N).Fit := ⟨fun _ _ => rfl, fun _ _ => rfl, by kernel_rfl, (fun _ _ h => nomatch h), by kernel_rfl⟩
noncomputable def Q10.G (N : Nat) : Gam := gamOf [(27, Q27.D N), (28, Q28.D N), (29, Q29.D N), (30, Q30.D N)]
def Q10.A : Nat → Option LoopAnn := fun k => bif Nat.beq k 0 then some ⟨[2, 6, 10, 11], [(11, 0)], [], [(true, 4, 3, 15), (true, 4, 4, 16), (true, 4, 7, 17), (true, 4, 11, 18), (true, 4, 12, 19), (true, 4, 13, 20), (true, 4, 17, 21), (false, 1000000, 0, 22)], [1, 2], 23, false⟩ else none
noncomputable def Q10.fin (N : Nat) : St → Option (TWay × Int) := resK tb Try.f10.results.toList (decRes (Q10.D N) Q10.lc)
noncomputable def Q10.k0 : List Item := stackAt [.r, .r, .r, .r, .r, .r, .l, .b] (bodyOf Try.f10) []
def Q10.st0 (r_ : TRules) (p_ : TPos) (budget : Int) (m4_ : ByteArray) (m4_2 m4_3 : Int) (m4_4 m4_5 : Bool) (m4_6 m4_7 m4_8 m4_9 m4_10 m4_11 x_ x_2 : Int) (m15_ : (List TPiece)) (m16_ : LInt) (m17_ : (List TEnd)) (m18_ m19_ m20_ : LInt) (m21_ : (List TUndo)) (nodes : (List (LMv × List Int × (Int × (Int × Bool))))) : St := ⟨[.one .any, .one .any, .one (.int .i64 budget)] ++ List.replicate 3 (.one .any) ++ [.one (.ptr 3 0)] ++ List.replicate 3 (.one .any) ++ [.one (.ptr 12 0), .one (.nr 0)] ++ List.replicate 76 (.one .any), [.gone, .gone, .gone, .var 32 [.int .i64 0, .int .i64 0, .int .i64 0, .int .i64 0], .var 115 [.str m4_, .int .i64 m4_2, .int .i64 m4_3, .own 15, .own 16, .bool m4_4, .bool m4_5, .own 17, .int .i64 m4_6, .int .i64 m4_7, .int .i64 m4_8, .own 18, .own 19, .own 20, .int .i64 m4_9, .int .i64 m4_10, .int .u64 m4_11, .own 21], .gone, .gone, .gone, .gone, .gone, .gone, .gone, .var 72 [.ptr 4 0, .int .i64 x_, .int .i64 x_2], .gone, .gone, .row 107 (.prod (.int .u8) (.prod tI (.prod tI (.slice 127 (.prod tI (.prod tI (.prod tI tI))))))) m15_, .row 3 tI m16_, .row 109 (.prod tI (.prod tI (.prod tI .bool))) m17_, .row 3 tI m18_, .row 3 tI m19_, .row 3 tI m20_, .row 144 (.prod (.prod tI (.prod tI tI)) (.prod tI (.prod tI (.prod .bool (.prod tI (.int .u64)))))) m21_, .arena 77 73 (.slice 41 (.prod tI (.prod tI tI))) (.prod tI (.prod tI .bool)) nodes none]⟩
theorem Q10.step0 (N : Nat) (rec : List Item → St → Option (TWay × Int)) (r_ : TRules) (p_ : TPos) (budget : Int) (m4_ : ByteArray) (m4_2 m4_3 : Int) (m4_4 m4_5 : Bool) (m4_6 m4_7 m4_8 m4_9 m4_10 m4_11 x_ x_2 : Int) (m15_ : (List TPiece)) (m16_ : LInt) (m17_ : (List TEnd)) (m18_ m19_ m20_ : LInt) (m21_ : (List TUndo)) (nodes : (List (LMv × List Int × (Int × (Int × Bool))))) : seg tb (Q10.G N) Q10.A 1 rec (Q10.fin N) segFuel (loopBody Q10.k0) (Q10.st0 r_ p_ budget m4_ m4_2 m4_3 m4_4 m4_5 m4_6 m4_7 m4_8 m4_9 m4_10 m4_11 x_ x_2 m15_ m16_ m17_ m18_ m19_ m20_ m21_ nodes) = Q10.s0 N r_ p_ budget (fun m4_ m4_2 m4_3 m4_4 m4_5 m4_6 m4_7 m4_8 m4_9 m4_10 m4_11 x_ x_2 m15_ m16_ m17_ m18_ m19_ m20_ m21_ nodes => rec Q10.k0 (Q10.st0 r_ p_ budget m4_ m4_2 m4_3 m4_4 m4_5 m4_6 m4_7 m4_8 m4_9 m4_10 m4_11 x_ x_2 m15_ m16_ m17_ m18_ m19_ m20_ m21_ nodes)) m4_ m4_2 m4_3 m4_4 m4_5 m4_6 m4_7 m4_8 m4_9 m4_10 m4_11 x_ x_2 m15_ m16_ m17_ m18_ m19_ m20_ m21_ nodes := by kernel_rfl
theorem Q10.entry (N : Nat) (rec : List Item → St → Option (TWay × Int)) (x : (argH Q10.as).den) : seg tb (Q10.G N) Q10.A 1 rec (Q10.fin N) segFuel [.code (bodyOf Try.f10)] (initSt Try.f10 (encArgs Q10.as x) (encMem Q10.as x ++ [.arena 77 73 (.slice 41 (.prod tI (.prod tI tI))) (.prod tI (.prod tI .bool)) [] none])) = Q10.e N (fun m4_ m4_2 m4_3 m4_4 m4_5 m4_6 m4_7 m4_8 m4_9 m4_10 m4_11 x_ x_2 m15_ m16_ m17_ m18_ m19_ m20_ m21_ nodes => rec Q10.k0 (Q10.st0 x.1 x.2.1 x.2.2.1 m4_ m4_2 m4_3 m4_4 m4_5 m4_6 m4_7 m4_8 m4_9 m4_10 m4_11 x_ x_2 m15_ m16_ m17_ m18_ m19_ m20_ m21_ nodes)) x.1 x.2.1 x.2.2.1 := by kernel_rfl
theorem Q10.runs (N : Nat) (r_ : TRules) (p_ : TPos) (budget : Int) : ∀ n, (∀ (m4_ : ByteArray) (m4_2 m4_3 : Int) (m4_4 m4_5 : Bool) (m4_6 m4_7 m4_8 m4_9 m4_10 m4_11 x_ x_2 : Int) (m15_ : (List TPiece)) (m16_ : LInt) (m17_ : (List TEnd)) (m18_ m19_ m20_ : LInt) (m21_ : (List TUndo)) (nodes : (List (LMv × List Int × (Int × (Int × Bool))))), run tb (Q10.G N) Q10.A 1 (Q10.fin N) n Q10.k0 (Q10.st0 r_ p_ budget m4_ m4_2 m4_3 m4_4 m4_5 m4_6 m4_7 m4_8 m4_9 m4_10 m4_11 x_ x_2 m15_ m16_ m17_ m18_ m19_ m20_ m21_ nodes) = Q10.l0 N r_ p_ budget n m4_ m4_2 m4_3 m4_4 m4_5 m4_6 m4_7 m4_8 m4_9 m4_10 m4_11 x_ x_2 m15_ m16_ m17_ m18_ m19_ m20_ m21_ nodes)
 | 0 => fun _ _ _ _ _ _ _ _ _ _ _ _ _ _ _ _ _ _ _ _ _ => rfl
 | n + 1 => by
  have h0 := Q10.runs N r_ p_ budget n
  have e0 : (fun (m4_ : ByteArray) (m4_2 m4_3 : Int) (m4_4 m4_5 : Bool) (m4_6 m4_7 m4_8 m4_9 m4_10 m4_11 x_ x_2 : Int) (m15_ : (List TPiece)) (m16_ : LInt) (m17_ : (List TEnd)) (m18_ m19_ m20_ : LInt) (m21_ : (List TUndo)) (nodes : (List (LMv × List Int × (Int × (Int × Bool))))) => run tb (Q10.G N) Q10.A 1 (Q10.fin N) n Q10.k0 (Q10.st0 r_ p_ budget m4_ m4_2 m4_3 m4_4 m4_5 m4_6 m4_7 m4_8 m4_9 m4_10 m4_11 x_ x_2 m15_ m16_ m17_ m18_ m19_ m20_ m21_ nodes)) = Q10.l0 N r_ p_ budget n := by funext m4_ m4_2 m4_3 m4_4 m4_5 m4_6 m4_7 m4_8 m4_9 m4_10 m4_11 x_ x_2 m15_ m16_ m17_ m18_ m19_ m20_ m21_ nodes; exact h0 m4_ m4_2 m4_3 m4_4 m4_5 m4_6 m4_7 m4_8 m4_9 m4_10 m4_11 x_ x_2 m15_ m16_ m17_ m18_ m19_ m20_ m21_ nodes
  have g0 : (∀ (m4_ : ByteArray) (m4_2 m4_3 : Int) (m4_4 m4_5 : Bool) (m4_6 m4_7 m4_8 m4_9 m4_10 m4_11 x_ x_2 : Int) (m15_ : (List TPiece)) (m16_ : LInt) (m17_ : (List TEnd)) (m18_ m19_ m20_ : LInt) (m21_ : (List TUndo)) (nodes : (List (LMv × List Int × (Int × (Int × Bool))))), run tb (Q10.G N) Q10.A 1 (Q10.fin N) (n + 1) Q10.k0 (Q10.st0 r_ p_ budget m4_ m4_2 m4_3 m4_4 m4_5 m4_6 m4_7 m4_8 m4_9 m4_10 m4_11 x_ x_2 m15_ m16_ m17_ m18_ m19_ m20_ m21_ nodes) = Q10.l0 N r_ p_ budget (n + 1) m4_ m4_2 m4_3 m4_4 m4_5 m4_6 m4_7 m4_8 m4_9 m4_10 m4_11 x_ x_2 m15_ m16_ m17_ m18_ m19_ m20_ m21_ nodes) := by
   intro m4_ m4_2 m4_3 m4_4 m4_5 m4_6 m4_7 m4_8 m4_9 m4_10 m4_11 x_ x_2 m15_ m16_ m17_ m18_ m19_ m20_ m21_ nodes
   exact (run_succ (by kernel_rfl)).trans ((Q10.step0 N _ r_ p_ budget m4_ m4_2 m4_3 m4_4 m4_5 m4_6 m4_7 m4_8 m4_9 m4_10 m4_11 x_ x_2 m15_ m16_ m17_ m18_ m19_ m20_ m21_ nodes).trans ((congrArg (fun r0 => Q10.s0 N r_ p_ budget r0 m4_ m4_2 m4_3 m4_4 m4_5 m4_6 m4_7 m4_8 m4_9 m4_10 m4_11 x_ x_2 m15_ m16_ m17_ m18_ m19_ m20_ m21_ nodes) e0).trans (Q10.l0_s N r_ p_ budget n m4_ m4_2 m4_3 m4_4 m4_5 m4_6 m4_7 m4_8 m4_9 m4_10 m4_11 x_ x_2 m15_ m16_ m17_ m18_ m19_ m20_ m21_ nodes).symm))
  exact g0
theorem Q10.ok (N : Nat) : FnOk Try.prog 10 (Q10.D N) := by
 refine FnOk_ofA (T := 77) (e := 73) (a := (.slice 41 (.prod tI (.prod tI tI)))) (b := (.prod tI (.prod tI .bool))) tb_ok (Checked.mixed Try.checked) ⟨⟨by kernel_rfl, by kernel_rfl⟩, Try.f10, Try.func10, by kernel_rfl, by kernel_rfl, fun x y h => ⟨Q10.G N, Q10.A, N, gamOf_ok (by simp only [List.forall_mem_cons, List.not_mem_nil, false_implies, implies_true, and_true]; exact ⟨⟨Q27.ok N, Q27.fit N⟩, ⟨Q28.ok N, Q28.fit N⟩, ⟨Q29.ok N, Q29.fit N⟩, ⟨Q30.ok N, Q30.fit N⟩⟩), ?_⟩⟩ (Q10.fit N)
 rw [absFn_n (n0 := 1) rfl (by kernel_rfl)]
 refine (Q10.entry N (run tb (Q10.G N) Q10.A 1 (Q10.fin N) N) x).trans ?_
 have e0 : (fun (m4_ : ByteArray) (m4_2 m4_3 : Int) (m4_4 m4_5 : Bool) (m4_6 m4_7 m4_8 m4_9 m4_10 m4_11 x_ x_2 : Int) (m15_ : (List TPiece)) (m16_ : LInt) (m17_ : (List TEnd)) (m18_ m19_ m20_ : LInt) (m21_ : (List TUndo)) (nodes : (List (LMv × List Int × (Int × (Int × Bool))))) => run tb (Q10.G N) Q10.A 1 (Q10.fin N) N Q10.k0 (Q10.st0 x.1 x.2.1 x.2.2.1 m4_ m4_2 m4_3 m4_4 m4_5 m4_6 m4_7 m4_8 m4_9 m4_10 m4_11 x_ x_2 m15_ m16_ m17_ m18_ m19_ m20_ m21_ nodes)) = Q10.l0 N x.1 x.2.1 x.2.2.1 N := by funext m4_ m4_2 m4_3 m4_4 m4_5 m4_6 m4_7 m4_8 m4_9 m4_10 m4_11 x_ x_2 m15_ m16_ m17_ m18_ m19_ m20_ m21_ nodes; exact (Q10.runs N x.1 x.2.1 x.2.2.1 N) m4_ m4_2 m4_3 m4_4 m4_5 m4_6 m4_7 m4_8 m4_9 m4_10 m4_11 x_ x_2 m15_ m16_ m17_ m18_ m19_ m20_ m21_ nodes
 have h' : (Q10.D N).f x = Q10.e N (Q10.l0 N x.1 x.2.1 x.2.2.1 N) x.1 x.2.1 x.2.2.1 := by kernel_rfl
 exact (congrArg (fun r0 => Q10.e N r0 x.1 x.2.1 x.2.2.1) e0).trans (h'.symm.trans h)
def Q22.as : List MK := [.d true (.prod .str (.prod tI (.prod tI (.prod (.slice 107 (.prod (.int .u8) (.prod tI (.prod tI (.slice 127 (.prod tI (.prod tI (.prod tI tI)))))))) (.prod (.slice 3 tI) (.prod .bool (.prod .bool (.prod (.slice 109 (.prod tI (.prod tI (.prod tI .bool)))) (.prod tI (.prod tI tI)))))))))), .d true (.prod (.slice 3 tI) (.prod (.prod (.slice 3 tI) (.slice 3 tI)) (.prod tI tI))), .d false tI]
def Q22.rs : List (Bool × HT) := [(true, (.d (.prod tI (.prod tI tI)))), (false, (.d tI))]
def Q22.lc : List AC := []
def Q22.D (N : Nat) : DFn := ⟨Q22.as, Q22.rs, (TMv × Int), fun x => Q22 N x.1 x.2.1 x.2.2.1, fun r o => (r.1, r.2.1), fun b => (b.1, (b.2, ())), fun b => (), none⟩
theorem Q22.fit (N : Nat) : (Q22.D N).Fit := ⟨fun _ _ => rfl, fun _ _ => rfl, by kernel_rfl, (fun _ _ h => nomatch h), by kernel_rfl⟩
noncomputable def Q22.G (N : Nat) : Gam := gamOf [(10, Q10.D N), (27, Q27.D N), (28, Q28.D N), (29, Q29.D N), (30, Q30.D N)]
def Q22.A : Nat → Option LoopAnn := fun k => bif Nat.beq k 1 then some ⟨[6, 12, 13], [(13, 0)], [], [(true, 5, 3, 16), (true, 5, 4, 17), (true, 5, 7, 18), (true, 5, 11, 19), (true, 5, 12, 20), (true, 5, 13, 21), (true, 5, 17, 22), (false, 1000000, 0, 23)], [1, 2, 4], 24, false⟩ else bif Nat.beq k 3 then some ⟨[6, 13, 62, 63, 64], [], [], [], [5, 13, 16, 17, 18, 19, 20, 21, 22], 24, false⟩ else none
noncomputable def Q22.fin (N : Nat) : St → Option (TMv × Int) := resK tb Try.f22.results.toList (decRes (Q22.D N) Q22.lc)
noncomputable def Q22.k0 : List Item := stackAt [.r, .r, .r, .r, .r, .r, .l, .b] (bodyOf Try.f22) []
def Q22.st0 (r_ : TRules) (p_ : TPos) (budget : Int) (m5_ : ByteArray) (m5_2 m5_3 : Int) (m5_4 m5_5 : Bool) (m5_6 m5_7 m5_8 m5_9 m5_10 m5_11 x_ x_2 : Int) (m16_ : (List TPiece)) (m17_ : LInt) (m18_ : (List TEnd)) (m19_ m20_ m21_ : LInt) (m22_ : (List TUndo)) (nodes : (List (LMv × List Int × (Int × (Int × Bool))))) : St := ⟨List.replicate 6 (.one .any) ++ [.one (.ptr 3 0)] ++ List.replicate 5 (.one .any) ++ [.one (.ptr 13 0), .one (.nr 0)] ++ List.replicate 69 (.one .any), [.gone, .gone, .gone, .var 41 [.int .i64 0, .int .i64 0, .int .i64 0], .gone, .var 115 [.str m5_, .int .i64 m5_2, .int .i64 m5_3, .own 16, .own 17, .bool m5_4, .bool m5_5, .own 18, .int .i64 m5_6, .int .i64 m5_7, .int .i64 m5_8, .own 19, .own 20, .own 21, .int .i64 m5_9, .int .i64 m5_10, .int .u64 m5_11, .own 22], .gone, .gone, .gone, .gone, .gone, .gone, .gone, .var 72 [.ptr 5 0, .int .i64 x_, .int .i64 x_2], .gone, .gone, .row 107 (.prod (.int .u8) (.prod tI (.prod tI (.slice 127 (.prod tI (.prod tI (.prod tI tI))))))) m16_, .row 3 tI m17_, .row 109 (.prod tI (.prod tI (.prod tI .bool))) m18_, .row 3 tI m19_, .row 3 tI m20_, .row 3 tI m21_, .row 144 (.prod (.prod tI (.prod tI tI)) (.prod tI (.prod tI (.prod .bool (.prod tI (.int .u64)))))) m22_, .arena 77 73 (.slice 41 (.prod tI (.prod tI tI))) (.prod tI (.prod tI .bool)) nodes none]⟩
noncomputable def Q22.k1 : List Item := stackAt [.r, .r, .r, .r, .r, .r, .r, .l, .r, .b] (bodyOf Try.f22) []
def Q22.st1 (r_ : TRules) (p_ : TPos) (budget t62n t63_ t64_ : Int) (nodes : (List (LMv × List Int × (Int × (Int × Bool))))) : St := ⟨List.replicate 6 (.one .any) ++ [.one (.ptr 3 0)] ++ List.replicate 6 (.one .any) ++ [.one (.nr 0)] ++ List.replicate 48 (.one .any) ++ [.one (.kd 0 t62n), .one (.int .i64 t63_), .one (.int .i64 t64_)] ++ List.replicate 18 (.one .any), [.gone, .gone, .gone, .var 41 [.int .i64 0, .int .i64 0, .int .i64 0], .gone, .gone, .gone, .gone, .gone, .gone, .gone, .gone, .gone, .gone, .gone, .gone, .gone, .gone, .gone, .gone, .gone, .gone, .gone, .arena 77 73 (.slice 41 (.prod tI (.prod tI tI))) (.prod tI (.prod tI .bool)) nodes none]⟩
theorem Q22.step0 (N : Nat) (rec : List Item → St → Option (TMv × Int)) (r_ : TRules) (p_ : TPos) (budget : Int) (m5_ : ByteArray) (m5_2 m5_3 : Int) (m5_4 m5_5 : Bool) (m5_6 m5_7 m5_8 m5_9 m5_10 m5_11 x_ x_2 : Int) (m16_ : (List TPiece)) (m17_ : LInt) (m18_ : (List TEnd)) (m19_ m20_ m21_ : LInt) (m22_ : (List TUndo)) (nodes : (List (LMv × List Int × (Int × (Int × Bool))))) : seg tb (Q22.G N) Q22.A 1 rec (Q22.fin N) segFuel (loopBody Q22.k0) (Q22.st0 r_ p_ budget m5_ m5_2 m5_3 m5_4 m5_5 m5_6 m5_7 m5_8 m5_9 m5_10 m5_11 x_ x_2 m16_ m17_ m18_ m19_ m20_ m21_ m22_ nodes) = Q22.s0 N r_ p_ budget (fun m5_ m5_2 m5_3 m5_4 m5_5 m5_6 m5_7 m5_8 m5_9 m5_10 m5_11 x_ x_2 m16_ m17_ m18_ m19_ m20_ m21_ m22_ nodes => rec Q22.k0 (Q22.st0 r_ p_ budget m5_ m5_2 m5_3 m5_4 m5_5 m5_6 m5_7 m5_8 m5_9 m5_10 m5_11 x_ x_2 m16_ m17_ m18_ m19_ m20_ m21_ m22_ nodes)) (fun t62n t63_ t64_ nodes => rec Q22.k1 (Q22.st1 r_ p_ budget t62n t63_ t64_ nodes)) m5_ m5_2 m5_3 m5_4 m5_5 m5_6 m5_7 m5_8 m5_9 m5_10 m5_11 x_ x_2 m16_ m17_ m18_ m19_ m20_ m21_ m22_ nodes := by kernel_rfl
theorem Q22.step1 (N : Nat) (rec : List Item → St → Option (TMv × Int)) (r_ : TRules) (p_ : TPos) (budget t62n t63_ t64_ : Int) (nodes : (List (LMv × List Int × (Int × (Int × Bool))))) : seg tb (Q22.G N) Q22.A 1 rec (Q22.fin N) segFuel (loopBody Q22.k1) (Q22.st1 r_ p_ budget t62n t63_ t64_ nodes) = Q22.s1 N r_ p_ budget (fun m5_ m5_2 m5_3 m5_4 m5_5 m5_6 m5_7 m5_8 m5_9 m5_10 m5_11 x_ x_2 m16_ m17_ m18_ m19_ m20_ m21_ m22_ nodes => rec Q22.k0 (Q22.st0 r_ p_ budget m5_ m5_2 m5_3 m5_4 m5_5 m5_6 m5_7 m5_8 m5_9 m5_10 m5_11 x_ x_2 m16_ m17_ m18_ m19_ m20_ m21_ m22_ nodes)) (fun t62n t63_ t64_ nodes => rec Q22.k1 (Q22.st1 r_ p_ budget t62n t63_ t64_ nodes)) t62n t63_ t64_ nodes := by kernel_rfl
theorem Q22.entry (N : Nat) (rec : List Item → St → Option (TMv × Int)) (x : (argH Q22.as).den) : seg tb (Q22.G N) Q22.A 1 rec (Q22.fin N) segFuel [.code (bodyOf Try.f22)] (initSt Try.f22 (encArgs Q22.as x) (encMem Q22.as x ++ [.arena 77 73 (.slice 41 (.prod tI (.prod tI tI))) (.prod tI (.prod tI .bool)) [] none])) = Q22.e N (fun m5_ m5_2 m5_3 m5_4 m5_5 m5_6 m5_7 m5_8 m5_9 m5_10 m5_11 x_ x_2 m16_ m17_ m18_ m19_ m20_ m21_ m22_ nodes => rec Q22.k0 (Q22.st0 x.1 x.2.1 x.2.2.1 m5_ m5_2 m5_3 m5_4 m5_5 m5_6 m5_7 m5_8 m5_9 m5_10 m5_11 x_ x_2 m16_ m17_ m18_ m19_ m20_ m21_ m22_ nodes)) (fun t62n t63_ t64_ nodes => rec Q22.k1 (Q22.st1 x.1 x.2.1 x.2.2.1 t62n t63_ t64_ nodes)) x.1 x.2.1 x.2.2.1 := by kernel_rfl
theorem Q22.runs (N : Nat) (r_ : TRules) (p_ : TPos) (budget : Int) : ∀ n, (∀ (m5_ : ByteArray) (m5_2 m5_3 : Int) (m5_4 m5_5 : Bool) (m5_6 m5_7 m5_8 m5_9 m5_10 m5_11 x_ x_2 : Int) (m16_ : (List TPiece)) (m17_ : LInt) (m18_ : (List TEnd)) (m19_ m20_ m21_ : LInt) (m22_ : (List TUndo)) (nodes : (List (LMv × List Int × (Int × (Int × Bool))))), run tb (Q22.G N) Q22.A 1 (Q22.fin N) n Q22.k0 (Q22.st0 r_ p_ budget m5_ m5_2 m5_3 m5_4 m5_5 m5_6 m5_7 m5_8 m5_9 m5_10 m5_11 x_ x_2 m16_ m17_ m18_ m19_ m20_ m21_ m22_ nodes) = Q22.l0 N r_ p_ budget n m5_ m5_2 m5_3 m5_4 m5_5 m5_6 m5_7 m5_8 m5_9 m5_10 m5_11 x_ x_2 m16_ m17_ m18_ m19_ m20_ m21_ m22_ nodes) ∧ (∀ (t62n t63_ t64_ : Int) (nodes : (List (LMv × List Int × (Int × (Int × Bool))))), run tb (Q22.G N) Q22.A 1 (Q22.fin N) n Q22.k1 (Q22.st1 r_ p_ budget t62n t63_ t64_ nodes) = Q22.l1 N r_ p_ budget n t62n t63_ t64_ nodes)
 | 0 => ⟨fun _ _ _ _ _ _ _ _ _ _ _ _ _ _ _ _ _ _ _ _ _ => rfl, fun _ _ _ _ => rfl⟩
 | n + 1 => by
  obtain ⟨h0, h1⟩ := Q22.runs N r_ p_ budget n
  have e0 : (fun (m5_ : ByteArray) (m5_2 m5_3 : Int) (m5_4 m5_5 : Bool) (m5_6 m5_7 m5_8 m5_9 m5_10 m5_11 x_ x_2 : Int) (m16_ : (List TPiece)) (m17_ : LInt) (m18_ : (List TEnd)) (m19_ m20_ m21_ : LInt) (m22_ : (List TUndo)) (nodes : (List (LMv × List Int × (Int × (Int × Bool))))) => run tb (Q22.G N) Q22.A 1 (Q22.fin N) n Q22.k0 (Q22.st0 r_ p_ budget m5_ m5_2 m5_3 m5_4 m5_5 m5_6 m5_7 m5_8 m5_9 m5_10 m5_11 x_ x_2 m16_ m17_ m18_ m19_ m20_ m21_ m22_ nodes)) = Q22.l0 N r_ p_ budget n := by funext m5_ m5_2 m5_3 m5_4 m5_5 m5_6 m5_7 m5_8 m5_9 m5_10 m5_11 x_ x_2 m16_ m17_ m18_ m19_ m20_ m21_ m22_ nodes; exact h0 m5_ m5_2 m5_3 m5_4 m5_5 m5_6 m5_7 m5_8 m5_9 m5_10 m5_11 x_ x_2 m16_ m17_ m18_ m19_ m20_ m21_ m22_ nodes
  have e1 : (fun (t62n t63_ t64_ : Int) (nodes : (List (LMv × List Int × (Int × (Int × Bool))))) => run tb (Q22.G N) Q22.A 1 (Q22.fin N) n Q22.k1 (Q22.st1 r_ p_ budget t62n t63_ t64_ nodes)) = Q22.l1 N r_ p_ budget n := by funext t62n t63_ t64_ nodes; exact h1 t62n t63_ t64_ nodes
  have g0 : (∀ (m5_ : ByteArray) (m5_2 m5_3 : Int) (m5_4 m5_5 : Bool) (m5_6 m5_7 m5_8 m5_9 m5_10 m5_11 x_ x_2 : Int) (m16_ : (List TPiece)) (m17_ : LInt) (m18_ : (List TEnd)) (m19_ m20_ m21_ : LInt) (m22_ : (List TUndo)) (nodes : (List (LMv × List Int × (Int × (Int × Bool))))), run tb (Q22.G N) Q22.A 1 (Q22.fin N) (n + 1) Q22.k0 (Q22.st0 r_ p_ budget m5_ m5_2 m5_3 m5_4 m5_5 m5_6 m5_7 m5_8 m5_9 m5_10 m5_11 x_ x_2 m16_ m17_ m18_ m19_ m20_ m21_ m22_ nodes) = Q22.l0 N r_ p_ budget (n + 1) m5_ m5_2 m5_3 m5_4 m5_5 m5_6 m5_7 m5_8 m5_9 m5_10 m5_11 x_ x_2 m16_ m17_ m18_ m19_ m20_ m21_ m22_ nodes) := by
   intro m5_ m5_2 m5_3 m5_4 m5_5 m5_6 m5_7 m5_8 m5_9 m5_10 m5_11 x_ x_2 m16_ m17_ m18_ m19_ m20_ m21_ m22_ nodes
   exact (run_succ (by kernel_rfl)).trans ((Q22.step0 N _ r_ p_ budget m5_ m5_2 m5_3 m5_4 m5_5 m5_6 m5_7 m5_8 m5_9 m5_10 m5_11 x_ x_2 m16_ m17_ m18_ m19_ m20_ m21_ m22_ nodes).trans ((congr (congrArg (fun r0 r1 => Q22.s0 N r_ p_ budget r0 r1 m5_ m5_2 m5_3 m5_4 m5_5 m5_6 m5_7 m5_8 m5_9 m5_10 m5_11 x_ x_2 m16_ m17_ m18_ m19_ m20_ m21_ m22_ nodes) e0) e1).trans (Q22.l0_s N r_ p_ budget n m5_ m5_2 m5_3 m5_4 m5_5 m5_6 m5_7 m5_8 m5_9 m5_10 m5_11 x_ x_2 m16_ m17_ m18_ m19_ m20_ m21_ m22_ nodes).symm))
  have g1 : (∀ (t62n t63_ t64_ : Int) (nodes : (List (LMv × List Int × (Int × (Int × Bool))))), run tb (Q22.G N) Q22.A 1 (Q22.fin N) (n + 1) Q22.k1 (Q22.st1 r_ p_ budget t62n t63_ t64_ nodes) = Q22.l1 N r_ p_ budget (n + 1) t62n t63_ t64_ nodes) := by
   intro t62n t63_ t64_ nodes
   exact (run_succ (by kernel_rfl)).trans ((Q22.step1 N _ r_ p_ budget t62n t63_ t64_ nodes).trans ((congr (congrArg (fun r0 r1 => Q22.s1 N r_ p_ budget r0 r1 t62n t63_ t64_ nodes) e0) e1).trans (Q22.l1_s N r_ p_ budget n t62n t63_ t64_ nodes).symm))
  exact ⟨g0, g1⟩
theorem Q22.ok (N : Nat) : FnOk Try.prog 22 (Q22.D N) := by
 refine FnOk_ofA (T := 77) (e := 73) (a := (.slice 41 (.prod tI (.prod tI tI)))) (b := (.prod tI (.prod tI .bool))) tb_ok (Checked.mixed Try.checked) ⟨⟨by kernel_rfl, by kernel_rfl⟩, Try.f22, Try.func22, by kernel_rfl, by kernel_rfl, fun x y h => ⟨Q22.G N, Q22.A, N, gamOf_ok (by simp only [List.forall_mem_cons, List.not_mem_nil, false_implies, implies_true, and_true]; exact ⟨⟨Q10.ok N, Q10.fit N⟩, ⟨Q27.ok N, Q27.fit N⟩, ⟨Q28.ok N, Q28.fit N⟩, ⟨Q29.ok N, Q29.fit N⟩, ⟨Q30.ok N, Q30.fit N⟩⟩), ?_⟩⟩ (Q22.fit N)
 rw [absFn_n (n0 := 1) rfl (by kernel_rfl)]
 refine (Q22.entry N (run tb (Q22.G N) Q22.A 1 (Q22.fin N) N) x).trans ?_
 have e0 : (fun (m5_ : ByteArray) (m5_2 m5_3 : Int) (m5_4 m5_5 : Bool) (m5_6 m5_7 m5_8 m5_9 m5_10 m5_11 x_ x_2 : Int) (m16_ : (List TPiece)) (m17_ : LInt) (m18_ : (List TEnd)) (m19_ m20_ m21_ : LInt) (m22_ : (List TUndo)) (nodes : (List (LMv × List Int × (Int × (Int × Bool))))) => run tb (Q22.G N) Q22.A 1 (Q22.fin N) N Q22.k0 (Q22.st0 x.1 x.2.1 x.2.2.1 m5_ m5_2 m5_3 m5_4 m5_5 m5_6 m5_7 m5_8 m5_9 m5_10 m5_11 x_ x_2 m16_ m17_ m18_ m19_ m20_ m21_ m22_ nodes)) = Q22.l0 N x.1 x.2.1 x.2.2.1 N := by funext m5_ m5_2 m5_3 m5_4 m5_5 m5_6 m5_7 m5_8 m5_9 m5_10 m5_11 x_ x_2 m16_ m17_ m18_ m19_ m20_ m21_ m22_ nodes; exact (Q22.runs N x.1 x.2.1 x.2.2.1 N).1 m5_ m5_2 m5_3 m5_4 m5_5 m5_6 m5_7 m5_8 m5_9 m5_10 m5_11 x_ x_2 m16_ m17_ m18_ m19_ m20_ m21_ m22_ nodes
 have e1 : (fun (t62n t63_ t64_ : Int) (nodes : (List (LMv × List Int × (Int × (Int × Bool))))) => run tb (Q22.G N) Q22.A 1 (Q22.fin N) N Q22.k1 (Q22.st1 x.1 x.2.1 x.2.2.1 t62n t63_ t64_ nodes)) = Q22.l1 N x.1 x.2.1 x.2.2.1 N := by funext t62n t63_ t64_ nodes; exact (Q22.runs N x.1 x.2.1 x.2.2.1 N).2 t62n t63_ t64_ nodes
 have h' : (Q22.D N).f x = Q22.e N (Q22.l0 N x.1 x.2.1 x.2.2.1 N) (Q22.l1 N x.1 x.2.1 x.2.2.1 N) x.1 x.2.1 x.2.2.1 := by kernel_rfl
 exact (congr (congrArg (fun r0 r1 => Q22.e N r0 r1 x.1 x.2.1 x.2.2.1) e0) e1).trans (h'.symm.trans h)
def Q44.as : List MK := [.d false tI]
def Q44.rs : List (Bool × HT) := [(false, (.d .bool))]
def Q44.lc : List AC := []
def Q44.D (N : Nat) : DFn := ⟨Q44.as, Q44.rs, Bool, fun x => Q44 N x.1, fun r o => r.1, fun b => (b, ()), fun b => (), none⟩
theorem Q44.fit (N : Nat) : (Q44.D N).Fit := ⟨fun _ _ => rfl, fun _ _ => rfl, by kernel_rfl, (fun _ _ h => nomatch h), by kernel_rfl⟩
noncomputable def Q44.G (N : Nat) : Gam := gamOf []
def Q44.A : Nat → Option LoopAnn := fun _ => none
noncomputable def Q44.fin (N : Nat) : St → Option Bool := resK tb Try.f44.results.toList (decRes (Q44.D N) Q44.lc)
theorem Q44.entry (N : Nat) (rec : List Item → St → Option Bool) (x : (argH Q44.as).den) : seg tb (Q44.G N) Q44.A 0 rec (Q44.fin N) segFuel [.code (bodyOf Try.f44)] (initSt Try.f44 (encArgs Q44.as x) (encMem Q44.as x)) = Q44.e N x.1 := by kernel_rfl
theorem Q44.ok (N : Nat) : FnOk Try.prog 44 (Q44.D N) := by
 refine FnOk_of tb_ok (Checked.mixed Try.checked) ⟨Try.f44, Try.func44, by kernel_rfl, by kernel_rfl, fun x y h => ⟨Q44.G N, Q44.A, N, gamOf_ok (fun p hp => nomatch hp), ?_⟩⟩ (Q44.fit N)
 rw [absFn_n (n0 := 0) rfl (by kernel_rfl)]
 exact (Q44.entry N _ x).trans h
def Q73.as : List MK := [.d false (.slice 33 tI), .f 44]
def Q73.rs : List (Bool × HT) := [(false, (.d tI))]
def Q73.lc : List AC := []
def Q73.D (N : Nat) : DFn := ⟨Q73.as, Q73.rs, Int, fun x => Q73 N x.1, fun r o => r.1, fun b => (b, ()), fun b => (), none⟩
theorem Q73.fit (N : Nat) : (Q73.D N).Fit := ⟨fun _ _ => rfl, fun _ _ => rfl, by kernel_rfl, (fun _ _ h => nomatch h), by kernel_rfl⟩
noncomputable def Q73.G (N : Nat) : Gam := gamOf [(44, Q44.D N)]
def Q73.A : Nat → Option LoopAnn := fun k => bif Nat.beq k 0 then some ⟨[0, 1, 7, 8], [], [], [], [], 0, false⟩ else none
noncomputable def Q73.fin (N : Nat) : St → Option Int := resK tb Try.f73.results.toList (decRes (Q73.D N) Q73.lc)
noncomputable def Q73.k0 : List Item := stackAt [.r, .l, .r, .b] (bodyOf Try.f73) []
def Q73.st0 (s_ : LInt) (t8_ : Int) : St := ⟨[.one (.fro 33 tI s_), .one (.fn 44)] ++ List.replicate 5 (.one .any) ++ [.one (.int .i64 (s_.length : Int)), .one (.int .i64 t8_)] ++ List.replicate 10 (.one .any), []⟩
theorem Q73.step0 (N : Nat) (rec : List Item → St → Option Int) (s_ : LInt) (t8_ : Int) : seg tb (Q73.G N) Q73.A 0 rec (Q73.fin N) segFuel (loopBody Q73.k0) (Q73.st0 s_ t8_) = Q73.s0 N s_ (fun t8_ => rec Q73.k0 (Q73.st0 s_ t8_)) t8_ := by kernel_rfl
theorem Q73.entry (N : Nat) (rec : List Item → St → Option Int) (x : (argH Q73.as).den) : seg tb (Q73.G N) Q73.A 0 rec (Q73.fin N) segFuel [.code (bodyOf Try.f73)] (initSt Try.f73 (encArgs Q73.as x) (encMem Q73.as x)) = Q73.e N (fun t8_ => rec Q73.k0 (Q73.st0 x.1 t8_)) x.1 := by kernel_rfl
theorem Q73.runs (N : Nat) (s_ : LInt) : ∀ n, (∀ (t8_ : Int), run tb (Q73.G N) Q73.A 0 (Q73.fin N) n Q73.k0 (Q73.st0 s_ t8_) = Q73.l0 N s_ n t8_)
 | 0 => fun _ => rfl
 | n + 1 => by
  have h0 := Q73.runs N s_ n
  have e0 : (fun (t8_ : Int) => run tb (Q73.G N) Q73.A 0 (Q73.fin N) n Q73.k0 (Q73.st0 s_ t8_)) = Q73.l0 N s_ n := by funext t8_; exact h0 t8_
  have g0 : (∀ (t8_ : Int), run tb (Q73.G N) Q73.A 0 (Q73.fin N) (n + 1) Q73.k0 (Q73.st0 s_ t8_) = Q73.l0 N s_ (n + 1) t8_) := by
   intro t8_
   exact (run_succ (by kernel_rfl)).trans ((Q73.step0 N _ s_ t8_).trans ((congrArg (fun r0 => Q73.s0 N s_ r0 t8_) e0).trans (Q73.l0_s N s_ n t8_).symm))
  exact g0
theorem Q73.ok (N : Nat) : FnOk Try.prog 73 (Q73.D N) := by
 refine FnOk_of tb_ok (Checked.mixed Try.checked) ⟨Try.f73, Try.func73, by kernel_rfl, by kernel_rfl, fun x y h => ⟨Q73.G N, Q73.A, N, gamOf_ok (by simp only [List.forall_mem_cons, List.not_mem_nil, false_implies, implies_true, and_true]; exact ⟨Q44.ok N, Q44.fit N⟩), ?_⟩⟩ (Q73.fit N)
 rw [absFn_n (n0 := 0) rfl (by kernel_rfl)]
 refine (Q73.entry N (run tb (Q73.G N) Q73.A 0 (Q73.fin N) N) x).trans ?_
 have e0 : (fun (t8_ : Int) => run tb (Q73.G N) Q73.A 0 (Q73.fin N) N Q73.k0 (Q73.st0 x.1 t8_)) = Q73.l0 N x.1 N := by funext t8_; exact (Q73.runs N x.1 N) t8_
 have h' : (Q73.D N).f x = Q73.e N (Q73.l0 N x.1 N) x.1 := by kernel_rfl
 exact (congrArg (fun r0 => Q73.e N r0 x.1) e0).trans (h'.symm.trans h)
def Q43.as : List MK := [.d false (.slice 33 tI), .f 44]
def Q43.rs : List (Bool × HT) := [(false, (.d .bool))]
def Q43.lc : List AC := []
def Q43.D (N : Nat) : DFn := ⟨Q43.as, Q43.rs, Bool, fun x => Q43 N x.1, fun r o => r.1, fun b => (b, ()), fun b => (), none⟩
theorem Q43.fit (N : Nat) : (Q43.D N).Fit := ⟨fun _ _ => rfl, fun _ _ => rfl, by kernel_rfl, (fun _ _ h => nomatch h), by kernel_rfl⟩
noncomputable def Q43.G (N : Nat) : Gam := gamOf [(73, Q73.D N)]
def Q43.A : Nat → Option LoopAnn := fun _ => none
noncomputable def Q43.fin (N : Nat) : St → Option Bool := resK tb Try.f43.results.toList (decRes (Q43.D N) Q43.lc)
theorem Q43.entry (N : Nat) (rec : List Item → St → Option Bool) (x : (argH Q43.as).den) : seg tb (Q43.G N) Q43.A 0 rec (Q43.fin N) segFuel [.code (bodyOf Try.f43)] (initSt Try.f43 (encArgs Q43.as x) (encMem Q43.as x)) = Q43.e N x.1 := by kernel_rfl
theorem Q43.ok (N : Nat) : FnOk Try.prog 43 (Q43.D N) := by
 refine FnOk_of tb_ok (Checked.mixed Try.checked) ⟨Try.f43, Try.func43, by kernel_rfl, by kernel_rfl, fun x y h => ⟨Q43.G N, Q43.A, N, gamOf_ok (by simp only [List.forall_mem_cons, List.not_mem_nil, false_implies, implies_true, and_true]; exact ⟨Q73.ok N, Q73.fit N⟩), ?_⟩⟩ (Q43.fit N)
 rw [absFn_n (n0 := 0) rfl (by kernel_rfl)]
 exact (Q43.entry N _ x).trans h
def Q21.as : List MK := [.d false (.slice 33 tI)]
def Q21.rs : List (Bool × HT) := [(false, (.d .bool))]
def Q21.lc : List AC := []
def Q21.D (N : Nat) : DFn := ⟨Q21.as, Q21.rs, Bool, fun x => Q21 N x.1, fun r o => r.1, fun b => (b, ()), fun b => (), none⟩
theorem Q21.fit (N : Nat) : (Q21.D N).Fit := ⟨fun _ _ => rfl, fun _ _ => rfl, by kernel_rfl, (fun _ _ h => nomatch h), by kernel_rfl⟩
noncomputable def Q21.G (N : Nat) : Gam := gamOf [(43, Q43.D N)]
def Q21.A : Nat → Option LoopAnn := fun _ => none
noncomputable def Q21.fin (N : Nat) : St → Option Bool := resK tb Try.f21.results.toList (decRes (Q21.D N) Q21.lc)
theorem Q21.entry (N : Nat) (rec : List Item → St → Option Bool) (x : (argH Q21.as).den) : seg tb (Q21.G N) Q21.A 0 rec (Q21.fin N) segFuel [.code (bodyOf Try.f21)] (initSt Try.f21 (encArgs Q21.as x) (encMem Q21.as x)) = Q21.e N x.1 := by kernel_rfl
theorem Q21.ok (N : Nat) : FnOk Try.prog 21 (Q21.D N) := by
 refine FnOk_of tb_ok (Checked.mixed Try.checked) ⟨Try.f21, Try.func21, by kernel_rfl, by kernel_rfl, fun x y h => ⟨Q21.G N, Q21.A, N, gamOf_ok (by simp only [List.forall_mem_cons, List.not_mem_nil, false_implies, implies_true, and_true]; exact ⟨Q43.ok N, Q43.fit N⟩), ?_⟩⟩ (Q21.fit N)
 rw [absFn_n (n0 := 0) rfl (by kernel_rfl)]
 exact (Q21.entry N _ x).trans h
def Q26.as : List MK := [.d false tI]
def Q26.rs : List (Bool × HT) := [(true, (.d (.prod tI (.prod tI tI))))]
def Q26.lc : List AC := []
def Q26.D (N : Nat) : DFn := ⟨Q26.as, Q26.rs, TMv, fun x => Q26 N x.1, fun r o => r.1, fun b => (b, ()), fun b => (), none⟩
theorem Q26.fit (N : Nat) : (Q26.D N).Fit := ⟨fun _ _ => rfl, fun _ _ => rfl, by kernel_rfl, (fun _ _ h => nomatch h), by kernel_rfl⟩
noncomputable def Q26.G (N : Nat) : Gam := gamOf []
def Q26.A : Nat → Option LoopAnn := fun _ => none
noncomputable def Q26.fin (N : Nat) : St → Option TMv := resK tb Try.f26.results.toList (decRes (Q26.D N) Q26.lc)
theorem Q26.entry (N : Nat) (rec : List Item → St → Option TMv) (x : (argH Q26.as).den) : seg tb (Q26.G N) Q26.A 0 rec (Q26.fin N) segFuel [.code (bodyOf Try.f26)] (initSt Try.f26 (encArgs Q26.as x) (encMem Q26.as x)) = Q26.e N x.1 := by kernel_rfl
theorem Q26.ok (N : Nat) : FnOk Try.prog 26 (Q26.D N) := by
 refine FnOk_of tb_ok (Checked.mixed Try.checked) ⟨Try.f26, Try.func26, by kernel_rfl, by kernel_rfl, fun x y h => ⟨Q26.G N, Q26.A, N, gamOf_ok (fun p hp => nomatch hp), ?_⟩⟩ (Q26.fit N)
 rw [absFn_n (n0 := 0) rfl (by kernel_rfl)]
 exact (Q26.entry N _ x).trans h
def Q9.as : List MK := []
def Q9.rs : List (Bool × HT) := [(false, (.d .bool))]
def Q9.lc : List AC := []
def Q9.D (N : Nat) : DFn := ⟨Q9.as, Q9.rs, Bool, fun x => Q9 N, fun r o => r.1, fun b => (b, ()), fun b => (), none⟩
theorem Q9.fit (N : Nat) : (Q9.D N).Fit := ⟨fun _ _ => rfl, fun _ _ => rfl, by kernel_rfl, (fun _ _ h => nomatch h), by kernel_rfl⟩
noncomputable def Q9.G (N : Nat) : Gam := gamOf [(24, Q24.D N), (25, Q25.D N), (10, Q10.D N), (22, Q22.D N), (21, Q21.D N), (26, Q26.D N)]
def Q9.A : Nat → Option LoopAnn := fun _ => none
noncomputable def Q9.fin (N : Nat) : St → Option Bool := resK tb Try.f9.results.toList (decRes (Q9.D N) Q9.lc)
theorem Q9.entry (N : Nat) (rec : List Item → St → Option Bool) (x : (argH Q9.as).den) : seg tb (Q9.G N) Q9.A 0 rec (Q9.fin N) segFuel [.code (bodyOf Try.f9)] (initSt Try.f9 (encArgs Q9.as x) (encMem Q9.as x)) = Q9.e N := by kernel_rfl
theorem Q9.ok (N : Nat) : FnOk Try.prog 9 (Q9.D N) := by
 refine FnOk_of tb_ok (Checked.mixed Try.checked) ⟨Try.f9, Try.func9, by kernel_rfl, by kernel_rfl, fun x y h => ⟨Q9.G N, Q9.A, N, gamOf_ok (by simp only [List.forall_mem_cons, List.not_mem_nil, false_implies, implies_true, and_true]; exact ⟨⟨Q24.ok N, Q24.fit N⟩, ⟨Q25.ok N, Q25.fit N⟩, ⟨Q10.ok N, Q10.fit N⟩, ⟨Q22.ok N, Q22.fit N⟩, ⟨Q21.ok N, Q21.fit N⟩, ⟨Q26.ok N, Q26.fit N⟩⟩), ?_⟩⟩ (Q9.fit N)
 rw [absFn_n (n0 := 0) rfl (by kernel_rfl)]
 exact (Q9.entry N _ x).trans h
def Q69.as : List MK := [.d true (.prod .str (.prod tI (.prod tI (.prod (.slice 107 (.prod (.int .u8) (.prod tI (.prod tI (.slice 127 (.prod tI (.prod tI (.prod tI tI)))))))) (.prod (.slice 3 tI) (.prod .bool (.prod .bool (.prod (.slice 109 (.prod tI (.prod tI (.prod tI .bool)))) (.prod tI (.prod tI tI)))))))))), .d true (.prod (.slice 3 tI) (.prod (.prod (.slice 3 tI) (.slice 3 tI)) (.prod tI tI))), .d false tI]
def Q69.rs : List (Bool × HT) := [(false, (.opt 115 (.prod (.prod (.d .str) (.prod (.d tI) (.prod (.d tI) (.prod (.own 107 (.prod (.int .u8) (.prod tI (.prod tI (.slice 127 (.prod tI (.prod tI (.prod tI tI)))))))) (.prod (.own 3 tI) (.prod (.d .bool) (.prod (.d .bool) (.prod (.own 109 (.prod tI (.prod tI (.prod tI .bool)))) (.d (.prod tI (.prod tI tI))))))))))) (.prod (.prod (.own 3 tI) (.prod (.prod (.own 3 tI) (.own 3 tI)) (.d (.prod tI tI)))) (.prod (.d (.int .u64)) (.own 144 (.prod (.prod tI (.prod tI tI)) (.prod tI (.prod tI (.prod .bool (.prod tI (.int .u64)))))))))))), (false, (.d tI))]
def Q69.lc : List AC := []
def Q69.D (N : Nat) : DFn := ⟨Q69.as, Q69.rs, ((Option TBoard) × Int), fun x => Q69 N x.1 x.2.1 x.2.2.1, fun r o => (r.1, r.2.1), fun b => (b.1, (b.2, ())), fun b => (), none⟩
theorem Q69.fit (N : Nat) : (Q69.D N).Fit := ⟨fun _ _ => rfl, fun _ _ => rfl, by kernel_rfl, (fun _ _ h => nomatch h), by kernel_rfl⟩
noncomputable def Q69.G (N : Nat) : Gam := gamOf [(27, Q27.D N)]
def Q69.A : Nat → Option LoopAnn := fun _ => none
noncomputable def Q69.fin (N : Nat) : St → Option ((Option TBoard) × Int) := resK tb Try.f69.results.toList (decRes (Q69.D N) Q69.lc)
theorem Q69.entry (N : Nat) (rec : List Item → St → Option ((Option TBoard) × Int)) (x : (argH Q69.as).den) : seg tb (Q69.G N) Q69.A 0 rec (Q69.fin N) segFuel [.code (bodyOf Try.f69)] (initSt Try.f69 (encArgs Q69.as x) (encMem Q69.as x)) = Q69.e N x.1 x.2.1 x.2.2.1 := by kernel_rfl
theorem Q69.ok (N : Nat) : FnOk Try.prog 69 (Q69.D N) := by
 refine FnOk_of tb_ok (Checked.mixed Try.checked) ⟨Try.f69, Try.func69, by kernel_rfl, by kernel_rfl, fun x y h => ⟨Q69.G N, Q69.A, N, gamOf_ok (by simp only [List.forall_mem_cons, List.not_mem_nil, false_implies, implies_true, and_true]; exact ⟨Q27.ok N, Q27.fit N⟩), ?_⟩⟩ (Q69.fit N)
 rw [absFn_n (n0 := 0) rfl (by kernel_rfl)]
 exact (Q69.entry N _ x).trans h
def Q70.as : List MK := [.o (.ptr 137 (.d tI)) true, .o (.ptr 115 (.prod (.prod (.d .str) (.prod (.d tI) (.prod (.d tI) (.prod (.own 107 (.prod (.int .u8) (.prod tI (.prod tI (.slice 127 (.prod tI (.prod tI (.prod tI tI)))))))) (.prod (.own 3 tI) (.prod (.d .bool) (.prod (.d .bool) (.prod (.own 109 (.prod tI (.prod tI (.prod tI .bool)))) (.d (.prod tI (.prod tI tI))))))))))) (.prod (.prod (.own 3 tI) (.prod (.prod (.own 3 tI) (.own 3 tI)) (.d (.prod tI tI)))) (.prod (.d (.int .u64)) (.own 144 (.prod (.prod tI (.prod tI tI)) (.prod tI (.prod tI (.prod .bool (.prod tI (.int .u64))))))))))) true, .d false tI]
def Q70.rs : List (Bool × HT) := [(false, (.d tI))]
def Q70.lc : List AC := [.ptr 0 0, .ptr 1 0]
def Q70.D (N : Nat) : DFn := ⟨Q70.as, Q70.rs, (Int × Int × TBoard), fun x => Q70 N x.1 x.2.1 x.2.2.1, fun r o => (r.1, o.1, o.2.1), fun b => (b.1, ()), fun b => (b.2.1, (b.2.2, ())), none⟩
theorem Q70.fit (N : Nat) : (Q70.D N).Fit := ⟨fun _ _ => rfl, fun _ _ => rfl, by kernel_rfl, (fun _ _ h => nomatch h), by kernel_rfl⟩
noncomputable def Q70.G (N : Nat) : Gam := gamOf [(34, Q34.D N), (50, Q50.D N), (51, Q51.D N), (70, Q70.D N)]
def Q70.A : Nat → Option LoopAnn := fun k => bif Nat.beq k 0 then some ⟨[0, 1, 2, 7, 27, 28, 29], [], [], [(true, 1, 3, 10), (true, 1, 4, 11), (true, 1, 7, 12), (true, 1, 11, 13), (true, 1, 12, 14), (true, 1, 13, 15), (true, 1, 17, 16)], [], 17, false⟩ else none
noncomputable def Q70.fin (N : Nat) : St → Option (Int × Int × TBoard) := resK tb Try.f70.results.toList (decRes (Q70.D (N + 1)) Q70.lc)
noncomputable def Q70.k0 : List Item := stackAt [.r, .r, .r, .l, .r, .b] (bodyOf Try.f70) []
def Q70.st0 (c_ : Int) (b_ : TBoard) (depth n_ t28_ t29_ c_2 : Int) (b_2 : ByteArray) (b_3 b_4 : Int) (b_5 b_6 : Bool) (b_7 b_8 b_9 b_10 b_11 b_12 : Int) (m9_ : LMv) (m10_ : (List TPiece)) (m11_ : LInt) (m12_ : (List TEnd)) (m13_ m14_ m15_ : LInt) (m16_ : (List TUndo)) : St := ⟨[.one (.ptr 0 0), .one (.ptr 1 0), .one (.int .i64 depth)] ++ List.replicate 4 (.one .any) ++ [.one (.int .i64 n_)] ++ List.replicate 19 (.one .any) ++ [.one (.own 9), .one (.int .i64 t28_), .one (.int .i64 t29_)] ++ List.replicate 22 (.one .any), [.var 137 [.int .i64 c_2], .var 115 [.str b_2, .int .i64 b_3, .int .i64 b_4, .own 10, .own 11, .bool b_5, .bool b_6, .own 12, .int .i64 b_7, .int .i64 b_8, .int .i64 b_9, .own 13, .own 14, .own 15, .int .i64 b_10, .int .i64 b_11, .int .u64 b_12, .own 16], .gone, .gone, .gone, .gone, .gone, .gone, .gone, .row 41 (.prod tI (.prod tI tI)) m9_, .row 107 (.prod (.int .u8) (.prod tI (.prod tI (.slice 127 (.prod tI (.prod tI (.prod tI tI))))))) m10_, .row 3 tI m11_, .row 109 (.prod tI (.prod tI (.prod tI .bool))) m12_, .row 3 tI m13_, .row 3 tI m14_, .row 3 tI m15_, .row 144 (.prod (.prod tI (.prod tI tI)) (.prod tI (.prod tI (.prod .bool (.prod tI (.int .u64)))))) m16_]⟩
theorem Q70.step0 (N : Nat) (rec : List Item → St → Option (Int × Int × TBoard)) (c_ : Int) (b_ : TBoard) (depth n_ t28_ t29_ c_2 : Int) (b_2 : ByteArray) (b_3 b_4 : Int) (b_5 b_6 : Bool) (b_7 b_8 b_9 b_10 b_11 b_12 : Int) (m9_ : LMv) (m10_ : (List TPiece)) (m11_ : LInt) (m12_ : (List TEnd)) (m13_ m14_ m15_ : LInt) (m16_ : (List TUndo)) : seg tb (Q70.G N) Q70.A 9 rec (Q70.fin N) segFuel (loopBody Q70.k0) (Q70.st0 c_ b_ depth n_ t28_ t29_ c_2 b_2 b_3 b_4 b_5 b_6 b_7 b_8 b_9 b_10 b_11 b_12 m9_ m10_ m11_ m12_ m13_ m14_ m15_ m16_) = Q70.s0 N (Q70 N) c_ b_ depth (fun n_ t28_ t29_ c_2 b_2 b_3 b_4 b_5 b_6 b_7 b_8 b_9 b_10 b_11 b_12 m9_ m10_ m11_ m12_ m13_ m14_ m15_ m16_ => rec Q70.k0 (Q70.st0 c_ b_ depth n_ t28_ t29_ c_2 b_2 b_3 b_4 b_5 b_6 b_7 b_8 b_9 b_10 b_11 b_12 m9_ m10_ m11_ m12_ m13_ m14_ m15_ m16_)) n_ t28_ t29_ c_2 b_2 b_3 b_4 b_5 b_6 b_7 b_8 b_9 b_10 b_11 b_12 m9_ m10_ m11_ m12_ m13_ m14_ m15_ m16_ := by kernel_rfl
theorem Q70.entry (N : Nat) (rec : List Item → St → Option (Int × Int × TBoard)) (x : (argH Q70.as).den) : seg tb (Q70.G N) Q70.A 9 rec (Q70.fin N) segFuel [.code (bodyOf Try.f70)] (initSt Try.f70 (encArgs Q70.as x) (encMem Q70.as x)) = Q70.e N (Q70 N) (fun n_ t28_ t29_ c_2 b_2 b_3 b_4 b_5 b_6 b_7 b_8 b_9 b_10 b_11 b_12 m9_ m10_ m11_ m12_ m13_ m14_ m15_ m16_ => rec Q70.k0 (Q70.st0 x.1 x.2.1 x.2.2.1 n_ t28_ t29_ c_2 b_2 b_3 b_4 b_5 b_6 b_7 b_8 b_9 b_10 b_11 b_12 m9_ m10_ m11_ m12_ m13_ m14_ m15_ m16_)) x.1 x.2.1 x.2.2.1 := by kernel_rfl
theorem Q70.runs (N : Nat) (c_ : Int) (b_ : TBoard) (depth : Int) : ∀ n, (∀ (n_ t28_ t29_ c_2 : Int) (b_2 : ByteArray) (b_3 b_4 : Int) (b_5 b_6 : Bool) (b_7 b_8 b_9 b_10 b_11 b_12 : Int) (m9_ : LMv) (m10_ : (List TPiece)) (m11_ : LInt) (m12_ : (List TEnd)) (m13_ m14_ m15_ : LInt) (m16_ : (List TUndo)), run tb (Q70.G N) Q70.A 9 (Q70.fin N) n Q70.k0 (Q70.st0 c_ b_ depth n_ t28_ t29_ c_2 b_2 b_3 b_4 b_5 b_6 b_7 b_8 b_9 b_10 b_11 b_12 m9_ m10_ m11_ m12_ m13_ m14_ m15_ m16_) = Q70.l0 N (Q70 N) c_ b_ depth n n_ t28_ t29_ c_2 b_2 b_3 b_4 b_5 b_6 b_7 b_8 b_9 b_10 b_11 b_12 m9_ m10_ m11_ m12_ m13_ m14_ m15_ m16_)
 | 0 => fun _ _ _ _ _ _ _ _ _ _ _ _ _ _ _ _ _ _ _ _ _ _ _ => rfl
 | n + 1 => by
  have h0 := Q70.runs N c_ b_ depth n
  have e0 : (fun (n_ t28_ t29_ c_2 : Int) (b_2 : ByteArray) (b_3 b_4 : Int) (b_5 b_6 : Bool) (b_7 b_8 b_9 b_10 b_11 b_12 : Int) (m9_ : LMv) (m10_ : (List TPiece)) (m11_ : LInt) (m12_ : (List TEnd)) (m13_ m14_ m15_ : LInt) (m16_ : (List TUndo)) => run tb (Q70.G N) Q70.A 9 (Q70.fin N) n Q70.k0 (Q70.st0 c_ b_ depth n_ t28_ t29_ c_2 b_2 b_3 b_4 b_5 b_6 b_7 b_8 b_9 b_10 b_11 b_12 m9_ m10_ m11_ m12_ m13_ m14_ m15_ m16_)) = Q70.l0 N (Q70 N) c_ b_ depth n := by funext n_ t28_ t29_ c_2 b_2 b_3 b_4 b_5 b_6 b_7 b_8 b_9 b_10 b_11 b_12 m9_ m10_ m11_ m12_ m13_ m14_ m15_ m16_; exact h0 n_ t28_ t29_ c_2 b_2 b_3 b_4 b_5 b_6 b_7 b_8 b_9 b_10 b_11 b_12 m9_ m10_ m11_ m12_ m13_ m14_ m15_ m16_
  have g0 : (∀ (n_ t28_ t29_ c_2 : Int) (b_2 : ByteArray) (b_3 b_4 : Int) (b_5 b_6 : Bool) (b_7 b_8 b_9 b_10 b_11 b_12 : Int) (m9_ : LMv) (m10_ : (List TPiece)) (m11_ : LInt) (m12_ : (List TEnd)) (m13_ m14_ m15_ : LInt) (m16_ : (List TUndo)), run tb (Q70.G N) Q70.A 9 (Q70.fin N) (n + 1) Q70.k0 (Q70.st0 c_ b_ depth n_ t28_ t29_ c_2 b_2 b_3 b_4 b_5 b_6 b_7 b_8 b_9 b_10 b_11 b_12 m9_ m10_ m11_ m12_ m13_ m14_ m15_ m16_) = Q70.l0 N (Q70 N) c_ b_ depth (n + 1) n_ t28_ t29_ c_2 b_2 b_3 b_4 b_5 b_6 b_7 b_8 b_9 b_10 b_11 b_12 m9_ m10_ m11_ m12_ m13_ m14_ m15_ m16_) := by
   intro n_ t28_ t29_ c_2 b_2 b_3 b_4 b_5 b_6 b_7 b_8 b_9 b_10 b_11 b_12 m9_ m10_ m11_ m12_ m13_ m14_ m15_ m16_
   exact (run_succ (by kernel_rfl)).trans ((Q70.step0 N _ c_ b_ depth n_ t28_ t29_ c_2 b_2 b_3 b_4 b_5 b_6 b_7 b_8 b_9 b_10 b_11 b_12 m9_ m10_ m11_ m12_ m13_ m14_ m15_ m16_).trans ((congrArg (fun r0 => Q70.s0 N (Q70 N) c_ b_ depth r0 n_ t28_ t29_ c_2 b_2 b_3 b_4 b_5 b_6 b_7 b_8 b_9 b_10 b_11 b_12 m9_ m10_ m11_ m12_ m13_ m14_ m15_ m16_) e0).trans (Q70.l0_s N (Q70 N) c_ b_ depth n n_ t28_ t29_ c_2 b_2 b_3 b_4 b_5 b_6 b_7 b_8 b_9 b_10 b_11 b_12 m9_ m10_ m11_ m12_ m13_ m14_ m15_ m16_).symm))
  exact g0
theorem Q70.ok1 (N : Nat) (ih : FnOk Try.prog 70 (Q70.D N)) : FnOk Try.prog 70 (Q70.D (N + 1)) := by
 refine FnOk_of tb_ok (Checked.mixed Try.checked) ⟨Try.f70, Try.func70, by kernel_rfl, by kernel_rfl, fun x y h => ⟨Q70.G N, Q70.A, N, gamOf_ok (by simp only [List.forall_mem_cons, List.not_mem_nil, false_implies, implies_true, and_true]; exact ⟨⟨Q34.ok N, Q34.fit N⟩, ⟨Q50.ok N, Q50.fit N⟩, ⟨Q51.ok N, Q51.fit N⟩, ⟨ih, Q70.fit N⟩⟩), ?_⟩⟩ (Q70.fit (N + 1))
 rw [absFn_n (n0 := 9) rfl (by kernel_rfl)]
 refine (Q70.entry N (run tb (Q70.G N) Q70.A 9 (Q70.fin N) N) x).trans ?_
 have e0 : (fun (n_ t28_ t29_ c_2 : Int) (b_2 : ByteArray) (b_3 b_4 : Int) (b_5 b_6 : Bool) (b_7 b_8 b_9 b_10 b_11 b_12 : Int) (m9_ : LMv) (m10_ : (List TPiece)) (m11_ : LInt) (m12_ : (List TEnd)) (m13_ m14_ m15_ : LInt) (m16_ : (List TUndo)) => run tb (Q70.G N) Q70.A 9 (Q70.fin N) N Q70.k0 (Q70.st0 x.1 x.2.1 x.2.2.1 n_ t28_ t29_ c_2 b_2 b_3 b_4 b_5 b_6 b_7 b_8 b_9 b_10 b_11 b_12 m9_ m10_ m11_ m12_ m13_ m14_ m15_ m16_)) = Q70.l0 N (Q70 N) x.1 x.2.1 x.2.2.1 N := by funext n_ t28_ t29_ c_2 b_2 b_3 b_4 b_5 b_6 b_7 b_8 b_9 b_10 b_11 b_12 m9_ m10_ m11_ m12_ m13_ m14_ m15_ m16_; exact (Q70.runs N x.1 x.2.1 x.2.2.1 N) n_ t28_ t29_ c_2 b_2 b_3 b_4 b_5 b_6 b_7 b_8 b_9 b_10 b_11 b_12 m9_ m10_ m11_ m12_ m13_ m14_ m15_ m16_
 have h' : (Q70.D (N + 1)).f x = Q70.e N (Q70 N) (Q70.l0 N (Q70 N) x.1 x.2.1 x.2.2.1 N) x.1 x.2.1 x.2.2.1 := by kernel_rfl
 exact (congrArg (fun r0 => Q70.e N (Q70 N) r0 x.1 x.2.1 x.2.2.1) e0).trans (h'.symm.trans h)
theorem Q70.ok : ∀ N, FnOk Try.prog 70 (Q70.D N)
 | 0 => FnOk_none Try.func70 (by kernel_rfl) (by kernel_rfl) (fun x => rfl)
 | N + 1 => Q70.ok1 N (Q70.ok N)
def Q40.as : List MK := [.d true (.prod .str (.prod tI (.prod tI (.prod (.slice 107 (.prod (.int .u8) (.prod tI (.prod tI (.slice 127 (.prod tI (.prod tI (.prod tI tI)))))))) (.prod (.slice 3 tI) (.prod .bool (.prod .bool (.prod (.slice 109 (.prod tI (.prod tI (.prod tI .bool)))) (.prod tI (.prod tI tI)))))))))), .d true (.prod (.slice 3 tI) (.prod (.prod (.slice 3 tI) (.slice 3 tI)) (.prod tI tI))), .d false tI]
def Q40.rs : List (Bool × HT) := [(false, (.d tI)), (false, (.d tI))]
def Q40.lc : List AC := []
def Q40.D (N : Nat) : DFn := ⟨Q40.as, Q40.rs, (Int × Int), fun x => Q40 N x.1 x.2.1 x.2.2.1, fun r o => (r.1, r.2.1), fun b => (b.1, (b.2, ())), fun b => (), none⟩
theorem Q40.fit (N : Nat) : (Q40.D N).Fit := ⟨fun _ _ => rfl, fun _ _ => rfl, by kernel_rfl, (fun _ _ h => nomatch h), by kernel_rfl⟩
noncomputable def Q40.G (N : Nat) : Gam := gamOf [(69, Q69.D N), (70, Q70.D N)]
def Q40.A : Nat → Option LoopAnn := fun _ => none
noncomputable def Q40.fin (N : Nat) : St → Option (Int × Int) := resK tb Try.f40.results.toList (decRes (Q40.D N) Q40.lc)
theorem Q40.entry (N : Nat) (rec : List Item → St → Option (Int × Int)) (x : (argH Q40.as).den) : seg tb (Q40.G N) Q40.A 0 rec (Q40.fin N) segFuel [.code (bodyOf Try.f40)] (initSt Try.f40 (encArgs Q40.as x) (encMem Q40.as x)) = Q40.e N x.1 x.2.1 x.2.2.1 := by kernel_rfl
theorem Q40.ok (N : Nat) : FnOk Try.prog 40 (Q40.D N) := by
 refine FnOk_of tb_ok (Checked.mixed Try.checked) ⟨Try.f40, Try.func40, by kernel_rfl, by kernel_rfl, fun x y h => ⟨Q40.G N, Q40.A, N, gamOf_ok (by simp only [List.forall_mem_cons, List.not_mem_nil, false_implies, implies_true, and_true]; exact ⟨⟨Q69.ok N, Q69.fit N⟩, ⟨Q70.ok N, Q70.fit N⟩⟩), ?_⟩⟩ (Q40.fit N)
 rw [absFn_n (n0 := 0) rfl (by kernel_rfl)]
 exact (Q40.entry N _ x).trans h
def Q41.as : List MK := [.d true (.prod .str (.prod tI (.prod tI (.prod (.slice 107 (.prod (.int .u8) (.prod tI (.prod tI (.slice 127 (.prod tI (.prod tI (.prod tI tI)))))))) (.prod (.slice 3 tI) (.prod .bool (.prod .bool (.prod (.slice 109 (.prod tI (.prod tI (.prod tI .bool)))) (.prod tI (.prod tI tI)))))))))), .d true (.prod (.slice 3 tI) (.prod (.prod (.slice 3 tI) (.slice 3 tI)) (.prod tI tI))), .d false tI]
def Q41.rs : List (Bool × HT) := [(false, (.d tI))]
def Q41.lc : List AC := []
def Q41.D (N : Nat) : DFn := ⟨Q41.as, Q41.rs, Int, fun x => Q41 N x.1 x.2.1 x.2.2.1, fun r o => r.1, fun b => (b, ()), fun b => (), none⟩
theorem Q41.fit (N : Nat) : (Q41.D N).Fit := ⟨fun _ _ => rfl, fun _ _ => rfl, by kernel_rfl, (fun _ _ h => nomatch h), by kernel_rfl⟩
noncomputable def Q41.G (N : Nat) : Gam := gamOf [(40, Q40.D N)]
def Q41.A : Nat → Option LoopAnn := fun _ => none
noncomputable def Q41.fin (N : Nat) : St → Option Int := resK tb Try.f41.results.toList (decRes (Q41.D N) Q41.lc)
theorem Q41.entry (N : Nat) (rec : List Item → St → Option Int) (x : (argH Q41.as).den) : seg tb (Q41.G N) Q41.A 0 rec (Q41.fin N) segFuel [.code (bodyOf Try.f41)] (initSt Try.f41 (encArgs Q41.as x) (encMem Q41.as x)) = Q41.e N x.1 x.2.1 x.2.2.1 := by kernel_rfl
theorem Q41.ok (N : Nat) : FnOk Try.prog 41 (Q41.D N) := by
 refine FnOk_of tb_ok (Checked.mixed Try.checked) ⟨Try.f41, Try.func41, by kernel_rfl, by kernel_rfl, fun x y h => ⟨Q41.G N, Q41.A, N, gamOf_ok (by simp only [List.forall_mem_cons, List.not_mem_nil, false_implies, implies_true, and_true]; exact ⟨Q40.ok N, Q40.fit N⟩), ?_⟩⟩ (Q41.fit N)
 rw [absFn_n (n0 := 0) rfl (by kernel_rfl)]
 exact (Q41.entry N _ x).trans h
def Q71.as : List MK := [.d false tI, .d false tI]
def Q71.rs : List (Bool × HT) := [(false, (.d tI))]
def Q71.lc : List AC := []
def Q71.D (N : Nat) : DFn := ⟨Q71.as, Q71.rs, Int, fun x => Q71 N x.1 x.2.1, fun r o => r.1, fun b => (b, ()), fun b => (), none⟩
theorem Q71.fit (N : Nat) : (Q71.D N).Fit := ⟨fun _ _ => rfl, fun _ _ => rfl, by kernel_rfl, (fun _ _ h => nomatch h), by kernel_rfl⟩
noncomputable def Q71.G (N : Nat) : Gam := gamOf [(81, Q81.D N)]
def Q71.A : Nat → Option LoopAnn := fun _ => none
noncomputable def Q71.fin (N : Nat) : St → Option Int := resK tb Try.f71.results.toList (decRes (Q71.D N) Q71.lc)
theorem Q71.entry (N : Nat) (rec : List Item → St → Option Int) (x : (argH Q71.as).den) : seg tb (Q71.G N) Q71.A 0 rec (Q71.fin N) segFuel [.code (bodyOf Try.f71)] (initSt Try.f71 (encArgs Q71.as x) (encMem Q71.as x)) = Q71.e N x.1 x.2.1 := by kernel_rfl
theorem Q71.ok (N : Nat) : FnOk Try.prog 71 (Q71.D N) := by
 refine FnOk_of tb_ok (Checked.mixed Try.checked) ⟨Try.f71, Try.func71, by kernel_rfl, by kernel_rfl, fun x y h => ⟨Q71.G N, Q71.A, N, gamOf_ok (by simp only [List.forall_mem_cons, List.not_mem_nil, false_implies, implies_true, and_true]; exact ⟨Q81.ok N, Q81.fit N⟩), ?_⟩⟩ (Q71.fit N)
 rw [absFn_n (n0 := 0) rfl (by kernel_rfl)]
 exact (Q71.entry N _ x).trans h
def Q72.as : List MK := [.d false tI]
def Q72.rs : List (Bool × HT) := [(false, (.d tI))]
def Q72.lc : List AC := []
def Q72.D (N : Nat) : DFn := ⟨Q72.as, Q72.rs, Int, fun x => Q72 N x.1, fun r o => r.1, fun b => (b, ()), fun b => (), none⟩
theorem Q72.fit (N : Nat) : (Q72.D N).Fit := ⟨fun _ _ => rfl, fun _ _ => rfl, by kernel_rfl, (fun _ _ h => nomatch h), by kernel_rfl⟩
noncomputable def Q72.G (N : Nat) : Gam := gamOf []
def Q72.A : Nat → Option LoopAnn := fun _ => none
noncomputable def Q72.fin (N : Nat) : St → Option Int := resK tb Try.f72.results.toList (decRes (Q72.D N) Q72.lc)
theorem Q72.entry (N : Nat) (rec : List Item → St → Option Int) (x : (argH Q72.as).den) : seg tb (Q72.G N) Q72.A 0 rec (Q72.fin N) segFuel [.code (bodyOf Try.f72)] (initSt Try.f72 (encArgs Q72.as x) (encMem Q72.as x)) = Q72.e N x.1 := by kernel_rfl
theorem Q72.ok (N : Nat) : FnOk Try.prog 72 (Q72.D N) := by
 refine FnOk_of tb_ok (Checked.mixed Try.checked) ⟨Try.f72, Try.func72, by kernel_rfl, by kernel_rfl, fun x y h => ⟨Q72.G N, Q72.A, N, gamOf_ok (fun p hp => nomatch hp), ?_⟩⟩ (Q72.fit N)
 rw [absFn_n (n0 := 0) rfl (by kernel_rfl)]
 exact (Q72.entry N _ x).trans h
def Q42.as : List MK := [.o (.ptr 115 (.prod (.prod (.d .str) (.prod (.d tI) (.prod (.d tI) (.prod (.own 107 (.prod (.int .u8) (.prod tI (.prod tI (.slice 127 (.prod tI (.prod tI (.prod tI tI)))))))) (.prod (.own 3 tI) (.prod (.d .bool) (.prod (.d .bool) (.prod (.own 109 (.prod tI (.prod tI (.prod tI .bool)))) (.d (.prod tI (.prod tI tI))))))))))) (.prod (.prod (.own 3 tI) (.prod (.prod (.own 3 tI) (.own 3 tI)) (.d (.prod tI tI)))) (.prod (.d (.int .u64)) (.own 144 (.prod (.prod tI (.prod tI tI)) (.prod tI (.prod tI (.prod .bool (.prod tI (.int .u64))))))))))) true, .d false tI]
def Q42.rs : List (Bool × HT) := [(false, (.d tI))]
def Q42.lc : List AC := [.ptr 0 0]
def Q42.D (N : Nat) : DFn := ⟨Q42.as, Q42.rs, (Int × TBoard), fun x => Q42 N x.1 x.2.1, fun r o => (r.1, o.1), fun b => (b.1, ()), fun b => (b.2, ()), none⟩
theorem Q42.fit (N : Nat) : (Q42.D N).Fit := ⟨fun _ _ => rfl, fun _ _ => rfl, by kernel_rfl, (fun _ _ h => nomatch h), by kernel_rfl⟩
noncomputable def Q42.G (N : Nat) : Gam := gamOf [(32, Q32.D N), (28, Q28.D N), (71, Q71.D N), (34, Q34.D N), (50, Q50.D N), (72, Q72.D N), (51, Q51.D N), (42, Q42.D N)]
def Q42.A : Nat → Option LoopAnn := fun k => bif Nat.beq k 0 then some ⟨[0, 1, 6, 20, 21, 22], [], [], [(true, 0, 3, 9), (true, 0, 4, 10), (true, 0, 7, 11), (true, 0, 11, 12), (true, 0, 12, 13), (true, 0, 13, 14), (true, 0, 17, 15)], [], 16, false⟩ else none
noncomputable def Q42.fin (N : Nat) : St → Option (Int × TBoard) := resK tb Try.f42.results.toList (decRes (Q42.D (N + 1)) Q42.lc)
noncomputable def Q42.k0 : List Item := stackAt [.r, .r, .r, .r, .l, .r, .b] (bodyOf Try.f42) []
def Q42.st0 (b_ : TBoard) (depth best t21_ t22_ : Int) (b_2 : ByteArray) (b_3 b_4 : Int) (b_5 b_6 : Bool) (b_7 b_8 b_9 b_10 b_11 b_12 : Int) (m8_ : LMv) (m9_ : (List TPiece)) (m10_ : LInt) (m11_ : (List TEnd)) (m12_ m13_ m14_ : LInt) (m15_ : (List TUndo)) : St := ⟨[.one (.ptr 0 0), .one (.int .i64 depth)] ++ List.replicate 4 (.one .any) ++ [.one (.int .i64 best)] ++ List.replicate 13 (.one .any) ++ [.one (.own 8), .one (.int .i64 t21_), .one (.int .i64 t22_)] ++ List.replicate 18 (.one .any), [.var 115 [.str b_2, .int .i64 b_3, .int .i64 b_4, .own 9, .own 10, .bool b_5, .bool b_6, .own 11, .int .i64 b_7, .int .i64 b_8, .int .i64 b_9, .own 12, .own 13, .own 14, .int .i64 b_10, .int .i64 b_11, .int .u64 b_12, .own 15], .gone, .gone, .gone, .gone, .gone, .gone, .gone, .row 41 (.prod tI (.prod tI tI)) m8_, .row 107 (.prod (.int .u8) (.prod tI (.prod tI (.slice 127 (.prod tI (.prod tI (.prod tI tI))))))) m9_, .row 3 tI m10_, .row 109 (.prod tI (.prod tI (.prod tI .bool))) m11_, .row 3 tI m12_, .row 3 tI m13_, .row 3 tI m14_, .row 144 (.prod (.prod tI (.prod tI tI)) (.prod tI (.prod tI (.prod .bool (.prod tI (.int .u64)))))) m15_]⟩
theorem Q42.step0 (N : Nat) (rec : List Item → St → Option (Int × TBoard)) (b_ : TBoard) (depth best t21_ t22_ : Int) (b_2 : ByteArray) (b_3 b_4 : Int) (b_5 b_6 : Bool) (b_7 b_8 b_9 b_10 b_11 b_12 : Int) (m8_ : LMv) (m9_ : (List TPiece)) (m10_ : LInt) (m11_ : (List TEnd)) (m12_ m13_ m14_ : LInt) (m15_ : (List TUndo)) : seg tb (Q42.G N) Q42.A 8 rec (Q42.fin N) segFuel (loopBody Q42.k0) (Q42.st0 b_ depth best t21_ t22_ b_2 b_3 b_4 b_5 b_6 b_7 b_8 b_9 b_10 b_11 b_12 m8_ m9_ m10_ m11_ m12_ m13_ m14_ m15_) = Q42.s0 N (Q42 N) b_ depth (fun best t21_ t22_ b_2 b_3 b_4 b_5 b_6 b_7 b_8 b_9 b_10 b_11 b_12 m8_ m9_ m10_ m11_ m12_ m13_ m14_ m15_ => rec Q42.k0 (Q42.st0 b_ depth best t21_ t22_ b_2 b_3 b_4 b_5 b_6 b_7 b_8 b_9 b_10 b_11 b_12 m8_ m9_ m10_ m11_ m12_ m13_ m14_ m15_)) best t21_ t22_ b_2 b_3 b_4 b_5 b_6 b_7 b_8 b_9 b_10 b_11 b_12 m8_ m9_ m10_ m11_ m12_ m13_ m14_ m15_ := by kernel_rfl
theorem Q42.entry (N : Nat) (rec : List Item → St → Option (Int × TBoard)) (x : (argH Q42.as).den) : seg tb (Q42.G N) Q42.A 8 rec (Q42.fin N) segFuel [.code (bodyOf Try.f42)] (initSt Try.f42 (encArgs Q42.as x) (encMem Q42.as x)) = Q42.e N (Q42 N) (fun best t21_ t22_ b_2 b_3 b_4 b_5 b_6 b_7 b_8 b_9 b_10 b_11 b_12 m8_ m9_ m10_ m11_ m12_ m13_ m14_ m15_ => rec Q42.k0 (Q42.st0 x.1 x.2.1 best t21_ t22_ b_2 b_3 b_4 b_5 b_6 b_7 b_8 b_9 b_10 b_11 b_12 m8_ m9_ m10_ m11_ m12_ m13_ m14_ m15_)) x.1 x.2.1 := by kernel_rfl
theorem Q42.runs (N : Nat) (b_ : TBoard) (depth : Int) : ∀ n, (∀ (best t21_ t22_ : Int) (b_2 : ByteArray) (b_3 b_4 : Int) (b_5 b_6 : Bool) (b_7 b_8 b_9 b_10 b_11 b_12 : Int) (m8_ : LMv) (m9_ : (List TPiece)) (m10_ : LInt) (m11_ : (List TEnd)) (m12_ m13_ m14_ : LInt) (m15_ : (List TUndo)), run tb (Q42.G N) Q42.A 8 (Q42.fin N) n Q42.k0 (Q42.st0 b_ depth best t21_ t22_ b_2 b_3 b_4 b_5 b_6 b_7 b_8 b_9 b_10 b_11 b_12 m8_ m9_ m10_ m11_ m12_ m13_ m14_ m15_) = Q42.l0 N (Q42 N) b_ depth n best t21_ t22_ b_2 b_3 b_4 b_5 b_6 b_7 b_8 b_9 b_10 b_11 b_12 m8_ m9_ m10_ m11_ m12_ m13_ m14_ m15_)
 | 0 => fun _ _ _ _ _ _ _ _ _ _ _ _ _ _ _ _ _ _ _ _ _ _ => rfl
 | n + 1 => by
  have h0 := Q42.runs N b_ depth n
  have e0 : (fun (best t21_ t22_ : Int) (b_2 : ByteArray) (b_3 b_4 : Int) (b_5 b_6 : Bool) (b_7 b_8 b_9 b_10 b_11 b_12 : Int) (m8_ : LMv) (m9_ : (List TPiece)) (m10_ : LInt) (m11_ : (List TEnd)) (m12_ m13_ m14_ : LInt) (m15_ : (List TUndo)) => run tb (Q42.G N) Q42.A 8 (Q42.fin N) n Q42.k0 (Q42.st0 b_ depth best t21_ t22_ b_2 b_3 b_4 b_5 b_6 b_7 b_8 b_9 b_10 b_11 b_12 m8_ m9_ m10_ m11_ m12_ m13_ m14_ m15_)) = Q42.l0 N (Q42 N) b_ depth n := by funext best t21_ t22_ b_2 b_3 b_4 b_5 b_6 b_7 b_8 b_9 b_10 b_11 b_12 m8_ m9_ m10_ m11_ m12_ m13_ m14_ m15_; exact h0 best t21_ t22_ b_2 b_3 b_4 b_5 b_6 b_7 b_8 b_9 b_10 b_11 b_12 m8_ m9_ m10_ m11_ m12_ m13_ m14_ m15_
  have g0 : (∀ (best t21_ t22_ : Int) (b_2 : ByteArray) (b_3 b_4 : Int) (b_5 b_6 : Bool) (b_7 b_8 b_9 b_10 b_11 b_12 : Int) (m8_ : LMv) (m9_ : (List TPiece)) (m10_ : LInt) (m11_ : (List TEnd)) (m12_ m13_ m14_ : LInt) (m15_ : (List TUndo)), run tb (Q42.G N) Q42.A 8 (Q42.fin N) (n + 1) Q42.k0 (Q42.st0 b_ depth best t21_ t22_ b_2 b_3 b_4 b_5 b_6 b_7 b_8 b_9 b_10 b_11 b_12 m8_ m9_ m10_ m11_ m12_ m13_ m14_ m15_) = Q42.l0 N (Q42 N) b_ depth (n + 1) best t21_ t22_ b_2 b_3 b_4 b_5 b_6 b_7 b_8 b_9 b_10 b_11 b_12 m8_ m9_ m10_ m11_ m12_ m13_ m14_ m15_) := by
   intro best t21_ t22_ b_2 b_3 b_4 b_5 b_6 b_7 b_8 b_9 b_10 b_11 b_12 m8_ m9_ m10_ m11_ m12_ m13_ m14_ m15_
   exact (run_succ (by kernel_rfl)).trans ((Q42.step0 N _ b_ depth best t21_ t22_ b_2 b_3 b_4 b_5 b_6 b_7 b_8 b_9 b_10 b_11 b_12 m8_ m9_ m10_ m11_ m12_ m13_ m14_ m15_).trans ((congrArg (fun r0 => Q42.s0 N (Q42 N) b_ depth r0 best t21_ t22_ b_2 b_3 b_4 b_5 b_6 b_7 b_8 b_9 b_10 b_11 b_12 m8_ m9_ m10_ m11_ m12_ m13_ m14_ m15_) e0).trans (Q42.l0_s N (Q42 N) b_ depth n best t21_ t22_ b_2 b_3 b_4 b_5 b_6 b_7 b_8 b_9 b_10 b_11 b_12 m8_ m9_ m10_ m11_ m12_ m13_ m14_ m15_).symm))
  exact g0
theorem Q42.ok1 (N : Nat) (ih : FnOk Try.prog 42 (Q42.D N)) : FnOk Try.prog 42 (Q42.D (N + 1)) := by
 refine FnOk_of tb_ok (Checked.mixed Try.checked) ⟨Try.f42, Try.func42, by kernel_rfl, by kernel_rfl, fun x y h => ⟨Q42.G N, Q42.A, N, gamOf_ok (by simp only [List.forall_mem_cons, List.not_mem_nil, false_implies, implies_true, and_true]; exact ⟨⟨Q32.ok N, Q32.fit N⟩, ⟨Q28.ok N, Q28.fit N⟩, ⟨Q71.ok N, Q71.fit N⟩, ⟨Q34.ok N, Q34.fit N⟩, ⟨Q50.ok N, Q50.fit N⟩, ⟨Q72.ok N, Q72.fit N⟩, ⟨Q51.ok N, Q51.fit N⟩, ⟨ih, Q42.fit N⟩⟩), ?_⟩⟩ (Q42.fit (N + 1))
 rw [absFn_n (n0 := 8) rfl (by kernel_rfl)]
 refine (Q42.entry N (run tb (Q42.G N) Q42.A 8 (Q42.fin N) N) x).trans ?_
 have e0 : (fun (best t21_ t22_ : Int) (b_2 : ByteArray) (b_3 b_4 : Int) (b_5 b_6 : Bool) (b_7 b_8 b_9 b_10 b_11 b_12 : Int) (m8_ : LMv) (m9_ : (List TPiece)) (m10_ : LInt) (m11_ : (List TEnd)) (m12_ m13_ m14_ : LInt) (m15_ : (List TUndo)) => run tb (Q42.G N) Q42.A 8 (Q42.fin N) N Q42.k0 (Q42.st0 x.1 x.2.1 best t21_ t22_ b_2 b_3 b_4 b_5 b_6 b_7 b_8 b_9 b_10 b_11 b_12 m8_ m9_ m10_ m11_ m12_ m13_ m14_ m15_)) = Q42.l0 N (Q42 N) x.1 x.2.1 N := by funext best t21_ t22_ b_2 b_3 b_4 b_5 b_6 b_7 b_8 b_9 b_10 b_11 b_12 m8_ m9_ m10_ m11_ m12_ m13_ m14_ m15_; exact (Q42.runs N x.1 x.2.1 N) best t21_ t22_ b_2 b_3 b_4 b_5 b_6 b_7 b_8 b_9 b_10 b_11 b_12 m8_ m9_ m10_ m11_ m12_ m13_ m14_ m15_
 have h' : (Q42.D (N + 1)).f x = Q42.e N (Q42 N) (Q42.l0 N (Q42 N) x.1 x.2.1 N) x.1 x.2.1 := by kernel_rfl
 exact (congrArg (fun r0 => Q42.e N (Q42 N) r0 x.1 x.2.1) e0).trans (h'.symm.trans h)
theorem Q42.ok : ∀ N, FnOk Try.prog 42 (Q42.D N)
 | 0 => FnOk_none Try.func42 (by kernel_rfl) (by kernel_rfl) (fun x => rfl)
 | N + 1 => Q42.ok1 N (Q42.ok N)
def Q20.as : List MK := [.d true (.prod .str (.prod tI (.prod tI (.prod (.slice 107 (.prod (.int .u8) (.prod tI (.prod tI (.slice 127 (.prod tI (.prod tI (.prod tI tI)))))))) (.prod (.slice 3 tI) (.prod .bool (.prod .bool (.prod (.slice 109 (.prod tI (.prod tI (.prod tI .bool)))) (.prod tI (.prod tI tI)))))))))), .d true (.prod (.slice 3 tI) (.prod (.prod (.slice 3 tI) (.slice 3 tI)) (.prod tI tI))), .d false tI]
def Q20.rs : List (Bool × HT) := [(false, (.d tI)), (false, (.d tI))]
def Q20.lc : List AC := []
def Q20.D (N : Nat) : DFn := ⟨Q20.as, Q20.rs, (Int × Int), fun x => Q20 N x.1 x.2.1 x.2.2.1, fun r o => (r.1, r.2.1), fun b => (b.1, (b.2, ())), fun b => (), none⟩
theorem Q20.fit (N : Nat) : (Q20.D N).Fit := ⟨fun _ _ => rfl, fun _ _ => rfl, by kernel_rfl, (fun _ _ h => nomatch h), by kernel_rfl⟩
noncomputable def Q20.G (N : Nat) : Gam := gamOf [(41, Q41.D N), (27, Q27.D N), (42, Q42.D N)]
def Q20.A : Nat → Option LoopAnn := fun _ => none
noncomputable def Q20.fin (N : Nat) : St → Option (Int × Int) := resK tb Try.f20.results.toList (decRes (Q20.D N) Q20.lc)
theorem Q20.entry (N : Nat) (rec : List Item → St → Option (Int × Int)) (x : (argH Q20.as).den) : seg tb (Q20.G N) Q20.A 0 rec (Q20.fin N) segFuel [.code (bodyOf Try.f20)] (initSt Try.f20 (encArgs Q20.as x) (encMem Q20.as x)) = Q20.e N x.1 x.2.1 x.2.2.1 := by kernel_rfl
theorem Q20.ok (N : Nat) : FnOk Try.prog 20 (Q20.D N) := by
 refine FnOk_of tb_ok (Checked.mixed Try.checked) ⟨Try.f20, Try.func20, by kernel_rfl, by kernel_rfl, fun x y h => ⟨Q20.G N, Q20.A, N, gamOf_ok (by simp only [List.forall_mem_cons, List.not_mem_nil, false_implies, implies_true, and_true]; exact ⟨⟨Q41.ok N, Q41.fit N⟩, ⟨Q27.ok N, Q27.fit N⟩, ⟨Q42.ok N, Q42.fit N⟩⟩), ?_⟩⟩ (Q20.fit N)
 rw [absFn_n (n0 := 0) rfl (by kernel_rfl)]
 exact (Q20.entry N _ x).trans h
def Q68.as : List MK := [.o (.ptr 115 (.prod (.prod (.d .str) (.prod (.d tI) (.prod (.d tI) (.prod (.own 107 (.prod (.int .u8) (.prod tI (.prod tI (.slice 127 (.prod tI (.prod tI (.prod tI tI)))))))) (.prod (.own 3 tI) (.prod (.d .bool) (.prod (.d .bool) (.prod (.own 109 (.prod tI (.prod tI (.prod tI .bool)))) (.d (.prod tI (.prod tI tI))))))))))) (.prod (.prod (.own 3 tI) (.prod (.prod (.own 3 tI) (.own 3 tI)) (.d (.prod tI tI)))) (.prod (.d (.int .u64)) (.own 144 (.prod (.prod tI (.prod tI tI)) (.prod tI (.prod tI (.prod .bool (.prod tI (.int .u64))))))))))) true, .d false tI]
def Q68.rs : List (Bool × HT) := [(true, (.d (.prod tI (.prod tI tI)))), (false, (.d tI))]
def Q68.lc : List AC := [.ptr 0 0]
def Q68.D (N : Nat) : DFn := ⟨Q68.as, Q68.rs, (TMv × Int × TBoard), fun x => Q68 N x.1 x.2.1, fun r o => (r.1, r.2.1, o.1), fun b => (b.1, (b.2.1, ())), fun b => (b.2.2, ()), none⟩
theorem Q68.fit (N : Nat) : (Q68.D N).Fit := ⟨fun _ _ => rfl, fun _ _ => rfl, by kernel_rfl, (fun _ _ h => nomatch h), by kernel_rfl⟩
noncomputable def Q68.G (N : Nat) : Gam := gamOf [(34, Q34.D N), (50, Q50.D N), (42, Q42.D N), (72, Q72.D N), (51, Q51.D N)]
def Q68.A : Nat → Option LoopAnn := fun k => bif Nat.beq k 0 then some ⟨[0, 1, 4, 6, 7, 12, 13, 14], [], [], [(true, 0, 3, 11), (true, 0, 4, 12), (true, 0, 7, 13), (true, 0, 11, 14), (true, 0, 12, 15), (true, 0, 13, 16), (true, 0, 17, 17)], [], 18, false⟩ else none
noncomputable def Q68.fin (N : Nat) : St → Option (TMv × Int × TBoard) := resK tb Try.f68.results.toList (decRes (Q68.D N) Q68.lc)
noncomputable def Q68.k0 : List Item := stackAt [.r, .r, .r, .l, .r, .b] (bodyOf Try.f68) []
def Q68.st0 (b_ : TBoard) (depth most t13_ t14_ : Int) (b_2 : ByteArray) (b_3 b_4 : Int) (b_5 b_6 : Bool) (b_7 b_8 b_9 b_10 b_11 b_12 out out2 out3 : Int) (m10_ : LMv) (m11_ : (List TPiece)) (m12_ : LInt) (m13_ : (List TEnd)) (m14_ m15_ m16_ : LInt) (m17_ : (List TUndo)) : St := ⟨[.one (.ptr 0 0), .one (.int .i64 depth), .one .any, .one .any, .one (.ptr 8 0), .one .any, .one (.ptr 9 0), .one (.int .i64 most)] ++ List.replicate 4 (.one .any) ++ [.one (.own 10), .one (.int .i64 t13_), .one (.int .i64 t14_)] ++ List.replicate 22 (.one .any), [.var 115 [.str b_2, .int .i64 b_3, .int .i64 b_4, .own 11, .own 12, .bool b_5, .bool b_6, .own 13, .int .i64 b_7, .int .i64 b_8, .int .i64 b_9, .own 14, .own 15, .own 16, .int .i64 b_10, .int .i64 b_11, .int .u64 b_12, .own 17], .gone, .gone, .gone, .gone, .gone, .gone, .gone, .var 41 [.int .i64 0, .int .i64 0, .int .i64 0], .var 41 [.int .i64 out, .int .i64 out2, .int .i64 out3], .row 41 (.prod tI (.prod tI tI)) m10_, .row 107 (.prod (.int .u8) (.prod tI (.prod tI (.slice 127 (.prod tI (.prod tI (.prod tI tI))))))) m11_, .row 3 tI m12_, .row 109 (.prod tI (.prod tI (.prod tI .bool))) m13_, .row 3 tI m14_, .row 3 tI m15_, .row 3 tI m16_, .row 144 (.prod (.prod tI (.prod tI tI)) (.prod tI (.prod tI (.prod .bool (.prod tI (.int .u64)))))) m17_]⟩
theorem Q68.step0 (N : Nat) (rec : List Item → St → Option (TMv × Int × TBoard)) (b_ : TBoard) (depth most t13_ t14_ : Int) (b_2 : ByteArray) (b_3 b_4 : Int) (b_5 b_6 : Bool) (b_7 b_8 b_9 b_10 b_11 b_12 out out2 out3 : Int) (m10_ : LMv) (m11_ : (List TPiece)) (m12_ : LInt) (m13_ : (List TEnd)) (m14_ m15_ m16_ : LInt) (m17_ : (List TUndo)) : seg tb (Q68.G N) Q68.A 8 rec (Q68.fin N) segFuel (loopBody Q68.k0) (Q68.st0 b_ depth most t13_ t14_ b_2 b_3 b_4 b_5 b_6 b_7 b_8 b_9 b_10 b_11 b_12 out out2 out3 m10_ m11_ m12_ m13_ m14_ m15_ m16_ m17_) = Q68.s0 N b_ depth (fun most t13_ t14_ b_2 b_3 b_4 b_5 b_6 b_7 b_8 b_9 b_10 b_11 b_12 out out2 out3 m10_ m11_ m12_ m13_ m14_ m15_ m16_ m17_ => rec Q68.k0 (Q68.st0 b_ depth most t13_ t14_ b_2 b_3 b_4 b_5 b_6 b_7 b_8 b_9 b_10 b_11 b_12 out out2 out3 m10_ m11_ m12_ m13_ m14_ m15_ m16_ m17_)) most t13_ t14_ b_2 b_3 b_4 b_5 b_6 b_7 b_8 b_9 b_10 b_11 b_12 out out2 out3 m10_ m11_ m12_ m13_ m14_ m15_ m16_ m17_ := by kernel_rfl
theorem Q68.entry (N : Nat) (rec : List Item → St → Option (TMv × Int × TBoard)) (x : (argH Q68.as).den) : seg tb (Q68.G N) Q68.A 8 rec (Q68.fin N) segFuel [.code (bodyOf Try.f68)] (initSt Try.f68 (encArgs Q68.as x) (encMem Q68.as x)) = Q68.e N (fun most t13_ t14_ b_2 b_3 b_4 b_5 b_6 b_7 b_8 b_9 b_10 b_11 b_12 out out2 out3 m10_ m11_ m12_ m13_ m14_ m15_ m16_ m17_ => rec Q68.k0 (Q68.st0 x.1 x.2.1 most t13_ t14_ b_2 b_3 b_4 b_5 b_6 b_7 b_8 b_9 b_10 b_11 b_12 out out2 out3 m10_ m11_ m12_ m13_ m14_ m15_ m16_ m17_)) x.1 x.2.1 := by kernel_rfl
theorem Q68.runs (N : Nat) (b_ : TBoard) (depth : Int) : ∀ n, (∀ (most t13_ t14_ : Int) (b_2 : ByteArray) (b_3 b_4 : Int) (b_5 b_6 : Bool) (b_7 b_8 b_9 b_10 b_11 b_12 out out2 out3 : Int) (m10_ : LMv) (m11_ : (List TPiece)) (m12_ : LInt) (m13_ : (List TEnd)) (m14_ m15_ m16_ : LInt) (m17_ : (List TUndo)), run tb (Q68.G N) Q68.A 8 (Q68.fin N) n Q68.k0 (Q68.st0 b_ depth most t13_ t14_ b_2 b_3 b_4 b_5 b_6 b_7 b_8 b_9 b_10 b_11 b_12 out out2 out3 m10_ m11_ m12_ m13_ m14_ m15_ m16_ m17_) = Q68.l0 N b_ depth n most t13_ t14_ b_2 b_3 b_4 b_5 b_6 b_7 b_8 b_9 b_10 b_11 b_12 out out2 out3 m10_ m11_ m12_ m13_ m14_ m15_ m16_ m17_)
 | 0 => fun _ _ _ _ _ _ _ _ _ _ _ _ _ _ _ _ _ _ _ _ _ _ _ _ _ => rfl
 | n + 1 => by
  have h0 := Q68.runs N b_ depth n
  have e0 : (fun (most t13_ t14_ : Int) (b_2 : ByteArray) (b_3 b_4 : Int) (b_5 b_6 : Bool) (b_7 b_8 b_9 b_10 b_11 b_12 out out2 out3 : Int) (m10_ : LMv) (m11_ : (List TPiece)) (m12_ : LInt) (m13_ : (List TEnd)) (m14_ m15_ m16_ : LInt) (m17_ : (List TUndo)) => run tb (Q68.G N) Q68.A 8 (Q68.fin N) n Q68.k0 (Q68.st0 b_ depth most t13_ t14_ b_2 b_3 b_4 b_5 b_6 b_7 b_8 b_9 b_10 b_11 b_12 out out2 out3 m10_ m11_ m12_ m13_ m14_ m15_ m16_ m17_)) = Q68.l0 N b_ depth n := by funext most t13_ t14_ b_2 b_3 b_4 b_5 b_6 b_7 b_8 b_9 b_10 b_11 b_12 out out2 out3 m10_ m11_ m12_ m13_ m14_ m15_ m16_ m17_; exact h0 most t13_ t14_ b_2 b_3 b_4 b_5 b_6 b_7 b_8 b_9 b_10 b_11 b_12 out out2 out3 m10_ m11_ m12_ m13_ m14_ m15_ m16_ m17_
  have g0 : (∀ (most t13_ t14_ : Int) (b_2 : ByteArray) (b_3 b_4 : Int) (b_5 b_6 : Bool) (b_7 b_8 b_9 b_10 b_11 b_12 out out2 out3 : Int) (m10_ : LMv) (m11_ : (List TPiece)) (m12_ : LInt) (m13_ : (List TEnd)) (m14_ m15_ m16_ : LInt) (m17_ : (List TUndo)), run tb (Q68.G N) Q68.A 8 (Q68.fin N) (n + 1) Q68.k0 (Q68.st0 b_ depth most t13_ t14_ b_2 b_3 b_4 b_5 b_6 b_7 b_8 b_9 b_10 b_11 b_12 out out2 out3 m10_ m11_ m12_ m13_ m14_ m15_ m16_ m17_) = Q68.l0 N b_ depth (n + 1) most t13_ t14_ b_2 b_3 b_4 b_5 b_6 b_7 b_8 b_9 b_10 b_11 b_12 out out2 out3 m10_ m11_ m12_ m13_ m14_ m15_ m16_ m17_) := by
   intro most t13_ t14_ b_2 b_3 b_4 b_5 b_6 b_7 b_8 b_9 b_10 b_11 b_12 out out2 out3 m10_ m11_ m12_ m13_ m14_ m15_ m16_ m17_
   exact (run_succ (by kernel_rfl)).trans ((Q68.step0 N _ b_ depth most t13_ t14_ b_2 b_3 b_4 b_5 b_6 b_7 b_8 b_9 b_10 b_11 b_12 out out2 out3 m10_ m11_ m12_ m13_ m14_ m15_ m16_ m17_).trans ((congrArg (fun r0 => Q68.s0 N b_ depth r0 most t13_ t14_ b_2 b_3 b_4 b_5 b_6 b_7 b_8 b_9 b_10 b_11 b_12 out out2 out3 m10_ m11_ m12_ m13_ m14_ m15_ m16_ m17_) e0).trans (Q68.l0_s N b_ depth n most t13_ t14_ b_2 b_3 b_4 b_5 b_6 b_7 b_8 b_9 b_10 b_11 b_12 out out2 out3 m10_ m11_ m12_ m13_ m14_ m15_ m16_ m17_).symm))
  exact g0
theorem Q68.ok (N : Nat) : FnOk Try.prog 68 (Q68.D N) := by
 refine FnOk_of tb_ok (Checked.mixed Try.checked) ⟨Try.f68, Try.func68, by kernel_rfl, by kernel_rfl, fun x y h => ⟨Q68.G N, Q68.A, N, gamOf_ok (by simp only [List.forall_mem_cons, List.not_mem_nil, false_implies, implies_true, and_true]; exact ⟨⟨Q34.ok N, Q34.fit N⟩, ⟨Q50.ok N, Q50.fit N⟩, ⟨Q42.ok N, Q42.fit N⟩, ⟨Q72.ok N, Q72.fit N⟩, ⟨Q51.ok N, Q51.fit N⟩⟩), ?_⟩⟩ (Q68.fit N)
 rw [absFn_n (n0 := 8) rfl (by kernel_rfl)]
 refine (Q68.entry N (run tb (Q68.G N) Q68.A 8 (Q68.fin N) N) x).trans ?_
 have e0 : (fun (most t13_ t14_ : Int) (b_2 : ByteArray) (b_3 b_4 : Int) (b_5 b_6 : Bool) (b_7 b_8 b_9 b_10 b_11 b_12 out out2 out3 : Int) (m10_ : LMv) (m11_ : (List TPiece)) (m12_ : LInt) (m13_ : (List TEnd)) (m14_ m15_ m16_ : LInt) (m17_ : (List TUndo)) => run tb (Q68.G N) Q68.A 8 (Q68.fin N) N Q68.k0 (Q68.st0 x.1 x.2.1 most t13_ t14_ b_2 b_3 b_4 b_5 b_6 b_7 b_8 b_9 b_10 b_11 b_12 out out2 out3 m10_ m11_ m12_ m13_ m14_ m15_ m16_ m17_)) = Q68.l0 N x.1 x.2.1 N := by funext most t13_ t14_ b_2 b_3 b_4 b_5 b_6 b_7 b_8 b_9 b_10 b_11 b_12 out out2 out3 m10_ m11_ m12_ m13_ m14_ m15_ m16_ m17_; exact (Q68.runs N x.1 x.2.1 N) most t13_ t14_ b_2 b_3 b_4 b_5 b_6 b_7 b_8 b_9 b_10 b_11 b_12 out out2 out3 m10_ m11_ m12_ m13_ m14_ m15_ m16_ m17_
 have h' : (Q68.D N).f x = Q68.e N (Q68.l0 N x.1 x.2.1 N) x.1 x.2.1 := by kernel_rfl
 exact (congrArg (fun r0 => Q68.e N r0 x.1 x.2.1) e0).trans (h'.symm.trans h)
def Q39.as : List MK := [.d true (.prod .str (.prod tI (.prod tI (.prod (.slice 107 (.prod (.int .u8) (.prod tI (.prod tI (.slice 127 (.prod tI (.prod tI (.prod tI tI)))))))) (.prod (.slice 3 tI) (.prod .bool (.prod .bool (.prod (.slice 109 (.prod tI (.prod tI (.prod tI .bool)))) (.prod tI (.prod tI tI)))))))))), .d true (.prod (.slice 3 tI) (.prod (.prod (.slice 3 tI) (.slice 3 tI)) (.prod tI tI))), .d false tI]
def Q39.rs : List (Bool × HT) := [(true, (.d (.prod tI (.prod tI tI)))), (false, (.d tI)), (false, (.d tI))]
def Q39.lc : List AC := []
def Q39.D (N : Nat) : DFn := ⟨Q39.as, Q39.rs, (TMv × Int × Int), fun x => Q39 N x.1 x.2.1 x.2.2.1, fun r o => (r.1, r.2.1, r.2.2.1), fun b => (b.1, (b.2.1, (b.2.2, ()))), fun b => (), none⟩
theorem Q39.fit (N : Nat) : (Q39.D N).Fit := ⟨fun _ _ => rfl, fun _ _ => rfl, by kernel_rfl, (fun _ _ h => nomatch h), by kernel_rfl⟩
noncomputable def Q39.G (N : Nat) : Gam := gamOf [(41, Q41.D N), (27, Q27.D N), (32, Q32.D N), (68, Q68.D N)]
def Q39.A : Nat → Option LoopAnn := fun _ => none
noncomputable def Q39.fin (N : Nat) : St → Option (TMv × Int × Int) := resK tb Try.f39.results.toList (decRes (Q39.D N) Q39.lc)
theorem Q39.entry (N : Nat) (rec : List Item → St → Option (TMv × Int × Int)) (x : (argH Q39.as).den) : seg tb (Q39.G N) Q39.A 0 rec (Q39.fin N) segFuel [.code (bodyOf Try.f39)] (initSt Try.f39 (encArgs Q39.as x) (encMem Q39.as x)) = Q39.e N x.1 x.2.1 x.2.2.1 := by kernel_rfl
theorem Q39.ok (N : Nat) : FnOk Try.prog 39 (Q39.D N) := by
 refine FnOk_of tb_ok (Checked.mixed Try.checked) ⟨Try.f39, Try.func39, by kernel_rfl, by kernel_rfl, fun x y h => ⟨Q39.G N, Q39.A, N, gamOf_ok (by simp only [List.forall_mem_cons, List.not_mem_nil, false_implies, implies_true, and_true]; exact ⟨⟨Q41.ok N, Q41.fit N⟩, ⟨Q27.ok N, Q27.fit N⟩, ⟨Q32.ok N, Q32.fit N⟩, ⟨Q68.ok N, Q68.fit N⟩⟩), ?_⟩⟩ (Q39.fit N)
 rw [absFn_n (n0 := 0) rfl (by kernel_rfl)]
 exact (Q39.entry N _ x).trans h
def Q18.as : List MK := []
def Q18.rs : List (Bool × HT) := [(false, (.d .bool))]
def Q18.lc : List AC := []
def Q18.D (N : Nat) : DFn := ⟨Q18.as, Q18.rs, Bool, fun x => Q18 N, fun r o => r.1, fun b => (b, ()), fun b => (), none⟩
theorem Q18.fit (N : Nat) : (Q18.D N).Fit := ⟨fun _ _ => rfl, fun _ _ => rfl, by kernel_rfl, (fun _ _ h => nomatch h), by kernel_rfl⟩
noncomputable def Q18.G (N : Nat) : Gam := gamOf [(24, Q24.D N), (25, Q25.D N), (20, Q20.D N), (39, Q39.D N), (21, Q21.D N), (26, Q26.D N)]
def Q18.A : Nat → Option LoopAnn := fun _ => none
noncomputable def Q18.fin (N : Nat) : St → Option Bool := resK tb Try.f18.results.toList (decRes (Q18.D N) Q18.lc)
theorem Q18.entry (N : Nat) (rec : List Item → St → Option Bool) (x : (argH Q18.as).den) : seg tb (Q18.G N) Q18.A 0 rec (Q18.fin N) segFuel [.code (bodyOf Try.f18)] (initSt Try.f18 (encArgs Q18.as x) (encMem Q18.as x)) = Q18.e N := by kernel_rfl
theorem Q18.ok (N : Nat) : FnOk Try.prog 18 (Q18.D N) := by
 refine FnOk_of tb_ok (Checked.mixed Try.checked) ⟨Try.f18, Try.func18, by kernel_rfl, by kernel_rfl, fun x y h => ⟨Q18.G N, Q18.A, N, gamOf_ok (by simp only [List.forall_mem_cons, List.not_mem_nil, false_implies, implies_true, and_true]; exact ⟨⟨Q24.ok N, Q24.fit N⟩, ⟨Q25.ok N, Q25.fit N⟩, ⟨Q20.ok N, Q20.fit N⟩, ⟨Q39.ok N, Q39.fit N⟩, ⟨Q21.ok N, Q21.fit N⟩, ⟨Q26.ok N, Q26.fit N⟩⟩), ?_⟩⟩ (Q18.fit N)
 rw [absFn_n (n0 := 0) rfl (by kernel_rfl)]
 exact (Q18.entry N _ x).trans h
end
end Go.Proofs.Ytpielijehhhobaa.Am
