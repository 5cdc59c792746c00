/- PRINTED by gen.py: the abstract machine evaluates the loaded code to these functions. -/
import Derived.Test.YtnddjmhpofhfjaaEvt1
set_option linter.unusedVariables false
set_option linter.unusedSimpArgs false
namespace Go.Proofs.Ytnddjmhpofhfjaa.Am
open Go
noncomputable section
variable (N : Nat)
set_option maxRecDepth 100000
def Q24.as : List MK := [.r (.prod qa (.prod qd (.prod (.int .u64) (.slice 149 qf))))]
def Q24.rs : List (Bool × HT) := [(false, (.own 37 qc))]
def Q24.lc : List AC := []
def Q24.D : DFn := ⟨Q24.as, Q24.rs, LMv, fun x => Q24 N x.1, fun r o => r.1, fun b => (b, ()), fun b => (), none⟩
theorem Q24.fit : (Q24.D N).Fit := ⟨fun _ _ => rfl, fun _ _ => rfl, by kernel_rfl, (fun _ _ h => nomatch h), by kernel_rfl⟩
noncomputable def Q24.G : Gam := gamOf [(22, Q22.D N), (50, Q50.D N)]
def Q24.A : LA := fun _ => none
noncomputable def Q24.fin : St → Option LMv := resK tb Try.f24.results.toList (decRes (Q24.D N) Q24.lc)
theorem Q24.entry (rec : RK LMv) (x : (argH Q24.as).den) : seg tb (Q24.G N) Q24.A 0 rec (Q24.fin N) segFuel [.code (bodyOf Try.f24)] (initSt Try.f24 (encArgs Q24.as x) (encMem Q24.as x)) = Q24.e N x.1 := by kernel_rfl
theorem Q24.ok : FnOk Try.prog 24 (Q24.D N) := by
 refine fo ⟨Try.f24, Try.func24, by kernel_rfl, by kernel_rfl, fun x y h => ⟨Q24.G N, Q24.A, N, gamOf_ok (gc ⟨Q22.ok N, Q22.fit N⟩ (gc ⟨Q50.ok N, Q50.fit N⟩ gn)), ?_⟩⟩ (Q24.fit N)
 rw [absFn_n (n0 := 0) rfl (by kernel_rfl)]
 exact (Q24.entry N _ x).trans h
def Q73.as : List MK := [.d true qa, .d true qd, .d true qc, .d false (.int .u64)]
def Q73.rs : List (Bool × HT) := [(false, (.d (.int .u64)))]
def Q73.lc : List AC := []
def Q73.D : DFn := ⟨Q73.as, Q73.rs, Int, fun x => Q73 N x.1 x.2.1 x.2.2.1 x.2.2.2.1, fun r o => r.1, fun b => (b, ()), fun b => (), none⟩
theorem Q73.fit : (Q73.D N).Fit := ⟨fun _ _ => rfl, fun _ _ => rfl, by kernel_rfl, (fun _ _ h => nomatch h), by kernel_rfl⟩
noncomputable def Q73.G : Gam := gamOf [(68, Q68.D N), (70, Q70.D N), (69, Q69.D N), (55, Q55.D N), (56, Q56.D N)]
def Q73.A : LA := fun _ => none
noncomputable def Q73.fin : St → Option Int := resK tb Try.f73.results.toList (decRes (Q73.D N) Q73.lc)
theorem Q73.entry (rec : RK Int) (x : (argH Q73.as).den) : seg tb (Q73.G N) Q73.A 0 rec (Q73.fin N) segFuel [.code (bodyOf Try.f73)] (initSt Try.f73 (encArgs Q73.as x) (encMem Q73.as x)) = Q73.e N x.1 x.2.1 x.2.2.1 x.2.2.2.1 := by kernel_rfl
theorem Q73.ok : FnOk Try.prog 73 (Q73.D N) := by
 refine fo ⟨Try.f73, Try.func73, by kernel_rfl, by kernel_rfl, fun x y h => ⟨Q73.G N, Q73.A, N, gamOf_ok (gc ⟨Q68.ok N, Q68.fit N⟩ (gc ⟨Q70.ok N, Q70.fit N⟩ (gc ⟨Q69.ok N, Q69.fit N⟩ (gc ⟨Q55.ok N, Q55.fit N⟩ (gc ⟨Q56.ok N, Q56.fit N⟩ gn))))), ?_⟩⟩ (Q73.fit N)
 rw [absFn_n (n0 := 0) rfl (by kernel_rfl)]
 exact (Q73.entry N _ x).trans h
def Q47.as : List MK := [.o (.ptr 119 (.prod (.prod (.d .str) (.prod (.d tI) (.prod (.d tI) (.prod (.own 80 qb) (.prod (.own 3 tI) (.prod (.d .bool) (.prod (.d .bool) (.prod (.own 82 qe) (.d qc))))))))) (.prod (.prod (.own 3 tI) (.prod (.prod (.own 3 tI) (.own 3 tI)) (.d (.prod tI tI)))) (.prod (.d (.int .u64)) (.own 149 qf))))) true, .d true qc]
def Q47.rs : List (Bool × HT) := []
def Q47.lc : List AC := [.ptr 0 0]
def Q47.D : DFn := ⟨Q47.as, Q47.rs, TBoard, fun x => Q47 N x.1 x.2.1, fun r o => o.1, fun b => (), fun b => (b, ()), none⟩
theorem Q47.fit : (Q47.D N).Fit := ⟨fun _ _ => rfl, fun _ _ => rfl, by kernel_rfl, (fun _ _ h => nomatch h), by kernel_rfl⟩
noncomputable def Q47.G : Gam := gamOf [(73, Q73.D N), (55, Q55.D N), (56, Q56.D N)]
def Q47.A : LA := fun _ => none
noncomputable def Q47.fin : St → Option TBoard := resK tb Try.f47.results.toList (decRes (Q47.D N) Q47.lc)
theorem Q47.entry (rec : RK TBoard) (x : (argH Q47.as).den) : seg tb (Q47.G N) Q47.A 8 rec (Q47.fin N) segFuel [.code (bodyOf Try.f47)] (initSt Try.f47 (encArgs Q47.as x) (encMem Q47.as x)) = Q47.e N x.1 x.2.1 := by kernel_rfl
theorem Q47.ok : FnOk Try.prog 47 (Q47.D N) := by
 refine fo ⟨Try.f47, Try.func47, by kernel_rfl, by kernel_rfl, fun x y h => ⟨Q47.G N, Q47.A, N, gamOf_ok (gc ⟨Q73.ok N, Q73.fit N⟩ (gc ⟨Q55.ok N, Q55.fit N⟩ (gc ⟨Q56.ok N, Q56.fit N⟩ gn))), ?_⟩⟩ (Q47.fit N)
 rw [absFn_n (n0 := 8) rfl (by kernel_rfl)]
 exact (Q47.entry N _ x).trans h
def Q48.as : List MK := [.o (.ptr 119 (.prod (.prod (.d .str) (.prod (.d tI) (.prod (.d tI) (.prod (.own 80 qb) (.prod (.own 3 tI) (.prod (.d .bool) (.prod (.d .bool) (.prod (.own 82 qe) (.d qc))))))))) (.prod (.prod (.own 3 tI) (.prod (.prod (.own 3 tI) (.own 3 tI)) (.d (.prod tI tI)))) (.prod (.d (.int .u64)) (.own 149 qf))))) true]
def Q48.rs : List (Bool × HT) := [(false, (.d tI))]
def Q48.lc : List AC := [.ptr 0 0]
def Q48.D : DFn := ⟨Q48.as, Q48.rs, (Int × TBoard), fun x => Q48 N x.1, fun r o => (r.1, o.1), fun b => (b.1, ()), fun b => (b.2, ()), none⟩
theorem Q48.fit : (Q48.D N).Fit := ⟨fun _ _ => rfl, fun _ _ => rfl, by kernel_rfl, (fun _ _ h => nomatch h), by kernel_rfl⟩
noncomputable def Q48.G : Gam := gamOf [(55, Q55.D N)]
def Q48.A : LA := fun _ => none
noncomputable def Q48.fin : St → Option (Int × TBoard) := resK tb Try.f48.results.toList (decRes (Q48.D N) Q48.lc)
theorem Q48.entry (rec : RK (Int × TBoard)) (x : (argH Q48.as).den) : seg tb (Q48.G N) Q48.A 8 rec (Q48.fin N) segFuel [.code (bodyOf Try.f48)] (initSt Try.f48 (encArgs Q48.as x) (encMem Q48.as x)) = Q48.e N x.1 := by kernel_rfl
theorem Q48.ok : FnOk Try.prog 48 (Q48.D N) := by
 refine fo ⟨Try.f48, Try.func48, by kernel_rfl, by kernel_rfl, fun x y h => ⟨Q48.G N, Q48.A, N, gamOf_ok (gc ⟨Q55.ok N, Q55.fit N⟩ gn), ?_⟩⟩ (Q48.fit N)
 rw [absFn_n (n0 := 8) rfl (by kernel_rfl)]
 exact (Q48.entry N _ x).trans h
def Q52.as : List MK := [.o (.ptr 129 (.d tI)) true, .o (.ptr 119 (.prod (.prod (.d .str) (.prod (.d tI) (.prod (.d tI) (.prod (.own 80 qb) (.prod (.own 3 tI) (.prod (.d .bool) (.prod (.d .bool) (.prod (.own 82 qe) (.d qc))))))))) (.prod (.prod (.own 3 tI) (.prod (.prod (.own 3 tI) (.own 3 tI)) (.d (.prod tI tI)))) (.prod (.d (.int .u64)) (.own 149 qf))))) true, .d false tI]
def Q52.rs : List (Bool × HT) := [(false, (.d tI))]
def Q52.lc : List AC := [.ptr 0 0, .ptr 1 0]
def Q52.D : DFn := ⟨Q52.as, Q52.rs, (Int × Int × TBoard), fun x => Q52 N x.1 x.2.1 x.2.2.1, fun r o => (r.1, o.1, o.2.1), fun b => (b.1, ()), fun b => (b.2.1, (b.2.2, ())), none⟩
theorem Q52.fit : (Q52.D N).Fit := ⟨fun _ _ => rfl, fun _ _ => rfl, by kernel_rfl, (fun _ _ h => nomatch h), by kernel_rfl⟩
noncomputable def Q52.G : Gam := gamOf [(24, Q24.D N), (47, Q47.D N), (48, Q48.D N), (52, Q52.D N)]
def Q52.A : LA := fun k => bif Nat.beq k 0 then some ⟨[0, 1, 2, 7, 27, 28, 29], [], [], [(true, 1, 3, 10), (true, 1, 4, 11), (true, 1, 7, 12), (true, 1, 11, 13), (true, 1, 12, 14), (true, 1, 13, 15), (true, 1, 17, 16)], [], 17, false⟩ else none
noncomputable def Q52.fin : St → Option (Int × Int × TBoard) := resK tb Try.f52.results.toList (decRes (Q52.D (N + 1)) Q52.lc)
noncomputable def Q52.k0 : List Item := stackAt [.r, .r, .r, .l, .r, .b] (bodyOf Try.f52) []
def Q52.st0 (c_ : Int) (b_ : TBoard) (depth n_ t28_ t29_ c_2 : Int) (b_2 : ByteArray) (b_3 b_4 : Int) (b_5 b_6 : Bool) (b_7 b_8 b_9 b_10 b_11 b_12 : Int) (m9_ : LMv) (m10_ : (List TPiece)) (m11_ : LInt) (m12_ : (List TEnd)) (m13_ m14_ m15_ : LInt) (m16_ : (List TUndo)) : St := ⟨[.one (.ptr 0 0), .one (.ptr 1 0), oi depth] ++ rA 4 ++ [oi n_] ++ rA 19 ++ [.one (.own 9), oi t28_, oi t29_] ++ rA 22, [.var 129 [.int .i64 c_2], .var 119 [.str b_2, .int .i64 b_3, .int .i64 b_4, .own 10, .own 11, .bool b_5, .bool b_6, .own 12, .int .i64 b_7, .int .i64 b_8, .int .i64 b_9, .own 13, .own 14, .own 15, .int .i64 b_10, .int .i64 b_11, .int .u64 b_12, .own 16], .gone, .gone, .gone, .gone, .gone, .gone, .gone, .row 37 qc m9_, .row 80 qb m10_, .row 3 tI m11_, .row 82 qe m12_, .row 3 tI m13_, .row 3 tI m14_, .row 3 tI m15_, .row 149 qf m16_]⟩
theorem Q52.step0 (rec : RK (Int × Int × TBoard)) (c_ : Int) (b_ : TBoard) (depth n_ t28_ t29_ c_2 : Int) (b_2 : ByteArray) (b_3 b_4 : Int) (b_5 b_6 : Bool) (b_7 b_8 b_9 b_10 b_11 b_12 : Int) (m9_ : LMv) (m10_ : (List TPiece)) (m11_ : LInt) (m12_ : (List TEnd)) (m13_ m14_ m15_ : LInt) (m16_ : (List TUndo)) : seg tb (Q52.G N) Q52.A 9 rec (Q52.fin N) segFuel (loopBody Q52.k0) (Q52.st0 c_ b_ depth n_ t28_ t29_ c_2 b_2 b_3 b_4 b_5 b_6 b_7 b_8 b_9 b_10 b_11 b_12 m9_ m10_ m11_ m12_ m13_ m14_ m15_ m16_) = Q52.s0 N (Q52 N) c_ b_ depth (fun n_ t28_ t29_ c_2 b_2 b_3 b_4 b_5 b_6 b_7 b_8 b_9 b_10 b_11 b_12 m9_ m10_ m11_ m12_ m13_ m14_ m15_ m16_ => rec Q52.k0 (Q52.st0 c_ b_ depth n_ t28_ t29_ c_2 b_2 b_3 b_4 b_5 b_6 b_7 b_8 b_9 b_10 b_11 b_12 m9_ m10_ m11_ m12_ m13_ m14_ m15_ m16_)) n_ t28_ t29_ c_2 b_2 b_3 b_4 b_5 b_6 b_7 b_8 b_9 b_10 b_11 b_12 m9_ m10_ m11_ m12_ m13_ m14_ m15_ m16_ := by kernel_rfl
theorem Q52.entry (rec : RK (Int × Int × TBoard)) (x : (argH Q52.as).den) : seg tb (Q52.G N) Q52.A 9 rec (Q52.fin N) segFuel [.code (bodyOf Try.f52)] (initSt Try.f52 (encArgs Q52.as x) (encMem Q52.as x)) = Q52.e N (Q52 N) (fun n_ t28_ t29_ c_2 b_2 b_3 b_4 b_5 b_6 b_7 b_8 b_9 b_10 b_11 b_12 m9_ m10_ m11_ m12_ m13_ m14_ m15_ m16_ => rec Q52.k0 (Q52.st0 x.1 x.2.1 x.2.2.1 n_ t28_ t29_ c_2 b_2 b_3 b_4 b_5 b_6 b_7 b_8 b_9 b_10 b_11 b_12 m9_ m10_ m11_ m12_ m13_ m14_ m15_ m16_)) x.1 x.2.1 x.2.2.1 := by kernel_rfl
theorem Q52.runs (N : Nat) (c_ : Int) (b_ : TBoard) (depth : Int) : ∀ n, (∀ (n_ t28_ t29_ c_2 : Int) (b_2 : ByteArray) (b_3 b_4 : Int) (b_5 b_6 : Bool) (b_7 b_8 b_9 b_10 b_11 b_12 : Int) (m9_ : LMv) (m10_ : (List TPiece)) (m11_ : LInt) (m12_ : (List TEnd)) (m13_ m14_ m15_ : LInt) (m16_ : (List TUndo)), run tb (Q52.G N) Q52.A 9 (Q52.fin N) n Q52.k0 (Q52.st0 c_ b_ depth n_ t28_ t29_ c_2 b_2 b_3 b_4 b_5 b_6 b_7 b_8 b_9 b_10 b_11 b_12 m9_ m10_ m11_ m12_ m13_ m14_ m15_ m16_) = Q52.l0 N (Q52 N) c_ b_ depth n n_ t28_ t29_ c_2 b_2 b_3 b_4 b_5 b_6 b_7 b_8 b_9 b_10 b_11 b_12 m9_ m10_ m11_ m12_ m13_ m14_ m15_ m16_)
 | 0 => fun _ _ _ _ _ _ _ _ _ _ _ _ _ _ _ _ _ _ _ _ _ _ _ => rfl
 | n + 1 => by
  have h0 := Q52.runs N c_ b_ depth n
  have e0 : (fun (n_ t28_ t29_ c_2 : Int) (b_2 : ByteArray) (b_3 b_4 : Int) (b_5 b_6 : Bool) (b_7 b_8 b_9 b_10 b_11 b_12 : Int) (m9_ : LMv) (m10_ : (List TPiece)) (m11_ : LInt) (m12_ : (List TEnd)) (m13_ m14_ m15_ : LInt) (m16_ : (List TUndo)) => run tb (Q52.G N) Q52.A 9 (Q52.fin N) n Q52.k0 (Q52.st0 c_ b_ depth n_ t28_ t29_ c_2 b_2 b_3 b_4 b_5 b_6 b_7 b_8 b_9 b_10 b_11 b_12 m9_ m10_ m11_ m12_ m13_ m14_ m15_ m16_)) = Q52.l0 N (Q52 N) c_ b_ depth n := by funext n_ t28_ t29_ c_2 b_2 b_3 b_4 b_5 b_6 b_7 b_8 b_9 b_10 b_11 b_12 m9_ m10_ m11_ m12_ m13_ m14_ m15_ m16_; exact h0 n_ t28_ t29_ c_2 b_2 b_3 b_4 b_5 b_6 b_7 b_8 b_9 b_10 b_11 b_12 m9_ m10_ m11_ m12_ m13_ m14_ m15_ m16_
  have g0 : (∀ (n_ t28_ t29_ c_2 : Int) (b_2 : ByteArray) (b_3 b_4 : Int) (b_5 b_6 : Bool) (b_7 b_8 b_9 b_10 b_11 b_12 : Int) (m9_ : LMv) (m10_ : (List TPiece)) (m11_ : LInt) (m12_ : (List TEnd)) (m13_ m14_ m15_ : LInt) (m16_ : (List TUndo)), run tb (Q52.G N) Q52.A 9 (Q52.fin N) (n + 1) Q52.k0 (Q52.st0 c_ b_ depth n_ t28_ t29_ c_2 b_2 b_3 b_4 b_5 b_6 b_7 b_8 b_9 b_10 b_11 b_12 m9_ m10_ m11_ m12_ m13_ m14_ m15_ m16_) = Q52.l0 N (Q52 N) c_ b_ depth (n + 1) n_ t28_ t29_ c_2 b_2 b_3 b_4 b_5 b_6 b_7 b_8 b_9 b_10 b_11 b_12 m9_ m10_ m11_ m12_ m13_ m14_ m15_ m16_) := by
   intro n_ t28_ t29_ c_2 b_2 b_3 b_4 b_5 b_6 b_7 b_8 b_9 b_10 b_11 b_12 m9_ m10_ m11_ m12_ m13_ m14_ m15_ m16_
   exact (run_succ (by kernel_rfl)).trans ((Q52.step0 N _ c_ b_ depth n_ t28_ t29_ c_2 b_2 b_3 b_4 b_5 b_6 b_7 b_8 b_9 b_10 b_11 b_12 m9_ m10_ m11_ m12_ m13_ m14_ m15_ m16_).trans ((congrArg (fun r0 => Q52.s0 N (Q52 N) c_ b_ depth r0 n_ t28_ t29_ c_2 b_2 b_3 b_4 b_5 b_6 b_7 b_8 b_9 b_10 b_11 b_12 m9_ m10_ m11_ m12_ m13_ m14_ m15_ m16_) e0).trans (Q52.l0_s N (Q52 N) c_ b_ depth n n_ t28_ t29_ c_2 b_2 b_3 b_4 b_5 b_6 b_7 b_8 b_9 b_10 b_11 b_12 m9_ m10_ m11_ m12_ m13_ m14_ m15_ m16_).symm))
  exact g0
theorem Q52.ok1 (ih : FnOk Try.prog 52 (Q52.D N)) : FnOk Try.prog 52 (Q52.D (N + 1)) := by
 refine fo ⟨Try.f52, Try.func52, by kernel_rfl, by kernel_rfl, fun x y h => ⟨Q52.G N, Q52.A, N, gamOf_ok (by simp only [List.forall_mem_cons, List.not_mem_nil, false_implies, implies_true, and_true]; exact ⟨⟨Q24.ok N, Q24.fit N⟩, ⟨Q47.ok N, Q47.fit N⟩, ⟨Q48.ok N, Q48.fit N⟩, ⟨ih, Q52.fit N⟩⟩), ?_⟩⟩ (Q52.fit (N + 1))
 rw [absFn_n (n0 := 9) rfl (by kernel_rfl)]
 refine (Q52.entry N (run tb (Q52.G N) Q52.A 9 (Q52.fin N) N) x).trans ?_
 have e0 : (fun (n_ t28_ t29_ c_2 : Int) (b_2 : ByteArray) (b_3 b_4 : Int) (b_5 b_6 : Bool) (b_7 b_8 b_9 b_10 b_11 b_12 : Int) (m9_ : LMv) (m10_ : (List TPiece)) (m11_ : LInt) (m12_ : (List TEnd)) (m13_ m14_ m15_ : LInt) (m16_ : (List TUndo)) => run tb (Q52.G N) Q52.A 9 (Q52.fin N) N Q52.k0 (Q52.st0 x.1 x.2.1 x.2.2.1 n_ t28_ t29_ c_2 b_2 b_3 b_4 b_5 b_6 b_7 b_8 b_9 b_10 b_11 b_12 m9_ m10_ m11_ m12_ m13_ m14_ m15_ m16_)) = Q52.l0 N (Q52 N) x.1 x.2.1 x.2.2.1 N := by funext n_ t28_ t29_ c_2 b_2 b_3 b_4 b_5 b_6 b_7 b_8 b_9 b_10 b_11 b_12 m9_ m10_ m11_ m12_ m13_ m14_ m15_ m16_; exact (Q52.runs N x.1 x.2.1 x.2.2.1 N) n_ t28_ t29_ c_2 b_2 b_3 b_4 b_5 b_6 b_7 b_8 b_9 b_10 b_11 b_12 m9_ m10_ m11_ m12_ m13_ m14_ m15_ m16_
 have h' : (Q52.D (N + 1)).f x = Q52.e N (Q52 N) (Q52.l0 N (Q52 N) x.1 x.2.1 x.2.2.1 N) x.1 x.2.1 x.2.2.1 := by kernel_rfl
 exact (congrArg (fun r0 => Q52.e N (Q52 N) r0 x.1 x.2.1 x.2.2.1) e0).trans (h'.symm.trans h)
theorem Q52.ok : ∀ N, FnOk Try.prog 52 (Q52.D N)
 | 0 => FnOk_none Try.func52 (by kernel_rfl) (by kernel_rfl) (fun x => rfl)
 | N + 1 => Q52.ok1 N (Q52.ok N)
def Q25.as : List MK := [.d true qa, .d true qd, .d false tI]
def Q25.rs : List (Bool × HT) := [(false, (.d tI)), (false, (.d tI))]
def Q25.lc : List AC := []
def Q25.D : DFn := ⟨Q25.as, Q25.rs, (Int × Int), fun x => Q25 N x.1 x.2.1 x.2.2.1, fun r o => (r.1, r.2.1), fun b => (b.1, (b.2, ())), fun b => (), none⟩
theorem Q25.fit : (Q25.D N).Fit := ⟨fun _ _ => rfl, fun _ _ => rfl, by kernel_rfl, (fun _ _ h => nomatch h), by kernel_rfl⟩
noncomputable def Q25.G : Gam := gamOf [(51, Q51.D N), (52, Q52.D N)]
def Q25.A : LA := fun _ => none
noncomputable def Q25.fin : St → Option (Int × Int) := resK tb Try.f25.results.toList (decRes (Q25.D N) Q25.lc)
theorem Q25.entry (rec : RK (Int × Int)) (x : (argH Q25.as).den) : seg tb (Q25.G N) Q25.A 0 rec (Q25.fin N) segFuel [.code (bodyOf Try.f25)] (initSt Try.f25 (encArgs Q25.as x) (encMem Q25.as x)) = Q25.e N x.1 x.2.1 x.2.2.1 := by kernel_rfl
theorem Q25.ok : FnOk Try.prog 25 (Q25.D N) := by
 refine fo ⟨Try.f25, Try.func25, by kernel_rfl, by kernel_rfl, fun x y h => ⟨Q25.G N, Q25.A, N, gamOf_ok (gc ⟨Q51.ok N, Q51.fit N⟩ (gc ⟨Q52.ok N, Q52.fit N⟩ gn)), ?_⟩⟩ (Q25.fit N)
 rw [absFn_n (n0 := 0) rfl (by kernel_rfl)]
 exact (Q25.entry N _ x).trans h
def Q29.as : List MK := [.d true qa, .d true qd, .d false tI]
def Q29.rs : List (Bool × HT) := [(false, (.d tI))]
def Q29.lc : List AC := []
def Q29.D : DFn := ⟨Q29.as, Q29.rs, Int, fun x => Q29 N x.1 x.2.1 x.2.2.1, fun r o => r.1, fun b => (b, ()), fun b => (), none⟩
theorem Q29.fit : (Q29.D N).Fit := ⟨fun _ _ => rfl, fun _ _ => rfl, by kernel_rfl, (fun _ _ h => nomatch h), by kernel_rfl⟩
noncomputable def Q29.G : Gam := gamOf [(25, Q25.D N)]
def Q29.A : LA := fun _ => none
noncomputable def Q29.fin : St → Option Int := resK tb Try.f29.results.toList (decRes (Q29.D N) Q29.lc)
theorem Q29.entry (rec : RK Int) (x : (argH Q29.as).den) : seg tb (Q29.G N) Q29.A 0 rec (Q29.fin N) segFuel [.code (bodyOf Try.f29)] (initSt Try.f29 (encArgs Q29.as x) (encMem Q29.as x)) = Q29.e N x.1 x.2.1 x.2.2.1 := by kernel_rfl
theorem Q29.ok : FnOk Try.prog 29 (Q29.D N) := by
 refine fo ⟨Try.f29, Try.func29, by kernel_rfl, by kernel_rfl, fun x y h => ⟨Q29.G N, Q29.A, N, gamOf_ok (gc ⟨Q25.ok N, Q25.fit N⟩ gn), ?_⟩⟩ (Q29.fit N)
 rw [absFn_n (n0 := 0) rfl (by kernel_rfl)]
 exact (Q29.entry N _ x).trans h
def Q39.as : List MK := [.r (.prod qa (.prod qd (.prod (.int .u64) (.slice 149 qf))))]
def Q39.rs : List (Bool × HT) := [(false, (.d tI))]
def Q39.lc : List AC := []
def Q39.D : DFn := ⟨Q39.as, Q39.rs, Int, fun x => Q39 N x.1, fun r o => r.1, fun b => (b, ()), fun b => (), none⟩
theorem Q39.fit : (Q39.D N).Fit := ⟨fun _ _ => rfl, fun _ _ => rfl, by kernel_rfl, (fun _ _ h => nomatch h), by kernel_rfl⟩
noncomputable def Q39.G (N : Nat) : Gam := gamOf []
def Q39.A : LA := fun _ => none
noncomputable def Q39.fin : St → Option Int := resK tb Try.f39.results.toList (decRes (Q39.D N) Q39.lc)
theorem Q39.entry (rec : RK Int) (x : (argH Q39.as).den) : seg tb (Q39.G N) Q39.A 0 rec (Q39.fin N) segFuel [.code (bodyOf Try.f39)] (initSt Try.f39 (encArgs Q39.as x) (encMem Q39.as x)) = Q39.e N x.1 := by kernel_rfl
theorem Q39.ok : FnOk Try.prog 39 (Q39.D N) := by
 refine fo ⟨Try.f39, Try.func39, by kernel_rfl, by kernel_rfl, fun x y h => ⟨Q39.G N, Q39.A, N, gamOf_ok (fun p hp => nomatch hp), ?_⟩⟩ (Q39.fit N)
 rw [absFn_n (n0 := 0) rfl (by kernel_rfl)]
 exact (Q39.entry N _ x).trans h
def Q57.as : List MK := [.d false tI, .d false tI]
def Q57.rs : List (Bool × HT) := [(false, (.d tI))]
def Q57.lc : List AC := []
def Q57.D : DFn := ⟨Q57.as, Q57.rs, Int, fun x => Q57 N x.1 x.2.1, fun r o => r.1, fun b => (b, ()), fun b => (), none⟩
theorem Q57.fit : (Q57.D N).Fit := ⟨fun _ _ => rfl, fun _ _ => rfl, by kernel_rfl, (fun _ _ h => nomatch h), by kernel_rfl⟩
noncomputable def Q57.G : Gam := gamOf [(61, Q61.D N)]
def Q57.A : LA := fun _ => none
noncomputable def Q57.fin : St → Option Int := resK tb Try.f57.results.toList (decRes (Q57.D N) Q57.lc)
theorem Q57.entry (rec : RK Int) (x : (argH Q57.as).den) : seg tb (Q57.G N) Q57.A 0 rec (Q57.fin N) segFuel [.code (bodyOf Try.f57)] (initSt Try.f57 (encArgs Q57.as x) (encMem Q57.as x)) = Q57.e N x.1 x.2.1 := by kernel_rfl
theorem Q57.ok : FnOk Try.prog 57 (Q57.D N) := by
 refine fo ⟨Try.f57, Try.func57, by kernel_rfl, by kernel_rfl, fun x y h => ⟨Q57.G N, Q57.A, N, gamOf_ok (gc ⟨Q61.ok N, Q61.fit N⟩ gn), ?_⟩⟩ (Q57.fit N)
 rw [absFn_n (n0 := 0) rfl (by kernel_rfl)]
 exact (Q57.entry N _ x).trans h
def Q58.as : List MK := [.d false tI]
def Q58.rs : List (Bool × HT) := [(false, (.d tI))]
def Q58.lc : List AC := []
def Q58.D : DFn := ⟨Q58.as, Q58.rs, Int, fun x => Q58 N x.1, fun r o => r.1, fun b => (b, ()), fun b => (), none⟩
theorem Q58.fit : (Q58.D N).Fit := ⟨fun _ _ => rfl, fun _ _ => rfl, by kernel_rfl, (fun _ _ h => nomatch h), by kernel_rfl⟩
noncomputable def Q58.G (N : Nat) : Gam := gamOf []
def Q58.A : LA := fun _ => none
noncomputable def Q58.fin : St → Option Int := resK tb Try.f58.results.toList (decRes (Q58.D N) Q58.lc)
theorem Q58.entry (rec : RK Int) (x : (argH Q58.as).den) : seg tb (Q58.G N) Q58.A 0 rec (Q58.fin N) segFuel [.code (bodyOf Try.f58)] (initSt Try.f58 (encArgs Q58.as x) (encMem Q58.as x)) = Q58.e N x.1 := by kernel_rfl
theorem Q58.ok : FnOk Try.prog 58 (Q58.D N) := by
 refine fo ⟨Try.f58, Try.func58, by kernel_rfl, by kernel_rfl, fun x y h => ⟨Q58.G N, Q58.A, N, gamOf_ok (fun p hp => nomatch hp), ?_⟩⟩ (Q58.fit N)
 rw [absFn_n (n0 := 0) rfl (by kernel_rfl)]
 exact (Q58.entry N _ x).trans h
def Q30.as : List MK := [.o (.ptr 119 (.prod (.prod (.d .str) (.prod (.d tI) (.prod (.d tI) (.prod (.own 80 qb) (.prod (.own 3 tI) (.prod (.d .bool) (.prod (.d .bool) (.prod (.own 82 qe) (.d qc))))))))) (.prod (.prod (.own 3 tI) (.prod (.prod (.own 3 tI) (.own 3 tI)) (.d (.prod tI tI)))) (.prod (.d (.int .u64)) (.own 149 qf))))) true, .d false tI]
def Q30.rs : List (Bool × HT) := [(false, (.d tI))]
def Q30.lc : List AC := [.ptr 0 0]
def Q30.D : DFn := ⟨Q30.as, Q30.rs, (Int × TBoard), fun x => Q30 N x.1 x.2.1, fun r o => (r.1, o.1), fun b => (b.1, ()), fun b => (b.2, ()), none⟩
theorem Q30.fit : (Q30.D N).Fit := ⟨fun _ _ => rfl, fun _ _ => rfl, by kernel_rfl, (fun _ _ h => nomatch h), by kernel_rfl⟩
noncomputable def Q30.G : Gam := gamOf [(22, Q22.D N), (39, Q39.D N), (57, Q57.D N), (24, Q24.D N), (47, Q47.D N), (58, Q58.D N), (48, Q48.D N), (30, Q30.D N)]
def Q30.A : LA := fun k => bif Nat.beq k 0 then some ⟨[0, 1, 6, 20, 21, 22], [], [], [(true, 0, 3, 9), (true, 0, 4, 10), (true, 0, 7, 11), (true, 0, 11, 12), (true, 0, 12, 13), (true, 0, 13, 14), (true, 0, 17, 15)], [], 16, false⟩ else none
noncomputable def Q30.fin : St → Option (Int × TBoard) := resK tb Try.f30.results.toList (decRes (Q30.D (N + 1)) Q30.lc)
noncomputable def Q30.k0 : List Item := stackAt [.r, .r, .r, .r, .l, .r, .b] (bodyOf Try.f30) []
def Q30.st0 (b_ : TBoard) (depth best t21_ t22_ : Int) (b_2 : ByteArray) (b_3 b_4 : Int) (b_5 b_6 : Bool) (b_7 b_8 b_9 b_10 b_11 b_12 : Int) (m8_ : LMv) (m9_ : (List TPiece)) (m10_ : LInt) (m11_ : (List TEnd)) (m12_ m13_ m14_ : LInt) (m15_ : (List TUndo)) : St := ⟨[.one (.ptr 0 0), oi depth] ++ rA 4 ++ [oi best] ++ rA 13 ++ [.one (.own 8), oi t21_, oi t22_] ++ rA 18, [.var 119 [.str b_2, .int .i64 b_3, .int .i64 b_4, .own 9, .own 10, .bool b_5, .bool b_6, .own 11, .int .i64 b_7, .int .i64 b_8, .int .i64 b_9, .own 12, .own 13, .own 14, .int .i64 b_10, .int .i64 b_11, .int .u64 b_12, .own 15], .gone, .gone, .gone, .gone, .gone, .gone, .gone, .row 37 qc m8_, .row 80 qb m9_, .row 3 tI m10_, .row 82 qe m11_, .row 3 tI m12_, .row 3 tI m13_, .row 3 tI m14_, .row 149 qf m15_]⟩
theorem Q30.step0 (rec : RK (Int × TBoard)) (b_ : TBoard) (depth best t21_ t22_ : Int) (b_2 : ByteArray) (b_3 b_4 : Int) (b_5 b_6 : Bool) (b_7 b_8 b_9 b_10 b_11 b_12 : Int) (m8_ : LMv) (m9_ : (List TPiece)) (m10_ : LInt) (m11_ : (List TEnd)) (m12_ m13_ m14_ : LInt) (m15_ : (List TUndo)) : seg tb (Q30.G N) Q30.A 8 rec (Q30.fin N) segFuel (loopBody Q30.k0) (Q30.st0 b_ depth best t21_ t22_ b_2 b_3 b_4 b_5 b_6 b_7 b_8 b_9 b_10 b_11 b_12 m8_ m9_ m10_ m11_ m12_ m13_ m14_ m15_) = Q30.s0 N (Q30 N) b_ depth (fun best t21_ t22_ b_2 b_3 b_4 b_5 b_6 b_7 b_8 b_9 b_10 b_11 b_12 m8_ m9_ m10_ m11_ m12_ m13_ m14_ m15_ => rec Q30.k0 (Q30.st0 b_ depth best t21_ t22_ b_2 b_3 b_4 b_5 b_6 b_7 b_8 b_9 b_10 b_11 b_12 m8_ m9_ m10_ m11_ m12_ m13_ m14_ m15_)) best t21_ t22_ b_2 b_3 b_4 b_5 b_6 b_7 b_8 b_9 b_10 b_11 b_12 m8_ m9_ m10_ m11_ m12_ m13_ m14_ m15_ := by kernel_rfl
theorem Q30.entry (rec : RK (Int × TBoard)) (x : (argH Q30.as).den) : seg tb (Q30.G N) Q30.A 8 rec (Q30.fin N) segFuel [.code (bodyOf Try.f30)] (initSt Try.f30 (encArgs Q30.as x) (encMem Q30.as x)) = Q30.e N (Q30 N) (fun best t21_ t22_ b_2 b_3 b_4 b_5 b_6 b_7 b_8 b_9 b_10 b_11 b_12 m8_ m9_ m10_ m11_ m12_ m13_ m14_ m15_ => rec Q30.k0 (Q30.st0 x.1 x.2.1 best t21_ t22_ b_2 b_3 b_4 b_5 b_6 b_7 b_8 b_9 b_10 b_11 b_12 m8_ m9_ m10_ m11_ m12_ m13_ m14_ m15_)) x.1 x.2.1 := by kernel_rfl
theorem Q30.runs (N : Nat) (b_ : TBoard) (depth : Int) : ∀ n, (∀ (best t21_ t22_ : Int) (b_2 : ByteArray) (b_3 b_4 : Int) (b_5 b_6 : Bool) (b_7 b_8 b_9 b_10 b_11 b_12 : Int) (m8_ : LMv) (m9_ : (List TPiece)) (m10_ : LInt) (m11_ : (List TEnd)) (m12_ m13_ m14_ : LInt) (m15_ : (List TUndo)), run tb (Q30.G N) Q30.A 8 (Q30.fin N) n Q30.k0 (Q30.st0 b_ depth best t21_ t22_ b_2 b_3 b_4 b_5 b_6 b_7 b_8 b_9 b_10 b_11 b_12 m8_ m9_ m10_ m11_ m12_ m13_ m14_ m15_) = Q30.l0 N (Q30 N) b_ depth n best t21_ t22_ b_2 b_3 b_4 b_5 b_6 b_7 b_8 b_9 b_10 b_11 b_12 m8_ m9_ m10_ m11_ m12_ m13_ m14_ m15_)
 | 0 => fun _ _ _ _ _ _ _ _ _ _ _ _ _ _ _ _ _ _ _ _ _ _ => rfl
 | n + 1 => by
  have h0 := Q30.runs N b_ depth n
  have e0 : (fun (best t21_ t22_ : Int) (b_2 : ByteArray) (b_3 b_4 : Int) (b_5 b_6 : Bool) (b_7 b_8 b_9 b_10 b_11 b_12 : Int) (m8_ : LMv) (m9_ : (List TPiece)) (m10_ : LInt) (m11_ : (List TEnd)) (m12_ m13_ m14_ : LInt) (m15_ : (List TUndo)) => run tb (Q30.G N) Q30.A 8 (Q30.fin N) n Q30.k0 (Q30.st0 b_ depth best t21_ t22_ b_2 b_3 b_4 b_5 b_6 b_7 b_8 b_9 b_10 b_11 b_12 m8_ m9_ m10_ m11_ m12_ m13_ m14_ m15_)) = Q30.l0 N (Q30 N) b_ depth n := by funext best t21_ t22_ b_2 b_3 b_4 b_5 b_6 b_7 b_8 b_9 b_10 b_11 b_12 m8_ m9_ m10_ m11_ m12_ m13_ m14_ m15_; exact h0 best t21_ t22_ b_2 b_3 b_4 b_5 b_6 b_7 b_8 b_9 b_10 b_11 b_12 m8_ m9_ m10_ m11_ m12_ m13_ m14_ m15_
  have g0 : (∀ (best t21_ t22_ : Int) (b_2 : ByteArray) (b_3 b_4 : Int) (b_5 b_6 : Bool) (b_7 b_8 b_9 b_10 b_11 b_12 : Int) (m8_ : LMv) (m9_ : (List TPiece)) (m10_ : LInt) (m11_ : (List TEnd)) (m12_ m13_ m14_ : LInt) (m15_ : (List TUndo)), run tb (Q30.G N) Q30.A 8 (Q30.fin N) (n + 1) Q30.k0 (Q30.st0 b_ depth best t21_ t22_ b_2 b_3 b_4 b_5 b_6 b_7 b_8 b_9 b_10 b_11 b_12 m8_ m9_ m10_ m11_ m12_ m13_ m14_ m15_) = Q30.l0 N (Q30 N) b_ depth (n + 1) best t21_ t22_ b_2 b_3 b_4 b_5 b_6 b_7 b_8 b_9 b_10 b_11 b_12 m8_ m9_ m10_ m11_ m12_ m13_ m14_ m15_) := by
   intro best t21_ t22_ b_2 b_3 b_4 b_5 b_6 b_7 b_8 b_9 b_10 b_11 b_12 m8_ m9_ m10_ m11_ m12_ m13_ m14_ m15_
   exact (run_succ (by kernel_rfl)).trans ((Q30.step0 N _ b_ depth best t21_ t22_ b_2 b_3 b_4 b_5 b_6 b_7 b_8 b_9 b_10 b_11 b_12 m8_ m9_ m10_ m11_ m12_ m13_ m14_ m15_).trans ((congrArg (fun r0 => Q30.s0 N (Q30 N) b_ depth r0 best t21_ t22_ b_2 b_3 b_4 b_5 b_6 b_7 b_8 b_9 b_10 b_11 b_12 m8_ m9_ m10_ m11_ m12_ m13_ m14_ m15_) e0).trans (Q30.l0_s N (Q30 N) b_ depth n best t21_ t22_ b_2 b_3 b_4 b_5 b_6 b_7 b_8 b_9 b_10 b_11 b_12 m8_ m9_ m10_ m11_ m12_ m13_ m14_ m15_).symm))
  exact g0
theorem Q30.ok1 (ih : FnOk Try.prog 30 (Q30.D N)) : FnOk Try.prog 30 (Q30.D (N + 1)) := by
 refine fo ⟨Try.f30, Try.func30, by kernel_rfl, by kernel_rfl, fun x y h => ⟨Q30.G N, Q30.A, N, gamOf_ok (by simp only [List.forall_mem_cons, List.not_mem_nil, false_implies, implies_true, and_true]; exact ⟨⟨Q22.ok N, Q22.fit N⟩, ⟨Q39.ok N, Q39.fit N⟩, ⟨Q57.ok N, Q57.fit N⟩, ⟨Q24.ok N, Q24.fit N⟩, ⟨Q47.ok N, Q47.fit N⟩, ⟨Q58.ok N, Q58.fit N⟩, ⟨Q48.ok N, Q48.fit N⟩, ⟨ih, Q30.fit N⟩⟩), ?_⟩⟩ (Q30.fit (N + 1))
 rw [absFn_n (n0 := 8) rfl (by kernel_rfl)]
 refine (Q30.entry N (run tb (Q30.G N) Q30.A 8 (Q30.fin N) N) x).trans ?_
 have e0 : (fun (best t21_ t22_ : Int) (b_2 : ByteArray) (b_3 b_4 : Int) (b_5 b_6 : Bool) (b_7 b_8 b_9 b_10 b_11 b_12 : Int) (m8_ : LMv) (m9_ : (List TPiece)) (m10_ : LInt) (m11_ : (List TEnd)) (m12_ m13_ m14_ : LInt) (m15_ : (List TUndo)) => run tb (Q30.G N) Q30.A 8 (Q30.fin N) N Q30.k0 (Q30.st0 x.1 x.2.1 best t21_ t22_ b_2 b_3 b_4 b_5 b_6 b_7 b_8 b_9 b_10 b_11 b_12 m8_ m9_ m10_ m11_ m12_ m13_ m14_ m15_)) = Q30.l0 N (Q30 N) x.1 x.2.1 N := by funext best t21_ t22_ b_2 b_3 b_4 b_5 b_6 b_7 b_8 b_9 b_10 b_11 b_12 m8_ m9_ m10_ m11_ m12_ m13_ m14_ m15_; exact (Q30.runs N x.1 x.2.1 N) best t21_ t22_ b_2 b_3 b_4 b_5 b_6 b_7 b_8 b_9 b_10 b_11 b_12 m8_ m9_ m10_ m11_ m12_ m13_ m14_ m15_
 have h' : (Q30.D (N + 1)).f x = Q30.e N (Q30 N) (Q30.l0 N (Q30 N) x.1 x.2.1 N) x.1 x.2.1 := by kernel_rfl
 exact (congrArg (fun r0 => Q30.e N (Q30 N) r0 x.1 x.2.1) e0).trans (h'.symm.trans h)
theorem Q30.ok : ∀ N, FnOk Try.prog 30 (Q30.D N)
 | 0 => FnOk_none Try.func30 (by kernel_rfl) (by kernel_rfl) (fun x => rfl)
 | N + 1 => Q30.ok1 N (Q30.ok N)
def Q13.as : List MK := [.d true qa, .d true qd, .d false tI]
def Q13.rs : List (Bool × HT) := [(false, (.d tI)), (false, (.d tI))]
def Q13.lc : List AC := []
def Q13.D : DFn := ⟨Q13.as, Q13.rs, (Int × Int), fun x => Q13 N x.1 x.2.1 x.2.2.1, fun r o => (r.1, r.2.1), fun b => (b.1, (b.2, ())), fun b => (), none⟩
theorem Q13.fit : (Q13.D N).Fit := ⟨fun _ _ => rfl, fun _ _ => rfl, by kernel_rfl, (fun _ _ h => nomatch h), by kernel_rfl⟩
noncomputable def Q13.G : Gam := gamOf [(29, Q29.D N), (20, Q20.D N), (30, Q30.D N)]
def Q13.A : LA := fun _ => none
noncomputable def Q13.fin : St → Option (Int × Int) := resK tb Try.f13.results.toList (decRes (Q13.D N) Q13.lc)
theorem Q13.entry (rec : RK (Int × Int)) (x : (argH Q13.as).den) : seg tb (Q13.G N) Q13.A 0 rec (Q13.fin N) segFuel [.code (bodyOf Try.f13)] (initSt Try.f13 (encArgs Q13.as x) (encMem Q13.as x)) = Q13.e N x.1 x.2.1 x.2.2.1 := by kernel_rfl
theorem Q13.ok : FnOk Try.prog 13 (Q13.D N) := by
 refine fo ⟨Try.f13, Try.func13, by kernel_rfl, by kernel_rfl, fun x y h => ⟨Q13.G N, Q13.A, N, gamOf_ok (gc ⟨Q29.ok N, Q29.fit N⟩ (gc ⟨Q20.ok N, Q20.fit N⟩ (gc ⟨Q30.ok N, Q30.fit N⟩ gn))), ?_⟩⟩ (Q13.fit N)
 rw [absFn_n (n0 := 0) rfl (by kernel_rfl)]
 exact (Q13.entry N _ x).trans h
def Q83.as : List MK := [.o (.ptr 119 (.prod (.prod (.d .str) (.prod (.d tI) (.prod (.d tI) (.prod (.own 80 qb) (.prod (.own 3 tI) (.prod (.d .bool) (.prod (.d .bool) (.prod (.own 82 qe) (.d qc))))))))) (.prod (.prod (.own 3 tI) (.prod (.prod (.own 3 tI) (.own 3 tI)) (.d (.prod tI tI)))) (.prod (.d (.int .u64)) (.own 149 qf))))) true, .d false tI]
def Q83.rs : List (Bool × HT) := [(true, (.d qc)), (false, (.d tI))]
def Q83.lc : List AC := [.ptr 0 0]
def Q83.D : DFn := ⟨Q83.as, Q83.rs, (TMv × Int × TBoard), fun x => Q83 N x.1 x.2.1, fun r o => (r.1, r.2.1, o.1), fun b => (b.1, (b.2.1, ())), fun b => (b.2.2, ()), none⟩
theorem Q83.fit : (Q83.D N).Fit := ⟨fun _ _ => rfl, fun _ _ => rfl, by kernel_rfl, (fun _ _ h => nomatch h), by kernel_rfl⟩
noncomputable def Q83.G : Gam := gamOf [(24, Q24.D N), (47, Q47.D N), (30, Q30.D N), (58, Q58.D N), (48, Q48.D N)]
def Q83.A : LA := fun k => bif Nat.beq k 0 then some ⟨[0, 1, 4, 6, 7, 12, 13, 14], [], [], [(true, 0, 3, 11), (true, 0, 4, 12), (true, 0, 7, 13), (true, 0, 11, 14), (true, 0, 12, 15), (true, 0, 13, 16), (true, 0, 17, 17)], [], 18, false⟩ else none
noncomputable def Q83.fin : St → Option (TMv × Int × TBoard) := resK tb Try.f83.results.toList (decRes (Q83.D N) Q83.lc)
noncomputable def Q83.k0 : List Item := stackAt [.r, .r, .r, .l, .r, .b] (bodyOf Try.f83) []
def Q83.st0 (b_ : TBoard) (depth most t13_ t14_ : Int) (b_2 : ByteArray) (b_3 b_4 : Int) (b_5 b_6 : Bool) (b_7 b_8 b_9 b_10 b_11 b_12 out out2 out3 : Int) (m10_ : LMv) (m11_ : (List TPiece)) (m12_ : LInt) (m13_ : (List TEnd)) (m14_ m15_ m16_ : LInt) (m17_ : (List TUndo)) : St := ⟨[.one (.ptr 0 0), oi depth, oA, oA, .one (.ptr 8 0), oA, .one (.ptr 9 0), oi most] ++ rA 4 ++ [.one (.own 10), oi t13_, oi t14_] ++ rA 22, [.var 119 [.str b_2, .int .i64 b_3, .int .i64 b_4, .own 11, .own 12, .bool b_5, .bool b_6, .own 13, .int .i64 b_7, .int .i64 b_8, .int .i64 b_9, .own 14, .own 15, .own 16, .int .i64 b_10, .int .i64 b_11, .int .u64 b_12, .own 17], .gone, .gone, .gone, .gone, .gone, .gone, .gone, .var 37 [.int .i64 0, .int .i64 0, .int .i64 0], .var 37 [.int .i64 out, .int .i64 out2, .int .i64 out3], .row 37 qc m10_, .row 80 qb m11_, .row 3 tI m12_, .row 82 qe m13_, .row 3 tI m14_, .row 3 tI m15_, .row 3 tI m16_, .row 149 qf m17_]⟩
theorem Q83.step0 (rec : RK (TMv × Int × TBoard)) (b_ : TBoard) (depth most t13_ t14_ : Int) (b_2 : ByteArray) (b_3 b_4 : Int) (b_5 b_6 : Bool) (b_7 b_8 b_9 b_10 b_11 b_12 out out2 out3 : Int) (m10_ : LMv) (m11_ : (List TPiece)) (m12_ : LInt) (m13_ : (List TEnd)) (m14_ m15_ m16_ : LInt) (m17_ : (List TUndo)) : seg tb (Q83.G N) Q83.A 8 rec (Q83.fin N) segFuel (loopBody Q83.k0) (Q83.st0 b_ depth most t13_ t14_ b_2 b_3 b_4 b_5 b_6 b_7 b_8 b_9 b_10 b_11 b_12 out out2 out3 m10_ m11_ m12_ m13_ m14_ m15_ m16_ m17_) = Q83.s0 N b_ depth (fun most t13_ t14_ b_2 b_3 b_4 b_5 b_6 b_7 b_8 b_9 b_10 b_11 b_12 out out2 out3 m10_ m11_ m12_ m13_ m14_ m15_ m16_ m17_ => rec Q83.k0 (Q83.st0 b_ depth most t13_ t14_ b_2 b_3 b_4 b_5 b_6 b_7 b_8 b_9 b_10 b_11 b_12 out out2 out3 m10_ m11_ m12_ m13_ m14_ m15_ m16_ m17_)) most t13_ t14_ b_2 b_3 b_4 b_5 b_6 b_7 b_8 b_9 b_10 b_11 b_12 out out2 out3 m10_ m11_ m12_ m13_ m14_ m15_ m16_ m17_ := by kernel_rfl
theorem Q83.entry (rec : RK (TMv × Int × TBoard)) (x : (argH Q83.as).den) : seg tb (Q83.G N) Q83.A 8 rec (Q83.fin N) segFuel [.code (bodyOf Try.f83)] (initSt Try.f83 (encArgs Q83.as x) (encMem Q83.as x)) = Q83.e N (fun most t13_ t14_ b_2 b_3 b_4 b_5 b_6 b_7 b_8 b_9 b_10 b_11 b_12 out out2 out3 m10_ m11_ m12_ m13_ m14_ m15_ m16_ m17_ => rec Q83.k0 (Q83.st0 x.1 x.2.1 most t13_ t14_ b_2 b_3 b_4 b_5 b_6 b_7 b_8 b_9 b_10 b_11 b_12 out out2 out3 m10_ m11_ m12_ m13_ m14_ m15_ m16_ m17_)) x.1 x.2.1 := by kernel_rfl
theorem Q83.runs (N : Nat) (b_ : TBoard) (depth : Int) : ∀ n, (∀ (most t13_ t14_ : Int) (b_2 : ByteArray) (b_3 b_4 : Int) (b_5 b_6 : Bool) (b_7 b_8 b_9 b_10 b_11 b_12 out out2 out3 : Int) (m10_ : LMv) (m11_ : (List TPiece)) (m12_ : LInt) (m13_ : (List TEnd)) (m14_ m15_ m16_ : LInt) (m17_ : (List TUndo)), run tb (Q83.G N) Q83.A 8 (Q83.fin N) n Q83.k0 (Q83.st0 b_ depth most t13_ t14_ b_2 b_3 b_4 b_5 b_6 b_7 b_8 b_9 b_10 b_11 b_12 out out2 out3 m10_ m11_ m12_ m13_ m14_ m15_ m16_ m17_) = Q83.l0 N b_ depth n most t13_ t14_ b_2 b_3 b_4 b_5 b_6 b_7 b_8 b_9 b_10 b_11 b_12 out out2 out3 m10_ m11_ m12_ m13_ m14_ m15_ m16_ m17_)
 | 0 => fun _ _ _ _ _ _ _ _ _ _ _ _ _ _ _ _ _ _ _ _ _ _ _ _ _ => rfl
 | n + 1 => by
  have h0 := Q83.runs N b_ depth n
  have e0 : (fun (most t13_ t14_ : Int) (b_2 : ByteArray) (b_3 b_4 : Int) (b_5 b_6 : Bool) (b_7 b_8 b_9 b_10 b_11 b_12 out out2 out3 : Int) (m10_ : LMv) (m11_ : (List TPiece)) (m12_ : LInt) (m13_ : (List TEnd)) (m14_ m15_ m16_ : LInt) (m17_ : (List TUndo)) => run tb (Q83.G N) Q83.A 8 (Q83.fin N) n Q83.k0 (Q83.st0 b_ depth most t13_ t14_ b_2 b_3 b_4 b_5 b_6 b_7 b_8 b_9 b_10 b_11 b_12 out out2 out3 m10_ m11_ m12_ m13_ m14_ m15_ m16_ m17_)) = Q83.l0 N b_ depth n := by funext most t13_ t14_ b_2 b_3 b_4 b_5 b_6 b_7 b_8 b_9 b_10 b_11 b_12 out out2 out3 m10_ m11_ m12_ m13_ m14_ m15_ m16_ m17_; exact h0 most t13_ t14_ b_2 b_3 b_4 b_5 b_6 b_7 b_8 b_9 b_10 b_11 b_12 out out2 out3 m10_ m11_ m12_ m13_ m14_ m15_ m16_ m17_
  have g0 : (∀ (most t13_ t14_ : Int) (b_2 : ByteArray) (b_3 b_4 : Int) (b_5 b_6 : Bool) (b_7 b_8 b_9 b_10 b_11 b_12 out out2 out3 : Int) (m10_ : LMv) (m11_ : (List TPiece)) (m12_ : LInt) (m13_ : (List TEnd)) (m14_ m15_ m16_ : LInt) (m17_ : (List TUndo)), run tb (Q83.G N) Q83.A 8 (Q83.fin N) (n + 1) Q83.k0 (Q83.st0 b_ depth most t13_ t14_ b_2 b_3 b_4 b_5 b_6 b_7 b_8 b_9 b_10 b_11 b_12 out out2 out3 m10_ m11_ m12_ m13_ m14_ m15_ m16_ m17_) = Q83.l0 N b_ depth (n + 1) most t13_ t14_ b_2 b_3 b_4 b_5 b_6 b_7 b_8 b_9 b_10 b_11 b_12 out out2 out3 m10_ m11_ m12_ m13_ m14_ m15_ m16_ m17_) := by
   intro most t13_ t14_ b_2 b_3 b_4 b_5 b_6 b_7 b_8 b_9 b_10 b_11 b_12 out out2 out3 m10_ m11_ m12_ m13_ m14_ m15_ m16_ m17_
   exact (run_succ (by kernel_rfl)).trans ((Q83.step0 N _ b_ depth most t13_ t14_ b_2 b_3 b_4 b_5 b_6 b_7 b_8 b_9 b_10 b_11 b_12 out out2 out3 m10_ m11_ m12_ m13_ m14_ m15_ m16_ m17_).trans ((congrArg (fun r0 => Q83.s0 N b_ depth r0 most t13_ t14_ b_2 b_3 b_4 b_5 b_6 b_7 b_8 b_9 b_10 b_11 b_12 out out2 out3 m10_ m11_ m12_ m13_ m14_ m15_ m16_ m17_) e0).trans (Q83.l0_s N b_ depth n most t13_ t14_ b_2 b_3 b_4 b_5 b_6 b_7 b_8 b_9 b_10 b_11 b_12 out out2 out3 m10_ m11_ m12_ m13_ m14_ m15_ m16_ m17_).symm))
  exact g0
theorem Q83.ok : FnOk Try.prog 83 (Q83.D N) := by
 refine fo ⟨Try.f83, Try.func83, by kernel_rfl, by kernel_rfl, fun x y h => ⟨Q83.G N, Q83.A, N, gamOf_ok (gc ⟨Q24.ok N, Q24.fit N⟩ (gc ⟨Q47.ok N, Q47.fit N⟩ (gc ⟨Q30.ok N, Q30.fit N⟩ (gc ⟨Q58.ok N, Q58.fit N⟩ (gc ⟨Q48.ok N, Q48.fit N⟩ gn))))), ?_⟩⟩ (Q83.fit N)
 rw [absFn_n (n0 := 8) rfl (by kernel_rfl)]
 refine (Q83.entry N (run tb (Q83.G N) Q83.A 8 (Q83.fin N) N) x).trans ?_
 have e0 : (fun (most t13_ t14_ : Int) (b_2 : ByteArray) (b_3 b_4 : Int) (b_5 b_6 : Bool) (b_7 b_8 b_9 b_10 b_11 b_12 out out2 out3 : Int) (m10_ : LMv) (m11_ : (List TPiece)) (m12_ : LInt) (m13_ : (List TEnd)) (m14_ m15_ m16_ : LInt) (m17_ : (List TUndo)) => run tb (Q83.G N) Q83.A 8 (Q83.fin N) N Q83.k0 (Q83.st0 x.1 x.2.1 most t13_ t14_ b_2 b_3 b_4 b_5 b_6 b_7 b_8 b_9 b_10 b_11 b_12 out out2 out3 m10_ m11_ m12_ m13_ m14_ m15_ m16_ m17_)) = Q83.l0 N x.1 x.2.1 N := by funext most t13_ t14_ b_2 b_3 b_4 b_5 b_6 b_7 b_8 b_9 b_10 b_11 b_12 out out2 out3 m10_ m11_ m12_ m13_ m14_ m15_ m16_ m17_; exact (Q83.runs N x.1 x.2.1 N) most t13_ t14_ b_2 b_3 b_4 b_5 b_6 b_7 b_8 b_9 b_10 b_11 b_12 out out2 out3 m10_ m11_ m12_ m13_ m14_ m15_ m16_ m17_
 have h' : (Q83.D N).f x = Q83.e N (Q83.l0 N x.1 x.2.1 N) x.1 x.2.1 := by kernel_rfl
 exact (congrArg (fun r0 => Q83.e N r0 x.1 x.2.1) e0).trans (h'.symm.trans h)
def Q62.as : List MK := [.d true qa, .d true qd, .d false tI]
def Q62.rs : List (Bool × HT) := [(true, (.d qc)), (false, (.d tI)), (false, (.d tI))]
def Q62.lc : List AC := []
def Q62.D : DFn := ⟨Q62.as, Q62.rs, (TMv × Int × Int), fun x => Q62 N x.1 x.2.1 x.2.2.1, fun r o => (r.1, r.2.1, r.2.2.1), fun b => (b.1, (b.2.1, (b.2.2, ()))), fun b => (), none⟩
theorem Q62.fit : (Q62.D N).Fit := ⟨fun _ _ => rfl, fun _ _ => rfl, by kernel_rfl, (fun _ _ h => nomatch h), by kernel_rfl⟩
noncomputable def Q62.G : Gam := gamOf [(29, Q29.D N), (20, Q20.D N), (22, Q22.D N), (83, Q83.D N)]
def Q62.A : LA := fun _ => none
noncomputable def Q62.fin : St → Option (TMv × Int × Int) := resK tb Try.f62.results.toList (decRes (Q62.D N) Q62.lc)
theorem Q62.entry (rec : RK (TMv × Int × Int)) (x : (argH Q62.as).den) : seg tb (Q62.G N) Q62.A 0 rec (Q62.fin N) segFuel [.code (bodyOf Try.f62)] (initSt Try.f62 (encArgs Q62.as x) (encMem Q62.as x)) = Q62.e N x.1 x.2.1 x.2.2.1 := by kernel_rfl
theorem Q62.ok : FnOk Try.prog 62 (Q62.D N) := by
 refine fo ⟨Try.f62, Try.func62, by kernel_rfl, by kernel_rfl, fun x y h => ⟨Q62.G N, Q62.A, N, gamOf_ok (gc ⟨Q29.ok N, Q29.fit N⟩ (gc ⟨Q20.ok N, Q20.fit N⟩ (gc ⟨Q22.ok N, Q22.fit N⟩ (gc ⟨Q83.ok N, Q83.fit N⟩ gn)))), ?_⟩⟩ (Q62.fit N)
 rw [absFn_n (n0 := 0) rfl (by kernel_rfl)]
 exact (Q62.entry N _ x).trans h
def Q28.as : List MK := [.d true qa, .d true qd, .d true qc]
def Q28.rs : List (Bool × HT) := [(true, (.prod (.own 3 tI) (.prod (.prod (.own 3 tI) (.own 3 tI)) (.d (.prod tI tI)))))]
def Q28.lc : List AC := []
def Q28.D : DFn := ⟨Q28.as, Q28.rs, TPos, fun x => Q28 N x.1 x.2.1 x.2.2.1, fun r o => r.1, fun b => (b, ()), fun b => (), none⟩
theorem Q28.fit : (Q28.D N).Fit := ⟨fun _ _ => rfl, fun _ _ => rfl, by kernel_rfl, (fun _ _ h => nomatch h), by kernel_rfl⟩
noncomputable def Q28.G : Gam := gamOf [(43, Q43.D N), (55, Q55.D N), (56, Q56.D N)]
def Q28.A : LA := fun _ => none
noncomputable def Q28.fin : St → Option TPos := resK tb Try.f28.results.toList (decRes (Q28.D N) Q28.lc)
theorem Q28.entry (rec : RK TPos) (x : (argH Q28.as).den) : seg tb (Q28.G N) Q28.A 0 rec (Q28.fin N) segFuel [.code (bodyOf Try.f28)] (initSt Try.f28 (encArgs Q28.as x) (encMem Q28.as x)) = Q28.e N x.1 x.2.1 x.2.2.1 := by kernel_rfl
theorem Q28.ok : FnOk Try.prog 28 (Q28.D N) := by
 refine fo ⟨Try.f28, Try.func28, by kernel_rfl, by kernel_rfl, fun x y h => ⟨Q28.G N, Q28.A, N, gamOf_ok (gc ⟨Q43.ok N, Q43.fit N⟩ (gc ⟨Q55.ok N, Q55.fit N⟩ (gc ⟨Q56.ok N, Q56.fit N⟩ gn))), ?_⟩⟩ (Q28.fit N)
 rw [absFn_n (n0 := 0) rfl (by kernel_rfl)]
 exact (Q28.entry N _ x).trans h
def Q35.as : List MK := [.o (.ptr 96 (.prod (.d qa) (.prod (.own 138 (.prod qc (.slice 3 tI))) (.d .bool)))) true, .d true qd, .d false tI]
def Q35.rs : List (Bool × HT) := [(false, (.d tI))]
def Q35.lc : List AC := [.ptr 0 0]
def Q35.D : DFn := ⟨Q35.as, Q35.rs, (Int × (TRules × ((List (TMv × LInt)) × Bool))), fun x => Q35 N x.1 x.2.1 x.2.2.1, fun r o => (r.1, o.1), fun b => (b.1, ()), fun b => (b.2, ()), none⟩
theorem Q35.fit : (Q35.D N).Fit := ⟨fun _ _ => rfl, fun _ _ => rfl, by kernel_rfl, (fun _ _ h => nomatch h), by kernel_rfl⟩
noncomputable def Q35.G : Gam := gamOf [(62, Q62.D N), (28, Q28.D N), (34, Q34.D N), (50, Q50.D N), (35, Q35.D N)]
def Q35.A : LA := fun k => bif Nat.beq k 0 then some ⟨[0, 2, 7, 11, 12, 72, 73, 74], [(12, 3)], [], [(false, 12, 0, 11), (true, 0, 11, 5)], [2, 3, 4], 12, false⟩ else none
noncomputable def Q35.fin : St → Option (Int × (TRules × ((List (TMv × LInt)) × Bool))) := resK tb Try.f35.results.toList (decRes (Q35.D (N + 1)) Q35.lc)
noncomputable def Q35.k0 : List Item := stackAt [.r, .r, .r, .r, .r, .r, .r, .r, .r, .l, .r, .b] (bodyOf Try.f35) []
def Q35.st0 (x_ : (TRules × ((List (TMv × LInt)) × Bool))) (p_ : TPos) (depth t73_ t74_ : Int) (x_2 : ByteArray) (x_3 x_4 : Int) (x_5 : (List TPiece)) (x_6 : LInt) (x_7 x_8 : Bool) (x_9 : (List TEnd)) (x_10 x_11 x_12 : Int) (x_13 : Bool) (m5_ : (List (TMv × LInt))) (m6_ m7_ m8_ : LInt) (q_ q_2 : Int) (m10_ : LMv) (replies : LInt) : St := ⟨[.one (.ptr 0 0), oA, oi depth] ++ rA 4 ++ [oi (x_.2.1.length : Int)] ++ rA 3 ++ [.one (.ptr 9 0), .one (.own 11)] ++ rA 59 ++ [.one (.own 10), oi t73_, oi t74_] ++ rA 38, [.var 96 [.str x_2, .int .i64 x_3, .int .i64 x_4, .fro 80 qb x_5, .fro 3 tI x_6, .bool x_7, .bool x_8, .fro 82 qe x_9, .int .i64 x_10, .int .i64 x_11, .int .i64 x_12, .own 5, .bool x_13], .gone, .gone, .gone, .gone, .row 138 (.prod qc (.slice 3 tI)) m5_, .row 3 tI m6_, .row 3 tI m7_, .row 3 tI m8_, .var 29 [.own 6, .own 7, .own 8, .int .i64 q_, .int .i64 q_2], .row 37 qc m10_, .row 3 tI replies]⟩
theorem Q35.step0 (rec : RK (Int × (TRules × ((List (TMv × LInt)) × Bool)))) (x_ : (TRules × ((List (TMv × LInt)) × Bool))) (p_ : TPos) (depth t73_ t74_ : Int) (x_2 : ByteArray) (x_3 x_4 : Int) (x_5 : (List TPiece)) (x_6 : LInt) (x_7 x_8 : Bool) (x_9 : (List TEnd)) (x_10 x_11 x_12 : Int) (x_13 : Bool) (m5_ : (List (TMv × LInt))) (m6_ m7_ m8_ : LInt) (q_ q_2 : Int) (m10_ : LMv) (replies : LInt) : seg tb (Q35.G N) Q35.A 2 rec (Q35.fin N) segFuel (loopBody Q35.k0) (Q35.st0 x_ p_ depth t73_ t74_ x_2 x_3 x_4 x_5 x_6 x_7 x_8 x_9 x_10 x_11 x_12 x_13 m5_ m6_ m7_ m8_ q_ q_2 m10_ replies) = Q35.s0 N (Q35 N) x_ p_ depth (fun t73_ t74_ x_2 x_3 x_4 x_5 x_6 x_7 x_8 x_9 x_10 x_11 x_12 x_13 m5_ m6_ m7_ m8_ q_ q_2 m10_ replies => rec Q35.k0 (Q35.st0 x_ p_ depth t73_ t74_ x_2 x_3 x_4 x_5 x_6 x_7 x_8 x_9 x_10 x_11 x_12 x_13 m5_ m6_ m7_ m8_ q_ q_2 m10_ replies)) t73_ t74_ x_2 x_3 x_4 x_5 x_6 x_7 x_8 x_9 x_10 x_11 x_12 x_13 m5_ m6_ m7_ m8_ q_ q_2 m10_ replies := by kernel_rfl
theorem Q35.entry (rec : RK (Int × (TRules × ((List (TMv × LInt)) × Bool)))) (x : (argH Q35.as).den) : seg tb (Q35.G N) Q35.A 2 rec (Q35.fin N) segFuel [.code (bodyOf Try.f35)] (initSt Try.f35 (encArgs Q35.as x) (encMem Q35.as x)) = Q35.e N (Q35 N) (fun t73_ t74_ x_2 x_3 x_4 x_5 x_6 x_7 x_8 x_9 x_10 x_11 x_12 x_13 m5_ m6_ m7_ m8_ q_ q_2 m10_ replies => rec Q35.k0 (Q35.st0 x.1 x.2.1 x.2.2.1 t73_ t74_ x_2 x_3 x_4 x_5 x_6 x_7 x_8 x_9 x_10 x_11 x_12 x_13 m5_ m6_ m7_ m8_ q_ q_2 m10_ replies)) x.1 x.2.1 x.2.2.1 := by kernel_rfl
theorem Q35.runs (N : Nat) (x_ : (TRules × ((List (TMv × LInt)) × Bool))) (p_ : TPos) (depth : Int) : ∀ n, (∀ (t73_ t74_ : Int) (x_2 : ByteArray) (x_3 x_4 : Int) (x_5 : (List TPiece)) (x_6 : LInt) (x_7 x_8 : Bool) (x_9 : (List TEnd)) (x_10 x_11 x_12 : Int) (x_13 : Bool) (m5_ : (List (TMv × LInt))) (m6_ m7_ m8_ : LInt) (q_ q_2 : Int) (m10_ : LMv) (replies : LInt), run tb (Q35.G N) Q35.A 2 (Q35.fin N) n Q35.k0 (Q35.st0 x_ p_ depth t73_ t74_ x_2 x_3 x_4 x_5 x_6 x_7 x_8 x_9 x_10 x_11 x_12 x_13 m5_ m6_ m7_ m8_ q_ q_2 m10_ replies) = Q35.l0 N (Q35 N) x_ p_ depth n t73_ t74_ x_2 x_3 x_4 x_5 x_6 x_7 x_8 x_9 x_10 x_11 x_12 x_13 m5_ m6_ m7_ m8_ q_ q_2 m10_ replies)
 | 0 => fun _ _ _ _ _ _ _ _ _ _ _ _ _ _ _ _ _ _ _ _ _ _ => rfl
 | n + 1 => by
  have h0 := Q35.runs N x_ p_ depth n
  have e0 : (fun (t73_ t74_ : Int) (x_2 : ByteArray) (x_3 x_4 : Int) (x_5 : (List TPiece)) (x_6 : LInt) (x_7 x_8 : Bool) (x_9 : (List TEnd)) (x_10 x_11 x_12 : Int) (x_13 : Bool) (m5_ : (List (TMv × LInt))) (m6_ m7_ m8_ : LInt) (q_ q_2 : Int) (m10_ : LMv) (replies : LInt) => run tb (Q35.G N) Q35.A 2 (Q35.fin N) n Q35.k0 (Q35.st0 x_ p_ depth t73_ t74_ x_2 x_3 x_4 x_5 x_6 x_7 x_8 x_9 x_10 x_11 x_12 x_13 m5_ m6_ m7_ m8_ q_ q_2 m10_ replies)) = Q35.l0 N (Q35 N) x_ p_ depth n := by funext t73_ t74_ x_2 x_3 x_4 x_5 x_6 x_7 x_8 x_9 x_10 x_11 x_12 x_13 m5_ m6_ m7_ m8_ q_ q_2 m10_ replies; exact h0 t73_ t74_ x_2 x_3 x_4 x_5 x_6 x_7 x_8 x_9 x_10 x_11 x_12 x_13 m5_ m6_ m7_ m8_ q_ q_2 m10_ replies
  have g0 : (∀ (t73_ t74_ : Int) (x_2 : ByteArray) (x_3 x_4 : Int) (x_5 : (List TPiece)) (x_6 : LInt) (x_7 x_8 : Bool) (x_9 : (List TEnd)) (x_10 x_11 x_12 : Int) (x_13 : Bool) (m5_ : (List (TMv × LInt))) (m6_ m7_ m8_ : LInt) (q_ q_2 : Int) (m10_ : LMv) (replies : LInt), run tb (Q35.G N) Q35.A 2 (Q35.fin N) (n + 1) Q35.k0 (Q35.st0 x_ p_ depth t73_ t74_ x_2 x_3 x_4 x_5 x_6 x_7 x_8 x_9 x_10 x_11 x_12 x_13 m5_ m6_ m7_ m8_ q_ q_2 m10_ replies) = Q35.l0 N (Q35 N) x_ p_ depth (n + 1) t73_ t74_ x_2 x_3 x_4 x_5 x_6 x_7 x_8 x_9 x_10 x_11 x_12 x_13 m5_ m6_ m7_ m8_ q_ q_2 m10_ replies) := by
   intro t73_ t74_ x_2 x_3 x_4 x_5 x_6 x_7 x_8 x_9 x_10 x_11 x_12 x_13 m5_ m6_ m7_ m8_ q_ q_2 m10_ replies
   exact (run_succ (by kernel_rfl)).trans ((Q35.step0 N _ x_ p_ depth t73_ t74_ x_2 x_3 x_4 x_5 x_6 x_7 x_8 x_9 x_10 x_11 x_12 x_13 m5_ m6_ m7_ m8_ q_ q_2 m10_ replies).trans ((congrArg (fun r0 => Q35.s0 N (Q35 N) x_ p_ depth r0 t73_ t74_ x_2 x_3 x_4 x_5 x_6 x_7 x_8 x_9 x_10 x_11 x_12 x_13 m5_ m6_ m7_ m8_ q_ q_2 m10_ replies) e0).trans (Q35.l0_s N (Q35 N) x_ p_ depth n t73_ t74_ x_2 x_3 x_4 x_5 x_6 x_7 x_8 x_9 x_10 x_11 x_12 x_13 m5_ m6_ m7_ m8_ q_ q_2 m10_ replies).symm))
  exact g0
theorem Q35.ok1 (ih : FnOk Try.prog 35 (Q35.D N)) : FnOk Try.prog 35 (Q35.D (N + 1)) := by
 refine fo ⟨Try.f35, Try.func35, by kernel_rfl, by kernel_rfl, fun x y h => ⟨Q35.G N, Q35.A, N, gamOf_ok (by simp only [List.forall_mem_cons, List.not_mem_nil, false_implies, implies_true, and_true]; exact ⟨⟨Q62.ok N, Q62.fit N⟩, ⟨Q28.ok N, Q28.fit N⟩, ⟨Q34.ok N, Q34.fit N⟩, ⟨Q50.ok N, Q50.fit N⟩, ⟨ih, Q35.fit N⟩⟩), ?_⟩⟩ (Q35.fit (N + 1))
 rw [absFn_n (n0 := 2) rfl (by kernel_rfl)]
 refine (Q35.entry N (run tb (Q35.G N) Q35.A 2 (Q35.fin N) N) x).trans ?_
 have e0 : (fun (t73_ t74_ : Int) (x_2 : ByteArray) (x_3 x_4 : Int) (x_5 : (List TPiece)) (x_6 : LInt) (x_7 x_8 : Bool) (x_9 : (List TEnd)) (x_10 x_11 x_12 : Int) (x_13 : Bool) (m5_ : (List (TMv × LInt))) (m6_ m7_ m8_ : LInt) (q_ q_2 : Int) (m10_ : LMv) (replies : LInt) => run tb (Q35.G N) Q35.A 2 (Q35.fin N) N Q35.k0 (Q35.st0 x.1 x.2.1 x.2.2.1 t73_ t74_ x_2 x_3 x_4 x_5 x_6 x_7 x_8 x_9 x_10 x_11 x_12 x_13 m5_ m6_ m7_ m8_ q_ q_2 m10_ replies)) = Q35.l0 N (Q35 N) x.1 x.2.1 x.2.2.1 N := by funext t73_ t74_ x_2 x_3 x_4 x_5 x_6 x_7 x_8 x_9 x_10 x_11 x_12 x_13 m5_ m6_ m7_ m8_ q_ q_2 m10_ replies; exact (Q35.runs N x.1 x.2.1 x.2.2.1 N) t73_ t74_ x_2 x_3 x_4 x_5 x_6 x_7 x_8 x_9 x_10 x_11 x_12 x_13 m5_ m6_ m7_ m8_ q_ q_2 m10_ replies
 have h' : (Q35.D (N + 1)).f x = Q35.e N (Q35 N) (Q35.l0 N (Q35 N) x.1 x.2.1 x.2.2.1 N) x.1 x.2.1 x.2.2.1 := by kernel_rfl
 exact (congrArg (fun r0 => Q35.e N (Q35 N) r0 x.1 x.2.1 x.2.2.1) e0).trans (h'.symm.trans h)
theorem Q35.ok : ∀ N, FnOk Try.prog 35 (Q35.D N)
 | 0 => FnOk_none Try.func35 (by kernel_rfl) (by kernel_rfl) (fun x => rfl)
 | N + 1 => Q35.ok1 N (Q35.ok N)
def Q17.as : List MK := [.d true qa, .d true qd, .d false tI]
def Q17.rs : List (Bool × HT) := [(false, (.own 138 (.prod qc (.slice 3 tI)))), (false, (.d tI))]
def Q17.lc : List AC := []
def Q17.D : DFn := ⟨Q17.as, Q17.rs, ((List (TMv × LInt)) × Int), fun x => Q17 N x.1 x.2.1 x.2.2.1, fun r o => (r.1, r.2.1), fun b => (b.1, (b.2, ())), fun b => (), none⟩
theorem Q17.fit : (Q17.D N).Fit := ⟨fun _ _ => rfl, fun _ _ => rfl, by kernel_rfl, (fun _ _ h => nomatch h), by kernel_rfl⟩
noncomputable def Q17.G : Gam := gamOf [(13, Q13.D N), (34, Q34.D N), (35, Q35.D N)]
def Q17.A : LA := fun _ => none
noncomputable def Q17.fin : St → Option ((List (TMv × LInt)) × Int) := resK tb Try.f17.results.toList (decRes (Q17.D N) Q17.lc)
theorem Q17.entry (rec : RK ((List (TMv × LInt)) × Int)) (x : (argH Q17.as).den) : seg tb (Q17.G N) Q17.A 0 rec (Q17.fin N) segFuel [.code (bodyOf Try.f17)] (initSt Try.f17 (encArgs Q17.as x) (encMem Q17.as x)) = Q17.e N x.1 x.2.1 x.2.2.1 := by kernel_rfl
theorem Q17.ok : FnOk Try.prog 17 (Q17.D N) := by
 refine fo ⟨Try.f17, Try.func17, by kernel_rfl, by kernel_rfl, fun x y h => ⟨Q17.G N, Q17.A, N, gamOf_ok (gc ⟨Q13.ok N, Q13.fit N⟩ (gc ⟨Q34.ok N, Q34.fit N⟩ (gc ⟨Q35.ok N, Q35.fit N⟩ gn))), ?_⟩⟩ (Q17.fit N)
 rw [absFn_n (n0 := 0) rfl (by kernel_rfl)]
 exact (Q17.entry N _ x).trans h
def Q37.as : List MK := [.d false (.slice 138 (.prod qc (.slice 3 tI)))]
def Q37.rs : List (Bool × HT) := [(false, (.d .bool))]
def Q37.lc : List AC := []
def Q37.D : DFn := ⟨Q37.as, Q37.rs, Bool, fun x => Q37 N x.1, fun r o => r.1, fun b => (b, ()), fun b => (), none⟩
theorem Q37.fit : (Q37.D N).Fit := ⟨fun _ _ => rfl, fun _ _ => rfl, by kernel_rfl, (fun _ _ h => nomatch h), by kernel_rfl⟩
noncomputable def Q37.G (N : Nat) : Gam := gamOf []
def Q37.A : LA := fun k => bif Nat.beq k 0 then some ⟨[0, 3, 13, 14, 15], [], [], [], [], 1, false⟩ else bif Nat.beq k 2 then some ⟨[0, 3, 4, 13, 14, 15, 21, 22, 23], [], [], [], [], 1, false⟩ else bif Nat.beq k 4 then some ⟨[46, 47, 48], [], [], [], [], 1, false⟩ else none
noncomputable def Q37.fin : St → Option Bool := resK tb Try.f37.results.toList (decRes (Q37.D N) Q37.lc)
noncomputable def Q37.k0 : List Item := stackAt [.r, .r, .l, .r, .b] (bodyOf Try.f37) []
def Q37.st0 (l_ : (List (TMv × LInt))) (t15_ : Int) (named : LInt) : St := ⟨[.one (.fro 138 (.prod qc (.slice 3 tI)) l_), oA, oA, .one (.own 0)] ++ rA 9 ++ [.one (.fro 138 (.prod qc (.slice 3 tI)) l_), oi (l_.length : Int), oi t15_] ++ rA 44, [.row 3 tI named]⟩
noncomputable def Q37.k1 : List Item := stackAt [.r, .r, .l, .r, .b, .w, .r, .r, .l, .b, .r, .r, .b] (bodyOf Try.f37) []
def Q37.st1 (l_ : (List (TMv × LInt))) (i_ t15_ : Int) (t21_ : LInt) (t22_ t23_ : Int) (named : LInt) : St := ⟨[.one (.fro 138 (.prod qc (.slice 3 tI)) l_), oA, oA, .one (.own 0), oi i_] ++ rA 8 ++ [.one (.fro 138 (.prod qc (.slice 3 tI)) l_), oi (l_.length : Int), oi t15_] ++ rA 5 ++ [.one (.fro 3 tI t21_), oi t22_, oi t23_] ++ rA 36, [.row 3 tI named]⟩
noncomputable def Q37.k2 : List Item := stackAt [.r, .r, .r, .l, .r, .b] (bodyOf Try.f37) []
def Q37.st2 (l_ : (List (TMv × LInt))) (t47_ t48_ : Int) (m0_ : LInt) : St := ⟨rA 46 ++ [.one (.own 0), oi t47_, oi t48_] ++ rA 11, [.row 3 tI m0_]⟩
theorem Q37.step0 (rec : RK Bool) (l_ : (List (TMv × LInt))) (t15_ : Int) (named : LInt) : seg tb (Q37.G N) Q37.A 0 rec (Q37.fin N) segFuel (loopBody Q37.k0) (Q37.st0 l_ t15_ named) = Q37.s0 N l_ (fun t15_ named => rec Q37.k0 (Q37.st0 l_ t15_ named)) (fun i_ t15_ t21_ t22_ t23_ named => rec Q37.k1 (Q37.st1 l_ i_ t15_ t21_ t22_ t23_ named)) (fun t47_ t48_ m0_ => rec Q37.k2 (Q37.st2 l_ t47_ t48_ m0_)) t15_ named := by kernel_rfl
theorem Q37.step1 (rec : RK Bool) (l_ : (List (TMv × LInt))) (i_ t15_ : Int) (t21_ : LInt) (t22_ t23_ : Int) (named : LInt) : seg tb (Q37.G N) Q37.A 0 rec (Q37.fin N) segFuel (loopBody Q37.k1) (Q37.st1 l_ i_ t15_ t21_ t22_ t23_ named) = Q37.s1 N l_ (fun t15_ named => rec Q37.k0 (Q37.st0 l_ t15_ named)) (fun i_ t15_ t21_ t22_ t23_ named => rec Q37.k1 (Q37.st1 l_ i_ t15_ t21_ t22_ t23_ named)) (fun t47_ t48_ m0_ => rec Q37.k2 (Q37.st2 l_ t47_ t48_ m0_)) i_ t15_ t21_ t22_ t23_ named := by kernel_rfl
theorem Q37.step2 (rec : RK Bool) (l_ : (List (TMv × LInt))) (t47_ t48_ : Int) (m0_ : LInt) : seg tb (Q37.G N) Q37.A 0 rec (Q37.fin N) segFuel (loopBody Q37.k2) (Q37.st2 l_ t47_ t48_ m0_) = Q37.s2 N l_ (fun t15_ named => rec Q37.k0 (Q37.st0 l_ t15_ named)) (fun i_ t15_ t21_ t22_ t23_ named => rec Q37.k1 (Q37.st1 l_ i_ t15_ t21_ t22_ t23_ named)) (fun t47_ t48_ m0_ => rec Q37.k2 (Q37.st2 l_ t47_ t48_ m0_)) t47_ t48_ m0_ := by kernel_rfl
theorem Q37.entry (rec : RK Bool) (x : (argH Q37.as).den) : seg tb (Q37.G N) Q37.A 0 rec (Q37.fin N) segFuel [.code (bodyOf Try.f37)] (initSt Try.f37 (encArgs Q37.as x) (encMem Q37.as x)) = Q37.e N (fun t15_ named => rec Q37.k0 (Q37.st0 x.1 t15_ named)) (fun i_ t15_ t21_ t22_ t23_ named => rec Q37.k1 (Q37.st1 x.1 i_ t15_ t21_ t22_ t23_ named)) (fun t47_ t48_ m0_ => rec Q37.k2 (Q37.st2 x.1 t47_ t48_ m0_)) x.1 := by kernel_rfl
theorem Q37.runs (N : Nat) (l_ : (List (TMv × LInt))) : ∀ n, (∀ (t15_ : Int) (named : LInt), run tb (Q37.G N) Q37.A 0 (Q37.fin N) n Q37.k0 (Q37.st0 l_ t15_ named) = Q37.l0 N l_ n t15_ named) ∧ (∀ (i_ t15_ : Int) (t21_ : LInt) (t22_ t23_ : Int) (named : LInt), run tb (Q37.G N) Q37.A 0 (Q37.fin N) n Q37.k1 (Q37.st1 l_ i_ t15_ t21_ t22_ t23_ named) = Q37.l1 N l_ n i_ t15_ t21_ t22_ t23_ named) ∧ (∀ (t47_ t48_ : Int) (m0_ : LInt), run tb (Q37.G N) Q37.A 0 (Q37.fin N) n Q37.k2 (Q37.st2 l_ t47_ t48_ m0_) = Q37.l2 N l_ n t47_ t48_ m0_)
 | 0 => ⟨fun _ _ => rfl, fun _ _ _ _ _ _ => rfl, fun _ _ _ => rfl⟩
 | n + 1 => by
  obtain ⟨h0, h1, h2⟩ := Q37.runs N l_ n
  have e0 : (fun (t15_ : Int) (named : LInt) => run tb (Q37.G N) Q37.A 0 (Q37.fin N) n Q37.k0 (Q37.st0 l_ t15_ named)) = Q37.l0 N l_ n := by funext t15_ named; exact h0 t15_ named
  have e1 : (fun (i_ t15_ : Int) (t21_ : LInt) (t22_ t23_ : Int) (named : LInt) => run tb (Q37.G N) Q37.A 0 (Q37.fin N) n Q37.k1 (Q37.st1 l_ i_ t15_ t21_ t22_ t23_ named)) = Q37.l1 N l_ n := by funext i_ t15_ t21_ t22_ t23_ named; exact h1 i_ t15_ t21_ t22_ t23_ named
  have e2 : (fun (t47_ t48_ : Int) (m0_ : LInt) => run tb (Q37.G N) Q37.A 0 (Q37.fin N) n Q37.k2 (Q37.st2 l_ t47_ t48_ m0_)) = Q37.l2 N l_ n := by funext t47_ t48_ m0_; exact h2 t47_ t48_ m0_
  have g0 : (∀ (t15_ : Int) (named : LInt), run tb (Q37.G N) Q37.A 0 (Q37.fin N) (n + 1) Q37.k0 (Q37.st0 l_ t15_ named) = Q37.l0 N l_ (n + 1) t15_ named) := by
   intro t15_ named
   exact (run_succ (by kernel_rfl)).trans ((Q37.step0 N _ l_ t15_ named).trans ((congr (congr (congrArg (fun r0 r1 r2 => Q37.s0 N l_ r0 r1 r2 t15_ named) e0) e1) e2).trans (Q37.l0_s N l_ n t15_ named).symm))
  have g1 : (∀ (i_ t15_ : Int) (t21_ : LInt) (t22_ t23_ : Int) (named : LInt), run tb (Q37.G N) Q37.A 0 (Q37.fin N) (n + 1) Q37.k1 (Q37.st1 l_ i_ t15_ t21_ t22_ t23_ named) = Q37.l1 N l_ (n + 1) i_ t15_ t21_ t22_ t23_ named) := by
   intro i_ t15_ t21_ t22_ t23_ named
   exact (run_succ (by kernel_rfl)).trans ((Q37.step1 N _ l_ i_ t15_ t21_ t22_ t23_ named).trans ((congr (congr (congrArg (fun r0 r1 r2 => Q37.s1 N l_ r0 r1 r2 i_ t15_ t21_ t22_ t23_ named) e0) e1) e2).trans (Q37.l1_s N l_ n i_ t15_ t21_ t22_ t23_ named).symm))
  have g2 : (∀ (t47_ t48_ : Int) (m0_ : LInt), run tb (Q37.G N) Q37.A 0 (Q37.fin N) (n + 1) Q37.k2 (Q37.st2 l_ t47_ t48_ m0_) = Q37.l2 N l_ (n + 1) t47_ t48_ m0_) := by
   intro t47_ t48_ m0_
   exact (run_succ (by kernel_rfl)).trans ((Q37.step2 N _ l_ t47_ t48_ m0_).trans ((congr (congr (congrArg (fun r0 r1 r2 => Q37.s2 N l_ r0 r1 r2 t47_ t48_ m0_) e0) e1) e2).trans (Q37.l2_s N l_ n t47_ t48_ m0_).symm))
  exact ⟨g0, g1, g2⟩
theorem Q37.ok : FnOk Try.prog 37 (Q37.D N) := by
 refine fo ⟨Try.f37, Try.func37, by kernel_rfl, by kernel_rfl, fun x y h => ⟨Q37.G N, Q37.A, N, gamOf_ok (fun p hp => nomatch hp), ?_⟩⟩ (Q37.fit N)
 rw [absFn_n (n0 := 0) rfl (by kernel_rfl)]
 refine (Q37.entry N (run tb (Q37.G N) Q37.A 0 (Q37.fin N) N) x).trans ?_
 have e0 : (fun (t15_ : Int) (named : LInt) => run tb (Q37.G N) Q37.A 0 (Q37.fin N) N Q37.k0 (Q37.st0 x.1 t15_ named)) = Q37.l0 N x.1 N := by funext t15_ named; exact (Q37.runs N x.1 N).1 t15_ named
 have e1 : (fun (i_ t15_ : Int) (t21_ : LInt) (t22_ t23_ : Int) (named : LInt) => run tb (Q37.G N) Q37.A 0 (Q37.fin N) N Q37.k1 (Q37.st1 x.1 i_ t15_ t21_ t22_ t23_ named)) = Q37.l1 N x.1 N := by funext i_ t15_ t21_ t22_ t23_ named; exact (Q37.runs N x.1 N).2.1 i_ t15_ t21_ t22_ t23_ named
 have e2 : (fun (t47_ t48_ : Int) (m0_ : LInt) => run tb (Q37.G N) Q37.A 0 (Q37.fin N) N Q37.k2 (Q37.st2 x.1 t47_ t48_ m0_)) = Q37.l2 N x.1 N := by funext t47_ t48_ m0_; exact (Q37.runs N x.1 N).2.2 t47_ t48_ m0_
 have h' : (Q37.D N).f x = Q37.e N (Q37.l0 N x.1 N) (Q37.l1 N x.1 N) (Q37.l2 N x.1 N) x.1 := by kernel_rfl
 exact (congr (congr (congrArg (fun r0 r1 r2 => Q37.e N r0 r1 r2 x.1) e0) e1) e2).trans (h'.symm.trans h)
def Q38.as : List MK := [.r (.prod qa (.prod (.slice 138 (.prod qc (.slice 3 tI))) tI)), .d false tI, .d true qd]
def Q38.rs : List (Bool × HT) := [(false, (.d tI))]
def Q38.lc : List AC := []
def Q38.D : DFn := ⟨Q38.as, Q38.rs, Int, fun x => Q38 N x.1 x.2.1 x.2.2.1, fun r o => r.1, fun b => (b, ()), fun b => (), none⟩
theorem Q38.fit : (Q38.D N).Fit := ⟨fun _ _ => rfl, fun _ _ => rfl, by kernel_rfl, (fun _ _ h => nomatch h), by kernel_rfl⟩
noncomputable def Q38.G : Gam := gamOf [(50, Q50.D N), (28, Q28.D N), (34, Q34.D N), (38, Q38.D N)]
def Q38.A : LA := fun k => bif Nat.beq k 0 then some ⟨[0, 5, 7, 8, 32, 33, 34], [], [], [], [], 3, false⟩ else bif Nat.beq k 2 then some ⟨[0, 7, 11, 14, 88, 89, 90], [], [], [], [0, 2], 8, false⟩ else none
noncomputable def Q38.fin : St → Option Int := resK tb Try.f38.results.toList (decRes (Q38.D (N + 1)) Q38.lc)
noncomputable def Q38.k0 : List Item := stackAt [.r, .r, .r, .l, .r, .b] (bodyOf Try.f38) []
def Q38.st0 (x_ : (TRules × ((List (TMv × LInt)) × Int))) (k_ : Int) (p_ : TPos) (legal : Bool) (t33_ t34_ : Int) (m2_ : LMv) : St := ⟨[.one (.fp (.prod qa (.prod (.slice 138 (.prod qc (.slice 3 tI))) tI)) x_ 0)] ++ rA 4 ++ [.one (.ptr 0 0), oA, .one (.ptr 1 0), .one (.bool legal)] ++ rA 23 ++ [.one (.own 2), oi t33_, oi t34_] ++ rA 112, [vP p_, .var 138 [.int .i64 (gD (dM, ([] : LInt)) x_.2.1 k_).1.1, .int .i64 (gD (dM, ([] : LInt)) x_.2.1 k_).1.2.1, .int .i64 (gD (dM, ([] : LInt)) x_.2.1 k_).1.2.2, .fro 3 tI (gD (dM, ([] : LInt)) x_.2.1 k_).2], .row 37 qc m2_]⟩
noncomputable def Q38.k1 : List Item := stackAt [.r, .r, .r, .r, .r, .r, .r, .r, .r, .r, .l, .r, .b] (bodyOf Try.f38) []
def Q38.st1 (x_ : (TRules × ((List (TMv × LInt)) × Int))) (k_ : Int) (p_ : TPos) (most t89_ t90_ : Int) (m3_ m4_ m5_ : LInt) (q_ q_2 : Int) (m7_ : LMv) : St := ⟨[.one (.fp (.prod qa (.prod (.slice 138 (.prod qc (.slice 3 tI))) tI)) x_ 0)] ++ rA 6 ++ [.one (.ptr 1 0)] ++ rA 3 ++ [.one (.ptr 6 0), oA, oA, oi most] ++ rA 73 ++ [.one (.own 7), oi t89_, oi t90_] ++ rA 56, [.gone, .var 138 [.int .i64 (gD (dM, ([] : LInt)) x_.2.1 k_).1.1, .int .i64 (gD (dM, ([] : LInt)) x_.2.1 k_).1.2.1, .int .i64 (gD (dM, ([] : LInt)) x_.2.1 k_).1.2.2, .fro 3 tI (gD (dM, ([] : LInt)) x_.2.1 k_).2], .gone, .row 3 tI m3_, .row 3 tI m4_, .row 3 tI m5_, .var 29 [.own 3, .own 4, .own 5, .int .i64 q_, .int .i64 q_2], .row 37 qc m7_]⟩
theorem Q38.step0 (rec : RK Int) (x_ : (TRules × ((List (TMv × LInt)) × Int))) (k_ : Int) (p_ : TPos) (legal : Bool) (t33_ t34_ : Int) (m2_ : LMv) : seg tb (Q38.G N) Q38.A 0 rec (Q38.fin N) segFuel (loopBody Q38.k0) (Q38.st0 x_ k_ p_ legal t33_ t34_ m2_) = Q38.s0 N (Q38 N) x_ k_ p_ (fun legal t33_ t34_ m2_ => rec Q38.k0 (Q38.st0 x_ k_ p_ legal t33_ t34_ m2_)) (fun most t89_ t90_ m3_ m4_ m5_ q_ q_2 m7_ => rec Q38.k1 (Q38.st1 x_ k_ p_ most t89_ t90_ m3_ m4_ m5_ q_ q_2 m7_)) legal t33_ t34_ m2_ := by kernel_rfl
theorem Q38.step1 (rec : RK Int) (x_ : (TRules × ((List (TMv × LInt)) × Int))) (k_ : Int) (p_ : TPos) (most t89_ t90_ : Int) (m3_ m4_ m5_ : LInt) (q_ q_2 : Int) (m7_ : LMv) : seg tb (Q38.G N) Q38.A 0 rec (Q38.fin N) segFuel (loopBody Q38.k1) (Q38.st1 x_ k_ p_ most t89_ t90_ m3_ m4_ m5_ q_ q_2 m7_) = Q38.s1 N (Q38 N) x_ k_ p_ (fun legal t33_ t34_ m2_ => rec Q38.k0 (Q38.st0 x_ k_ p_ legal t33_ t34_ m2_)) (fun most t89_ t90_ m3_ m4_ m5_ q_ q_2 m7_ => rec Q38.k1 (Q38.st1 x_ k_ p_ most t89_ t90_ m3_ m4_ m5_ q_ q_2 m7_)) most t89_ t90_ m3_ m4_ m5_ q_ q_2 m7_ := by kernel_rfl
theorem Q38.entry (rec : RK Int) (x : (argH Q38.as).den) : seg tb (Q38.G N) Q38.A 0 rec (Q38.fin N) segFuel [.code (bodyOf Try.f38)] (initSt Try.f38 (encArgs Q38.as x) (encMem Q38.as x)) = Q38.e N (Q38 N) (fun legal t33_ t34_ m2_ => rec Q38.k0 (Q38.st0 x.1 x.2.1 x.2.2.1 legal t33_ t34_ m2_)) (fun most t89_ t90_ m3_ m4_ m5_ q_ q_2 m7_ => rec Q38.k1 (Q38.st1 x.1 x.2.1 x.2.2.1 most t89_ t90_ m3_ m4_ m5_ q_ q_2 m7_)) x.1 x.2.1 x.2.2.1 := by kernel_rfl
theorem Q38.runs (N : Nat) (x_ : (TRules × ((List (TMv × LInt)) × Int))) (k_ : Int) (p_ : TPos) : ∀ n, (∀ (legal : Bool) (t33_ t34_ : Int) (m2_ : LMv), run tb (Q38.G N) Q38.A 0 (Q38.fin N) n Q38.k0 (Q38.st0 x_ k_ p_ legal t33_ t34_ m2_) = Q38.l0 N (Q38 N) x_ k_ p_ n legal t33_ t34_ m2_) ∧ (∀ (most t89_ t90_ : Int) (m3_ m4_ m5_ : LInt) (q_ q_2 : Int) (m7_ : LMv), run tb (Q38.G N) Q38.A 0 (Q38.fin N) n Q38.k1 (Q38.st1 x_ k_ p_ most t89_ t90_ m3_ m4_ m5_ q_ q_2 m7_) = Q38.l1 N (Q38 N) x_ k_ p_ n most t89_ t90_ m3_ m4_ m5_ q_ q_2 m7_)
 | 0 => ⟨fun _ _ _ _ => rfl, fun _ _ _ _ _ _ _ _ _ => rfl⟩
 | n + 1 => by
  obtain ⟨h0, h1⟩ := Q38.runs N x_ k_ p_ n
  have e0 : (fun (legal : Bool) (t33_ t34_ : Int) (m2_ : LMv) => run tb (Q38.G N) Q38.A 0 (Q38.fin N) n Q38.k0 (Q38.st0 x_ k_ p_ legal t33_ t34_ m2_)) = Q38.l0 N (Q38 N) x_ k_ p_ n := by funext legal t33_ t34_ m2_; exact h0 legal t33_ t34_ m2_
  have e1 : (fun (most t89_ t90_ : Int) (m3_ m4_ m5_ : LInt) (q_ q_2 : Int) (m7_ : LMv) => run tb (Q38.G N) Q38.A 0 (Q38.fin N) n Q38.k1 (Q38.st1 x_ k_ p_ most t89_ t90_ m3_ m4_ m5_ q_ q_2 m7_)) = Q38.l1 N (Q38 N) x_ k_ p_ n := by funext most t89_ t90_ m3_ m4_ m5_ q_ q_2 m7_; exact h1 most t89_ t90_ m3_ m4_ m5_ q_ q_2 m7_
  have g0 : (∀ (legal : Bool) (t33_ t34_ : Int) (m2_ : LMv), run tb (Q38.G N) Q38.A 0 (Q38.fin N) (n + 1) Q38.k0 (Q38.st0 x_ k_ p_ legal t33_ t34_ m2_) = Q38.l0 N (Q38 N) x_ k_ p_ (n + 1) legal t33_ t34_ m2_) := by
   intro legal t33_ t34_ m2_
   exact (run_succ (by kernel_rfl)).trans ((Q38.step0 N _ x_ k_ p_ legal t33_ t34_ m2_).trans ((congr (congrArg (fun r0 r1 => Q38.s0 N (Q38 N) x_ k_ p_ r0 r1 legal t33_ t34_ m2_) e0) e1).trans (Q38.l0_s N (Q38 N) x_ k_ p_ n legal t33_ t34_ m2_).symm))
  have g1 : (∀ (most t89_ t90_ : Int) (m3_ m4_ m5_ : LInt) (q_ q_2 : Int) (m7_ : LMv), run tb (Q38.G N) Q38.A 0 (Q38.fin N) (n + 1) Q38.k1 (Q38.st1 x_ k_ p_ most t89_ t90_ m3_ m4_ m5_ q_ q_2 m7_) = Q38.l1 N (Q38 N) x_ k_ p_ (n + 1) most t89_ t90_ m3_ m4_ m5_ q_ q_2 m7_) := by
   intro most t89_ t90_ m3_ m4_ m5_ q_ q_2 m7_
   exact (run_succ (by kernel_rfl)).trans ((Q38.step1 N _ x_ k_ p_ most t89_ t90_ m3_ m4_ m5_ q_ q_2 m7_).trans ((congr (congrArg (fun r0 r1 => Q38.s1 N (Q38 N) x_ k_ p_ r0 r1 most t89_ t90_ m3_ m4_ m5_ q_ q_2 m7_) e0) e1).trans (Q38.l1_s N (Q38 N) x_ k_ p_ n most t89_ t90_ m3_ m4_ m5_ q_ q_2 m7_).symm))
  exact ⟨g0, g1⟩
theorem Q38.ok1 (ih : FnOk Try.prog 38 (Q38.D N)) : FnOk Try.prog 38 (Q38.D (N + 1)) := by
 refine fo ⟨Try.f38, Try.func38, by kernel_rfl, by kernel_rfl, fun x y h => ⟨Q38.G N, Q38.A, N, gamOf_ok (by simp only [List.forall_mem_cons, List.not_mem_nil, false_implies, implies_true, and_true]; exact ⟨⟨Q50.ok N, Q50.fit N⟩, ⟨Q28.ok N, Q28.fit N⟩, ⟨Q34.ok N, Q34.fit N⟩, ⟨ih, Q38.fit N⟩⟩), ?_⟩⟩ (Q38.fit (N + 1))
 rw [absFn_n (n0 := 0) rfl (by kernel_rfl)]
 refine (Q38.entry N (run tb (Q38.G N) Q38.A 0 (Q38.fin N) N) x).trans ?_
 have e0 : (fun (legal : Bool) (t33_ t34_ : Int) (m2_ : LMv) => run tb (Q38.G N) Q38.A 0 (Q38.fin N) N Q38.k0 (Q38.st0 x.1 x.2.1 x.2.2.1 legal t33_ t34_ m2_)) = Q38.l0 N (Q38 N) x.1 x.2.1 x.2.2.1 N := by funext legal t33_ t34_ m2_; exact (Q38.runs N x.1 x.2.1 x.2.2.1 N).1 legal t33_ t34_ m2_
 have e1 : (fun (most t89_ t90_ : Int) (m3_ m4_ m5_ : LInt) (q_ q_2 : Int) (m7_ : LMv) => run tb (Q38.G N) Q38.A 0 (Q38.fin N) N Q38.k1 (Q38.st1 x.1 x.2.1 x.2.2.1 most t89_ t90_ m3_ m4_ m5_ q_ q_2 m7_)) = Q38.l1 N (Q38 N) x.1 x.2.1 x.2.2.1 N := by funext most t89_ t90_ m3_ m4_ m5_ q_ q_2 m7_; exact (Q38.runs N x.1 x.2.1 x.2.2.1 N).2 most t89_ t90_ m3_ m4_ m5_ q_ q_2 m7_
 have h' : (Q38.D (N + 1)).f x = Q38.e N (Q38 N) (Q38.l0 N (Q38 N) x.1 x.2.1 x.2.2.1 N) (Q38.l1 N (Q38 N) x.1 x.2.1 x.2.2.1 N) x.1 x.2.1 x.2.2.1 := by kernel_rfl
 exact (congr (congrArg (fun r0 r1 => Q38.e N (Q38 N) r0 r1 x.1 x.2.1 x.2.2.1) e0) e1).trans (h'.symm.trans h)
theorem Q38.ok : ∀ N, FnOk Try.prog 38 (Q38.D N)
 | 0 => FnOk_none Try.func38 (by kernel_rfl) (by kernel_rfl) (fun x => rfl)
 | N + 1 => Q38.ok1 N (Q38.ok N)
def Q18.as : List MK := [.d true qa, .d true qd, .d false (.slice 138 (.prod qc (.slice 3 tI)))]
def Q18.rs : List (Bool × HT) := [(false, (.d tI)), (false, (.d tI))]
def Q18.lc : List AC := []
def Q18.D : DFn := ⟨Q18.as, Q18.rs, (Int × Int), fun x => Q18 N x.1 x.2.1 x.2.2.1, fun r o => (r.1, r.2.1), fun b => (b.1, (b.2, ())), fun b => (), none⟩
theorem Q18.fit : (Q18.D N).Fit := ⟨fun _ _ => rfl, fun _ _ => rfl, by kernel_rfl, (fun _ _ h => nomatch h), by kernel_rfl⟩
noncomputable def Q18.G : Gam := gamOf [(36, Q36.D N), (34, Q34.D N), (37, Q37.D N), (38, Q38.D N)]
def Q18.A : LA := fun _ => none
noncomputable def Q18.fin : St → Option (Int × Int) := resK tb Try.f18.results.toList (decRes (Q18.D N) Q18.lc)
theorem Q18.entry (rec : RK (Int × Int)) (x : (argH Q18.as).den) : seg tb (Q18.G N) Q18.A 0 rec (Q18.fin N) segFuel [.code (bodyOf Try.f18)] (initSt Try.f18 (encArgs Q18.as x) (encMem Q18.as x)) = Q18.e N x.1 x.2.1 x.2.2.1 := by kernel_rfl
theorem Q18.ok : FnOk Try.prog 18 (Q18.D N) := by
 refine fo ⟨Try.f18, Try.func18, by kernel_rfl, by kernel_rfl, fun x y h => ⟨Q18.G N, Q18.A, N, gamOf_ok (gc ⟨Q36.ok N, Q36.fit N⟩ (gc ⟨Q34.ok N, Q34.fit N⟩ (gc ⟨Q37.ok N, Q37.fit N⟩ (gc ⟨Q38.ok N, Q38.fit N⟩ gn)))), ?_⟩⟩ (Q18.fit N)
 rw [absFn_n (n0 := 0) rfl (by kernel_rfl)]
 exact (Q18.entry N _ x).trans h
def Q32.as : List MK := [.d false tI]
def Q32.rs : List (Bool × HT) := [(false, (.d .bool))]
def Q32.lc : List AC := []
def Q32.D : DFn := ⟨Q32.as, Q32.rs, Bool, fun x => Q32 N x.1, fun r o => r.1, fun b => (b, ()), fun b => (), none⟩
theorem Q32.fit : (Q32.D N).Fit := ⟨fun _ _ => rfl, fun _ _ => rfl, by kernel_rfl, (fun _ _ h => nomatch h), by kernel_rfl⟩
noncomputable def Q32.G (N : Nat) : Gam := gamOf []
def Q32.A : LA := fun _ => none
noncomputable def Q32.fin : St → Option Bool := resK tb Try.f32.results.toList (decRes (Q32.D N) Q32.lc)
theorem Q32.entry (rec : RK Bool) (x : (argH Q32.as).den) : seg tb (Q32.G N) Q32.A 0 rec (Q32.fin N) segFuel [.code (bodyOf Try.f32)] (initSt Try.f32 (encArgs Q32.as x) (encMem Q32.as x)) = Q32.e N x.1 := by kernel_rfl
theorem Q32.ok : FnOk Try.prog 32 (Q32.D N) := by
 refine fo ⟨Try.f32, Try.func32, by kernel_rfl, by kernel_rfl, fun x y h => ⟨Q32.G N, Q32.A, N, gamOf_ok (fun p hp => nomatch hp), ?_⟩⟩ (Q32.fit N)
 rw [absFn_n (n0 := 0) rfl (by kernel_rfl)]
 exact (Q32.entry N _ x).trans h
def Q59.as : List MK := [.d false (.slice 31 tI), .f 32]
def Q59.rs : List (Bool × HT) := [(false, (.d tI))]
def Q59.lc : List AC := []
def Q59.D : DFn := ⟨Q59.as, Q59.rs, Int, fun x => Q59 N x.1, fun r o => r.1, fun b => (b, ()), fun b => (), none⟩
theorem Q59.fit : (Q59.D N).Fit := ⟨fun _ _ => rfl, fun _ _ => rfl, by kernel_rfl, (fun _ _ h => nomatch h), by kernel_rfl⟩
noncomputable def Q59.G : Gam := gamOf [(32, Q32.D N)]
def Q59.A : LA := fun k => bif Nat.beq k 0 then some ⟨[0, 1, 7, 8], [], [], [], [], 0, false⟩ else none
noncomputable def Q59.fin : St → Option Int := resK tb Try.f59.results.toList (decRes (Q59.D N) Q59.lc)
noncomputable def Q59.k0 : List Item := stackAt [.r, .l, .r, .b] (bodyOf Try.f59) []
def Q59.st0 (s_ : LInt) (t8_ : Int) : St := ⟨[.one (.fro 31 tI s_), .one (.fn 32)] ++ rA 5 ++ [oi (s_.length : Int), oi t8_] ++ rA 10, []⟩
theorem Q59.step0 (rec : RK Int) (s_ : LInt) (t8_ : Int) : seg tb (Q59.G N) Q59.A 0 rec (Q59.fin N) segFuel (loopBody Q59.k0) (Q59.st0 s_ t8_) = Q59.s0 N s_ (fun t8_ => rec Q59.k0 (Q59.st0 s_ t8_)) t8_ := by kernel_rfl
theorem Q59.entry (rec : RK Int) (x : (argH Q59.as).den) : seg tb (Q59.G N) Q59.A 0 rec (Q59.fin N) segFuel [.code (bodyOf Try.f59)] (initSt Try.f59 (encArgs Q59.as x) (encMem Q59.as x)) = Q59.e N (fun t8_ => rec Q59.k0 (Q59.st0 x.1 t8_)) x.1 := by kernel_rfl
theorem Q59.runs (N : Nat) (s_ : LInt) : ∀ n, (∀ (t8_ : Int), run tb (Q59.G N) Q59.A 0 (Q59.fin N) n Q59.k0 (Q59.st0 s_ t8_) = Q59.l0 N s_ n t8_)
 | 0 => fun _ => rfl
 | n + 1 => by
  have h0 := Q59.runs N s_ n
  have e0 : (fun (t8_ : Int) => run tb (Q59.G N) Q59.A 0 (Q59.fin N) n Q59.k0 (Q59.st0 s_ t8_)) = Q59.l0 N s_ n := by funext t8_; exact h0 t8_
  have g0 : (∀ (t8_ : Int), run tb (Q59.G N) Q59.A 0 (Q59.fin N) (n + 1) Q59.k0 (Q59.st0 s_ t8_) = Q59.l0 N s_ (n + 1) t8_) := by
   intro t8_
   exact (run_succ (by kernel_rfl)).trans ((Q59.step0 N _ s_ t8_).trans ((congrArg (fun r0 => Q59.s0 N s_ r0 t8_) e0).trans (Q59.l0_s N s_ n t8_).symm))
  exact g0
theorem Q59.ok : FnOk Try.prog 59 (Q59.D N) := by
 refine fo ⟨Try.f59, Try.func59, by kernel_rfl, by kernel_rfl, fun x y h => ⟨Q59.G N, Q59.A, N, gamOf_ok (gc ⟨Q32.ok N, Q32.fit N⟩ gn), ?_⟩⟩ (Q59.fit N)
 rw [absFn_n (n0 := 0) rfl (by kernel_rfl)]
 refine (Q59.entry N (run tb (Q59.G N) Q59.A 0 (Q59.fin N) N) x).trans ?_
 have e0 : (fun (t8_ : Int) => run tb (Q59.G N) Q59.A 0 (Q59.fin N) N Q59.k0 (Q59.st0 x.1 t8_)) = Q59.l0 N x.1 N := by funext t8_; exact (Q59.runs N x.1 N) t8_
 have h' : (Q59.D N).f x = Q59.e N (Q59.l0 N x.1 N) x.1 := by kernel_rfl
 exact (congrArg (fun r0 => Q59.e N r0 x.1) e0).trans (h'.symm.trans h)
def Q31.as : List MK := [.d false (.slice 31 tI), .f 32]
def Q31.rs : List (Bool × HT) := [(false, (.d .bool))]
def Q31.lc : List AC := []
def Q31.D : DFn := ⟨Q31.as, Q31.rs, Bool, fun x => Q31 N x.1, fun r o => r.1, fun b => (b, ()), fun b => (), none⟩
theorem Q31.fit : (Q31.D N).Fit := ⟨fun _ _ => rfl, fun _ _ => rfl, by kernel_rfl, (fun _ _ h => nomatch h), by kernel_rfl⟩
noncomputable def Q31.G : Gam := gamOf [(59, Q59.D N)]
def Q31.A : LA := fun _ => none
noncomputable def Q31.fin : St → Option Bool := resK tb Try.f31.results.toList (decRes (Q31.D N) Q31.lc)
theorem Q31.entry (rec : RK Bool) (x : (argH Q31.as).den) : seg tb (Q31.G N) Q31.A 0 rec (Q31.fin N) segFuel [.code (bodyOf Try.f31)] (initSt Try.f31 (encArgs Q31.as x) (encMem Q31.as x)) = Q31.e N x.1 := by kernel_rfl
theorem Q31.ok : FnOk Try.prog 31 (Q31.D N) := by
 refine fo ⟨Try.f31, Try.func31, by kernel_rfl, by kernel_rfl, fun x y h => ⟨Q31.G N, Q31.A, N, gamOf_ok (gc ⟨Q59.ok N, Q59.fit N⟩ gn), ?_⟩⟩ (Q31.fit N)
 rw [absFn_n (n0 := 0) rfl (by kernel_rfl)]
 exact (Q31.entry N _ x).trans h
def Q14.as : List MK := [.d false (.slice 31 tI)]
def Q14.rs : List (Bool × HT) := [(false, (.d .bool))]
def Q14.lc : List AC := []
def Q14.D : DFn := ⟨Q14.as, Q14.rs, Bool, fun x => Q14 N x.1, fun r o => r.1, fun b => (b, ()), fun b => (), none⟩
theorem Q14.fit : (Q14.D N).Fit := ⟨fun _ _ => rfl, fun _ _ => rfl, by kernel_rfl, (fun _ _ h => nomatch h), by kernel_rfl⟩
noncomputable def Q14.G : Gam := gamOf [(31, Q31.D N)]
def Q14.A : LA := fun _ => none
noncomputable def Q14.fin : St → Option Bool := resK tb Try.f14.results.toList (decRes (Q14.D N) Q14.lc)
theorem Q14.entry (rec : RK Bool) (x : (argH Q14.as).den) : seg tb (Q14.G N) Q14.A 0 rec (Q14.fin N) segFuel [.code (bodyOf Try.f14)] (initSt Try.f14 (encArgs Q14.as x) (encMem Q14.as x)) = Q14.e N x.1 := by kernel_rfl
theorem Q14.ok : FnOk Try.prog 14 (Q14.D N) := by
 refine fo ⟨Try.f14, Try.func14, by kernel_rfl, by kernel_rfl, fun x y h => ⟨Q14.G N, Q14.A, N, gamOf_ok (gc ⟨Q31.ok N, Q31.fit N⟩ gn), ?_⟩⟩ (Q14.fit N)
 rw [absFn_n (n0 := 0) rfl (by kernel_rfl)]
 exact (Q14.entry N _ x).trans h
def Q53.as : List MK := [.d false (.slice 3 tI), .d false (.slice 3 tI)]
def Q53.rs : List (Bool × HT) := [(false, (.d .bool))]
def Q53.lc : List AC := []
def Q53.D : DFn := ⟨Q53.as, Q53.rs, Bool, fun x => Q53 N x.1 x.2.1, fun r o => r.1, fun b => (b, ()), fun b => (), none⟩
theorem Q53.fit : (Q53.D N).Fit := ⟨fun _ _ => rfl, fun _ _ => rfl, by kernel_rfl, (fun _ _ h => nomatch h), by kernel_rfl⟩
noncomputable def Q53.G (N : Nat) : Gam := gamOf []
def Q53.A : LA := fun k => bif Nat.beq k 0 then some ⟨[0, 1, 12, 13], [], [], [], [], 0, false⟩ else none
noncomputable def Q53.fin : St → Option Bool := resK tb Try.f53.results.toList (decRes (Q53.D N) Q53.lc)
noncomputable def Q53.k0 : List Item := stackAt [.r, .r, .l, .r, .b] (bodyOf Try.f53) []
def Q53.st0 (s1_ s2_ : LInt) (t13_ : Int) : St := ⟨[.one (.fro 3 tI s1_), .one (.fro 3 tI s2_)] ++ rA 10 ++ [oi (s1_.length : Int), oi t13_] ++ rA 12, []⟩
theorem Q53.step0 (rec : RK Bool) (s1_ s2_ : LInt) (t13_ : Int) : seg tb (Q53.G N) Q53.A 0 rec (Q53.fin N) segFuel (loopBody Q53.k0) (Q53.st0 s1_ s2_ t13_) = Q53.s0 N s1_ s2_ (fun t13_ => rec Q53.k0 (Q53.st0 s1_ s2_ t13_)) t13_ := by kernel_rfl
theorem Q53.entry (rec : RK Bool) (x : (argH Q53.as).den) : seg tb (Q53.G N) Q53.A 0 rec (Q53.fin N) segFuel [.code (bodyOf Try.f53)] (initSt Try.f53 (encArgs Q53.as x) (encMem Q53.as x)) = Q53.e N (fun t13_ => rec Q53.k0 (Q53.st0 x.1 x.2.1 t13_)) x.1 x.2.1 := by kernel_rfl
theorem Q53.runs (N : Nat) (s1_ s2_ : LInt) : ∀ n, (∀ (t13_ : Int), run tb (Q53.G N) Q53.A 0 (Q53.fin N) n Q53.k0 (Q53.st0 s1_ s2_ t13_) = Q53.l0 N s1_ s2_ n t13_)
 | 0 => fun _ => rfl
 | n + 1 => by
  have h0 := Q53.runs N s1_ s2_ n
  have e0 : (fun (t13_ : Int) => run tb (Q53.G N) Q53.A 0 (Q53.fin N) n Q53.k0 (Q53.st0 s1_ s2_ t13_)) = Q53.l0 N s1_ s2_ n := by funext t13_; exact h0 t13_
  have g0 : (∀ (t13_ : Int), run tb (Q53.G N) Q53.A 0 (Q53.fin N) (n + 1) Q53.k0 (Q53.st0 s1_ s2_ t13_) = Q53.l0 N s1_ s2_ (n + 1) t13_) := by
   intro t13_
   exact (run_succ (by kernel_rfl)).trans ((Q53.step0 N _ s1_ s2_ t13_).trans ((congrArg (fun r0 => Q53.s0 N s1_ s2_ r0 t13_) e0).trans (Q53.l0_s N s1_ s2_ n t13_).symm))
  exact g0
theorem Q53.ok : FnOk Try.prog 53 (Q53.D N) := by
 refine fo ⟨Try.f53, Try.func53, by kernel_rfl, by kernel_rfl, fun x y h => ⟨Q53.G N, Q53.A, N, gamOf_ok (fun p hp => nomatch hp), ?_⟩⟩ (Q53.fit N)
 rw [absFn_n (n0 := 0) rfl (by kernel_rfl)]
 refine (Q53.entry N (run tb (Q53.G N) Q53.A 0 (Q53.fin N) N) x).trans ?_
 have e0 : (fun (t13_ : Int) => run tb (Q53.G N) Q53.A 0 (Q53.fin N) N Q53.k0 (Q53.st0 x.1 x.2.1 t13_)) = Q53.l0 N x.1 x.2.1 N := by funext t13_; exact (Q53.runs N x.1 x.2.1 N) t13_
 have h' : (Q53.D N).f x = Q53.e N (Q53.l0 N x.1 x.2.1 N) x.1 x.2.1 := by kernel_rfl
 exact (congrArg (fun r0 => Q53.e N r0 x.1 x.2.1) e0).trans (h'.symm.trans h)
def Q26.as : List MK := [.d true qd, .d true qd]
def Q26.rs : List (Bool × HT) := [(false, (.d .bool))]
def Q26.lc : List AC := []
def Q26.D : DFn := ⟨Q26.as, Q26.rs, Bool, fun x => Q26 N x.1 x.2.1, fun r o => r.1, fun b => (b, ()), fun b => (), none⟩
theorem Q26.fit : (Q26.D N).Fit := ⟨fun _ _ => rfl, fun _ _ => rfl, by kernel_rfl, (fun _ _ h => nomatch h), by kernel_rfl⟩
noncomputable def Q26.G : Gam := gamOf [(53, Q53.D N)]
def Q26.A : LA := fun _ => none
noncomputable def Q26.fin : St → Option Bool := resK tb Try.f26.results.toList (decRes (Q26.D N) Q26.lc)
theorem Q26.entry (rec : RK Bool) (x : (argH Q26.as).den) : seg tb (Q26.G N) Q26.A 0 rec (Q26.fin N) segFuel [.code (bodyOf Try.f26)] (initSt Try.f26 (encArgs Q26.as x) (encMem Q26.as x)) = Q26.e N x.1 x.2.1 := by kernel_rfl
theorem Q26.ok : FnOk Try.prog 26 (Q26.D N) := by
 refine fo ⟨Try.f26, Try.func26, by kernel_rfl, by kernel_rfl, fun x y h => ⟨Q26.G N, Q26.A, N, gamOf_ok (gc ⟨Q53.ok N, Q53.fit N⟩ gn), ?_⟩⟩ (Q26.fit N)
 rw [absFn_n (n0 := 0) rfl (by kernel_rfl)]
 exact (Q26.entry N _ x).trans h
def Q9.as : List MK := []
def Q9.rs : List (Bool × HT) := [(false, (.d .bool))]
def Q9.lc : List AC := []
def Q9.D : DFn := ⟨Q9.as, Q9.rs, Bool, fun x => Q9 N, fun r o => r.1, fun b => (b, ()), fun b => (), none⟩
theorem Q9.fit : (Q9.D N).Fit := ⟨fun _ _ => rfl, fun _ _ => rfl, by kernel_rfl, (fun _ _ h => nomatch h), by kernel_rfl⟩
noncomputable def Q9.G : Gam := gamOf [(6, Q6.D N), (7, Q7.D N), (13, Q13.D N), (25, Q25.D N), (14, Q14.D N), (26, Q26.D N)]
def Q9.A : LA := fun _ => none
noncomputable def Q9.fin : St → Option Bool := resK tb Try.f9.results.toList (decRes (Q9.D N) Q9.lc)
theorem Q9.entry (rec : RK Bool) (x : (argH Q9.as).den) : seg tb (Q9.G N) Q9.A 0 rec (Q9.fin N) segFuel [.code (bodyOf Try.f9)] (initSt Try.f9 (encArgs Q9.as x) (encMem Q9.as x)) = Q9.e N := by kernel_rfl
theorem Q9.ok : FnOk Try.prog 9 (Q9.D N) := by
 refine fo ⟨Try.f9, Try.func9, by kernel_rfl, by kernel_rfl, fun x y h => ⟨Q9.G N, Q9.A, N, gamOf_ok (gc ⟨Q6.ok N, Q6.fit N⟩ (gc ⟨Q7.ok N, Q7.fit N⟩ (gc ⟨Q13.ok N, Q13.fit N⟩ (gc ⟨Q25.ok N, Q25.fit N⟩ (gc ⟨Q14.ok N, Q14.fit N⟩ (gc ⟨Q26.ok N, Q26.fit N⟩ gn)))))), ?_⟩⟩ (Q9.fit N)
 rw [absFn_n (n0 := 0) rfl (by kernel_rfl)]
 exact (Q9.entry N _ x).trans h
def Q40.as : List MK := [.o (.ptr 106 (.prod (.ptr 119 (.prod (.prod (.d .str) (.prod (.d tI) (.prod (.d tI) (.prod (.own 80 qb) (.prod (.own 3 tI) (.prod (.d .bool) (.prod (.d .bool) (.prod (.own 82 qe) (.d qc))))))))) (.prod (.prod (.own 3 tI) (.prod (.prod (.own 3 tI) (.own 3 tI)) (.d (.prod tI tI)))) (.prod (.d (.int .u64)) (.own 149 qf))))) (.d (.prod tI tI)))) true]
def Q40.rs : List (Bool × HT) := [(false, (.ptr 111 (.prod .nilS (.prod .nilS (.d (.prod tI (.prod tI .bool)))))))]
def Q40.lc : List AC := [.ptr 0 0]
def Q40.D : DFn := ⟨Q40.as, Q40.rs, ((Unit × (Unit × (Int × (Int × Bool)))) × (TBoard × (Int × Int))), fun x => Q40 N x.1, fun r o => (r.1, o.1), fun b => (b.1, ()), fun b => (b.2, ()), some [1]⟩
theorem Q40.fit : (Q40.D N).Fit := ⟨fun _ _ => rfl, fun _ _ => rfl, by kernel_rfl, (fun x L h => by cases h; kernel_rfl), by kernel_rfl⟩
noncomputable def Q40.G : Gam := gamOf [(22, Q22.D N)]
def Q40.A : LA := fun _ => none
noncomputable def Q40.fin : St → Option ((Unit × (Unit × (Int × (Int × Bool)))) × (TBoard × (Int × Int))) := resK tb Try.f40.results.toList (decRes (Q40.D N) Q40.lc)
theorem Q40.entry (rec : RK ((Unit × (Unit × (Int × (Int × Bool)))) × (TBoard × (Int × Int)))) (x : (argH Q40.as).den) : seg tb (Q40.G N) Q40.A 9 rec (Q40.fin N) segFuel [.code (bodyOf Try.f40)] (initSt Try.f40 (encArgs Q40.as x) (encMem Q40.as x)) = Q40.e N x.1 := by kernel_rfl
theorem Q40.ok : FnOk Try.prog 40 (Q40.D N) := by
 refine fo ⟨Try.f40, Try.func40, by kernel_rfl, by kernel_rfl, fun x y h => ⟨Q40.G N, Q40.A, N, gamOf_ok (gc ⟨Q22.ok N, Q22.fit N⟩ gn), ?_⟩⟩ (Q40.fit N)
 rw [absFn_n (n0 := 9) rfl (by kernel_rfl)]
 exact (Q40.entry N _ x).trans h
def Q64.as : List MK := [.o (.nd 111 107 (.slice 37 qc) (.prod tI (.prod tI .bool))) true, .d false .bool]
def Q64.rs : List (Bool × HT) := [(false, (.d tI))]
def Q64.lc (n_ : ((List TPN) × Int)) (own : Bool) : List AC := [.nr n_.2]
def Q64.D : DFn := ⟨Q64.as, Q64.rs, (Int × ((List TPN) × Int)), fun x => Q64 N x.1 x.2.1, fun r o => (r.1, o.1), fun b => (b.1, ()), fun b => (b.2, ()), none⟩
theorem Q64.fit : (Q64.D N).Fit := ⟨fun _ _ => rfl, fun _ _ => rfl, by kernel_rfl, (fun _ _ h => nomatch h), by kernel_rfl⟩
noncomputable def Q64.G (N : Nat) : Gam := gamOf []
def Q64.A : LA := fun k => bif Nat.beq k 0 then some ⟨[0, 1, 5, 13, 14, 15], [], [], [], [], 1, false⟩ else none
noncomputable def Q64.fin (n_ : ((List TPN) × Int)) (own : Bool) : St → Option (Int × ((List TPN) × Int)) := resK tb Try.f64.results.toList (decRes (Q64.D N) (Q64.lc n_ own))
noncomputable def Q64.k0 : List Item := stackAt [.r, .r, .l, .r, .b] (bodyOf Try.f64) []
def Q64.st0 (n_ : ((List TPN) × Int)) (own : Bool) (best t14_ t15_ : Int) : St := ⟨[.one (.nr n_.2), .one (.bool own)] ++ rA 3 ++ [oi best] ++ rA 7 ++ [.one (.kd n_.2 ((gD dP n_.1 n_.2).2.1.length : Int)), oi t14_, oi t15_] ++ rA 40, [.arena 111 107 (.slice 37 qc) (.prod tI (.prod tI .bool)) n_.1 none]⟩
theorem Q64.step0 (rec : RK (Int × ((List TPN) × Int))) (n_ : ((List TPN) × Int)) (own : Bool) (best t14_ t15_ : Int) : seg tb (Q64.G N) Q64.A 1 rec (Q64.fin N n_ own) segFuel (loopBody Q64.k0) (Q64.st0 n_ own best t14_ t15_) = Q64.s0 N n_ own (fun best t14_ t15_ => rec Q64.k0 (Q64.st0 n_ own best t14_ t15_)) best t14_ t15_ := by kernel_rfl
theorem Q64.entry (rec : RK (Int × ((List TPN) × Int))) (x : (argH Q64.as).den) : seg tb (Q64.G N) Q64.A 1 rec (Q64.fin N x.1 x.2.1) segFuel [.code (bodyOf Try.f64)] (initSt Try.f64 (encArgs Q64.as x) (encMem Q64.as x)) = Q64.e N (fun best t14_ t15_ => rec Q64.k0 (Q64.st0 x.1 x.2.1 best t14_ t15_)) x.1 x.2.1 := by kernel_rfl
theorem Q64.runs (N : Nat) (n_ : ((List TPN) × Int)) (own : Bool) : ∀ n, (∀ (best t14_ t15_ : Int), run tb (Q64.G N) Q64.A 1 (Q64.fin N n_ own) n Q64.k0 (Q64.st0 n_ own best t14_ t15_) = Q64.l0 N n_ own n best t14_ t15_)
 | 0 => fun _ _ _ => rfl
 | n + 1 => by
  have h0 := Q64.runs N n_ own n
  have e0 : (fun (best t14_ t15_ : Int) => run tb (Q64.G N) Q64.A 1 (Q64.fin N n_ own) n Q64.k0 (Q64.st0 n_ own best t14_ t15_)) = Q64.l0 N n_ own n := by funext best t14_ t15_; exact h0 best t14_ t15_
  have g0 : (∀ (best t14_ t15_ : Int), run tb (Q64.G N) Q64.A 1 (Q64.fin N n_ own) (n + 1) Q64.k0 (Q64.st0 n_ own best t14_ t15_) = Q64.l0 N n_ own (n + 1) best t14_ t15_) := by
   intro best t14_ t15_
   exact (run_succ (by kernel_rfl)).trans ((Q64.step0 N _ n_ own best t14_ t15_).trans ((congrArg (fun r0 => Q64.s0 N n_ own r0 best t14_ t15_) e0).trans (Q64.l0_s N n_ own n best t14_ t15_).symm))
  exact g0
theorem Q64.ok : FnOk Try.prog 64 (Q64.D N) := by
 refine fo ⟨Try.f64, Try.func64, by kernel_rfl, by kernel_rfl, fun x y h => ⟨Q64.G N, Q64.A, N, gamOf_ok (fun p hp => nomatch hp), ?_⟩⟩ (Q64.fit N)
 rw [absFn_n (n0 := 1) rfl (by kernel_rfl)]
 refine (Q64.entry N (run tb (Q64.G N) Q64.A 1 (Q64.fin N x.1 x.2.1) N) x).trans ?_
 have e0 : (fun (best t14_ t15_ : Int) => run tb (Q64.G N) Q64.A 1 (Q64.fin N x.1 x.2.1) N Q64.k0 (Q64.st0 x.1 x.2.1 best t14_ t15_)) = Q64.l0 N x.1 x.2.1 N := by funext best t14_ t15_; exact (Q64.runs N x.1 x.2.1 N) best t14_ t15_
 have h' : (Q64.D N).f x = Q64.e N (Q64.l0 N x.1 x.2.1 N) x.1 x.2.1 := by kernel_rfl
 exact (congrArg (fun r0 => Q64.e N r0 x.1 x.2.1) e0).trans (h'.symm.trans h)
def Q66.as : List MK := [.o (.nd 111 107 (.slice 37 qc) (.prod tI (.prod tI .bool))) true, .d false .bool]
def Q66.rs : List (Bool × HT) := []
def Q66.lc (n_ : ((List TPN) × Int)) (own : Bool) : List AC := [.nr n_.2]
def Q66.D : DFn := ⟨Q66.as, Q66.rs, ((List TPN) × Int), fun x => Q66 N x.1 x.2.1, fun r o => o.1, fun b => (), fun b => (b, ()), none⟩
theorem Q66.fit : (Q66.D N).Fit := ⟨fun _ _ => rfl, fun _ _ => rfl, by kernel_rfl, (fun _ _ h => nomatch h), by kernel_rfl⟩
noncomputable def Q66.G (N : Nat) : Gam := gamOf []
def Q66.A : LA := fun k => bif Nat.beq k 0 then some ⟨[0, 1, 4, 5, 13, 14, 15], [], [], [], [], 1, false⟩ else none
noncomputable def Q66.fin (n_ : ((List TPN) × Int)) (own : Bool) : St → Option ((List TPN) × Int) := resK tb Try.f66.results.toList (decRes (Q66.D N) (Q66.lc n_ own))
noncomputable def Q66.k0 : List Item := stackAt [.r, .l, .r, .b] (bodyOf Try.f66) []
def Q66.st0 (n_ : ((List TPN) × Int)) (own : Bool) (least sum t14_ t15_ : Int) : St := ⟨[.one (.nr n_.2), .one (.bool own), oA, oA, oi least, oi sum] ++ rA 7 ++ [.one (.kd n_.2 ((gD dP n_.1 n_.2).2.1.length : Int)), oi t14_, oi t15_] ++ rA 41, [.arena 111 107 (.slice 37 qc) (.prod tI (.prod tI .bool)) n_.1 none]⟩
theorem Q66.step0 (rec : RK ((List TPN) × Int)) (n_ : ((List TPN) × Int)) (own : Bool) (least sum t14_ t15_ : Int) : seg tb (Q66.G N) Q66.A 1 rec (Q66.fin N n_ own) segFuel (loopBody Q66.k0) (Q66.st0 n_ own least sum t14_ t15_) = Q66.s0 N n_ own (fun least sum t14_ t15_ => rec Q66.k0 (Q66.st0 n_ own least sum t14_ t15_)) least sum t14_ t15_ := by kernel_rfl
theorem Q66.entry (rec : RK ((List TPN) × Int)) (x : (argH Q66.as).den) : seg tb (Q66.G N) Q66.A 1 rec (Q66.fin N x.1 x.2.1) segFuel [.code (bodyOf Try.f66)] (initSt Try.f66 (encArgs Q66.as x) (encMem Q66.as x)) = Q66.e N (fun least sum t14_ t15_ => rec Q66.k0 (Q66.st0 x.1 x.2.1 least sum t14_ t15_)) x.1 x.2.1 := by kernel_rfl
theorem Q66.runs (N : Nat) (n_ : ((List TPN) × Int)) (own : Bool) : ∀ n, (∀ (least sum t14_ t15_ : Int), run tb (Q66.G N) Q66.A 1 (Q66.fin N n_ own) n Q66.k0 (Q66.st0 n_ own least sum t14_ t15_) = Q66.l0 N n_ own n least sum t14_ t15_)
 | 0 => fun _ _ _ _ => rfl
 | n + 1 => by
  have h0 := Q66.runs N n_ own n
  have e0 : (fun (least sum t14_ t15_ : Int) => run tb (Q66.G N) Q66.A 1 (Q66.fin N n_ own) n Q66.k0 (Q66.st0 n_ own least sum t14_ t15_)) = Q66.l0 N n_ own n := by funext least sum t14_ t15_; exact h0 least sum t14_ t15_
  have g0 : (∀ (least sum t14_ t15_ : Int), run tb (Q66.G N) Q66.A 1 (Q66.fin N n_ own) (n + 1) Q66.k0 (Q66.st0 n_ own least sum t14_ t15_) = Q66.l0 N n_ own (n + 1) least sum t14_ t15_) := by
   intro least sum t14_ t15_
   exact (run_succ (by kernel_rfl)).trans ((Q66.step0 N _ n_ own least sum t14_ t15_).trans ((congrArg (fun r0 => Q66.s0 N n_ own r0 least sum t14_ t15_) e0).trans (Q66.l0_s N n_ own n least sum t14_ t15_).symm))
  exact g0
theorem Q66.ok : FnOk Try.prog 66 (Q66.D N) := by
 refine fo ⟨Try.f66, Try.func66, by kernel_rfl, by kernel_rfl, fun x y h => ⟨Q66.G N, Q66.A, N, gamOf_ok (fun p hp => nomatch hp), ?_⟩⟩ (Q66.fit N)
 rw [absFn_n (n0 := 1) rfl (by kernel_rfl)]
 refine (Q66.entry N (run tb (Q66.G N) Q66.A 1 (Q66.fin N x.1 x.2.1) N) x).trans ?_
 have e0 : (fun (least sum t14_ t15_ : Int) => run tb (Q66.G N) Q66.A 1 (Q66.fin N x.1 x.2.1) N Q66.k0 (Q66.st0 x.1 x.2.1 least sum t14_ t15_)) = Q66.l0 N x.1 x.2.1 N := by funext least sum t14_ t15_; exact (Q66.runs N x.1 x.2.1 N) least sum t14_ t15_
 have h' : (Q66.D N).f x = Q66.e N (Q66.l0 N x.1 x.2.1 N) x.1 x.2.1 := by kernel_rfl
 exact (congrArg (fun r0 => Q66.e N r0 x.1 x.2.1) e0).trans (h'.symm.trans h)
end
end Go.Proofs.Ytnddjmhpofhfjaa.Am
