/- PRINTED by gen.py: the abstract machine evaluates the loaded code to these functions. -/
import Derived.Test.YtlfhchkhbecmbaaEvd1
set_option linter.unusedVariables false
set_option linter.unusedSimpArgs false
namespace Go.Proofs.Ytlfhchkhbecmbaa.Am
open Go
noncomputable section
variable (N : Nat)
set_option maxRecDepth 100000
def Q53.as : List MK := [.d true qa, .d true qd, .d true qc, .d false (.int .u64)]
def Q53.rs : List (Bool × HT) := [(false, (.d (.int .u64)))]
def Q53.lc : List AC := []
def Q53.D : DFn := ⟨Q53.as, Q53.rs, Int, fun x => Q53 N x.1 x.2.1 x.2.2.1 x.2.2.2.1, fun r o => r.1, fun b => (b, ()), fun b => (), none⟩
theorem Q53.fit : (Q53.D N).Fit := ⟨fun _ _ => rfl, fun _ _ => rfl, by kernel_rfl, (fun _ _ h => nomatch h), by kernel_rfl⟩
noncomputable def Q53.G : Gam := gamOf [(45, Q45.D N), (47, Q47.D N), (46, Q46.D N), (54, Q54.D N), (55, Q55.D N)]
def Q53.A : LA := fun _ => none
noncomputable def Q53.fin : St → Option Int := resK tb Try.f53.results.toList (decRes (Q53.D N) Q53.lc)
theorem Q53.entry (rec : RK Int) (x : (argH Q53.as).den) : seg tb (Q53.G N) Q53.A 0 rec (Q53.fin N) segFuel [.code (bodyOf Try.f53)] (initSt Try.f53 (encArgs Q53.as x) (encMem Q53.as x)) = Q53.e N x.1 x.2.1 x.2.2.1 x.2.2.2.1 := by kernel_rfl
theorem Q53.ok : FnOk Try.prog 53 (Q53.D N) := by
 refine fo ⟨Try.f53, Try.func53, by kernel_rfl, by kernel_rfl, fun x y h => ⟨Q53.G N, Q53.A, N, gamOf_ok (gc ⟨Q45.ok N, Q45.fit N⟩ (gc ⟨Q47.ok N, Q47.fit N⟩ (gc ⟨Q46.ok N, Q46.fit N⟩ (gc ⟨Q54.ok N, Q54.fit N⟩ (gc ⟨Q55.ok N, Q55.fit N⟩ gn))))), ?_⟩⟩ (Q53.fit N)
 rw [absFn_n (n0 := 0) rfl (by kernel_rfl)]
 exact (Q53.entry N _ x).trans h
def Q37.as : List MK := [.o (.ptr 81 (.prod (.prod (.d .str) (.prod (.d tI) (.prod (.d tI) (.prod (.own 61 qb) (.prod (.own 3 tI) (.prod (.d .bool) (.prod (.d .bool) (.prod (.own 63 qe) (.d qc))))))))) (.prod (.prod (.own 3 tI) (.prod (.prod (.own 3 tI) (.own 3 tI)) (.d (.prod tI tI)))) (.prod (.d (.int .u64)) (.own 107 qf))))) true, .d true qc]
def Q37.rs : List (Bool × HT) := []
def Q37.lc : List AC := [.ptr 0 0]
def Q37.D : DFn := ⟨Q37.as, Q37.rs, TBoard, fun x => Q37 N x.1 x.2.1, fun r o => o.1, fun b => (), fun b => (b, ()), none⟩
theorem Q37.fit : (Q37.D N).Fit := ⟨fun _ _ => rfl, fun _ _ => rfl, by kernel_rfl, (fun _ _ h => nomatch h), by kernel_rfl⟩
noncomputable def Q37.G : Gam := gamOf [(53, Q53.D N), (54, Q54.D N), (55, Q55.D N)]
def Q37.A : LA := fun _ => none
noncomputable def Q37.fin : St → Option TBoard := resK tb Try.f37.results.toList (decRes (Q37.D N) Q37.lc)
theorem Q37.entry (rec : RK TBoard) (x : (argH Q37.as).den) : seg tb (Q37.G N) Q37.A 8 rec (Q37.fin N) segFuel [.code (bodyOf Try.f37)] (initSt Try.f37 (encArgs Q37.as x) (encMem Q37.as x)) = Q37.e N x.1 x.2.1 := by kernel_rfl
theorem Q37.ok : FnOk Try.prog 37 (Q37.D N) := by
 refine fo ⟨Try.f37, Try.func37, by kernel_rfl, by kernel_rfl, fun x y h => ⟨Q37.G N, Q37.A, N, gamOf_ok (gc ⟨Q53.ok N, Q53.fit N⟩ (gc ⟨Q54.ok N, Q54.fit N⟩ (gc ⟨Q55.ok N, Q55.fit N⟩ gn))), ?_⟩⟩ (Q37.fit N)
 rw [absFn_n (n0 := 8) rfl (by kernel_rfl)]
 exact (Q37.entry N _ x).trans h
def Q40.as : List MK := [.o (.ptr 81 (.prod (.prod (.d .str) (.prod (.d tI) (.prod (.d tI) (.prod (.own 61 qb) (.prod (.own 3 tI) (.prod (.d .bool) (.prod (.d .bool) (.prod (.own 63 qe) (.d qc))))))))) (.prod (.prod (.own 3 tI) (.prod (.prod (.own 3 tI) (.own 3 tI)) (.d (.prod tI tI)))) (.prod (.d (.int .u64)) (.own 107 qf))))) true]
def Q40.rs : List (Bool × HT) := [(false, (.d tI))]
def Q40.lc : List AC := [.ptr 0 0]
def Q40.D : DFn := ⟨Q40.as, Q40.rs, (Int × TBoard), fun x => Q40 N x.1, fun r o => (r.1, o.1), fun b => (b.1, ()), fun b => (b.2, ()), none⟩
theorem Q40.fit : (Q40.D N).Fit := ⟨fun _ _ => rfl, fun _ _ => rfl, by kernel_rfl, (fun _ _ h => nomatch h), by kernel_rfl⟩
noncomputable def Q40.G : Gam := gamOf [(54, Q54.D N)]
def Q40.A : LA := fun _ => none
noncomputable def Q40.fin : St → Option (Int × TBoard) := resK tb Try.f40.results.toList (decRes (Q40.D N) Q40.lc)
theorem Q40.entry (rec : RK (Int × TBoard)) (x : (argH Q40.as).den) : seg tb (Q40.G N) Q40.A 8 rec (Q40.fin N) segFuel [.code (bodyOf Try.f40)] (initSt Try.f40 (encArgs Q40.as x) (encMem Q40.as x)) = Q40.e N x.1 := by kernel_rfl
theorem Q40.ok : FnOk Try.prog 40 (Q40.D N) := by
 refine fo ⟨Try.f40, Try.func40, by kernel_rfl, by kernel_rfl, fun x y h => ⟨Q40.G N, Q40.A, N, gamOf_ok (gc ⟨Q54.ok N, Q54.fit N⟩ gn), ?_⟩⟩ (Q40.fit N)
 rw [absFn_n (n0 := 8) rfl (by kernel_rfl)]
 exact (Q40.entry N _ x).trans h
def Q24.as : List MK := [.o (.ptr 69 (.d tI)) true, .o (.ptr 81 (.prod (.prod (.d .str) (.prod (.d tI) (.prod (.d tI) (.prod (.own 61 qb) (.prod (.own 3 tI) (.prod (.d .bool) (.prod (.d .bool) (.prod (.own 63 qe) (.d qc))))))))) (.prod (.prod (.own 3 tI) (.prod (.prod (.own 3 tI) (.own 3 tI)) (.d (.prod tI tI)))) (.prod (.d (.int .u64)) (.own 107 qf))))) true, .d false tI]
def Q24.rs : List (Bool × HT) := [(false, (.d tI))]
def Q24.lc : List AC := [.ptr 0 0, .ptr 1 0]
def Q24.D : DFn := ⟨Q24.as, Q24.rs, (Int × Int × TBoard), fun x => Q24 N x.1 x.2.1 x.2.2.1, fun r o => (r.1, o.1, o.2.1), fun b => (b.1, ()), fun b => (b.2.1, (b.2.2, ())), none⟩
theorem Q24.fit : (Q24.D N).Fit := ⟨fun _ _ => rfl, fun _ _ => rfl, by kernel_rfl, (fun _ _ h => nomatch h), by kernel_rfl⟩
noncomputable def Q24.G : Gam := gamOf [(36, Q36.D N), (37, Q37.D N), (40, Q40.D N), (24, Q24.D N)]
def Q24.A : LA := fun k => bif Nat.beq k 0 then some ⟨[0, 1, 2, 7, 27, 28, 29], [], [], [(true, 1, 3, 10), (true, 1, 4, 11), (true, 1, 7, 12), (true, 1, 11, 13), (true, 1, 12, 14), (true, 1, 13, 15), (true, 1, 17, 16)], [], 17, false⟩ else none
noncomputable def Q24.fin : St → Option (Int × Int × TBoard) := resK tb Try.f24.results.toList (decRes (Q24.D (N + 1)) Q24.lc)
noncomputable def Q24.k0 : List Item := stackAt [.r, .r, .r, .l, .r, .b] (bodyOf Try.f24) []
def Q24.st0 (c_ : Int) (b_ : TBoard) (depth n_ t28_ t29_ c_2 : Int) (b_2 : ByteArray) (b_3 b_4 : Int) (b_5 b_6 : Bool) (b_7 b_8 b_9 b_10 b_11 b_12 : Int) (m9_ : LMv) (m10_ : (List TPiece)) (m11_ : LInt) (m12_ : (List TEnd)) (m13_ m14_ m15_ : LInt) (m16_ : (List TUndo)) : St := ⟨[.one (.ptr 0 0), .one (.ptr 1 0), oi depth] ++ rA 4 ++ [oi n_] ++ rA 19 ++ [.one (.own 9), oi t28_, oi t29_] ++ rA 22, [.var 69 [.int .i64 c_2], .var 81 [.str b_2, .int .i64 b_3, .int .i64 b_4, .own 10, .own 11, .bool b_5, .bool b_6, .own 12, .int .i64 b_7, .int .i64 b_8, .int .i64 b_9, .own 13, .own 14, .own 15, .int .i64 b_10, .int .i64 b_11, .int .u64 b_12, .own 16], .gone, .gone, .gone, .gone, .gone, .gone, .gone, .row 31 qc m9_, .row 61 qb m10_, .row 3 tI m11_, .row 63 qe m12_, .row 3 tI m13_, .row 3 tI m14_, .row 3 tI m15_, .row 107 qf m16_]⟩
theorem Q24.step0 (rec : RK (Int × Int × TBoard)) (c_ : Int) (b_ : TBoard) (depth n_ t28_ t29_ c_2 : Int) (b_2 : ByteArray) (b_3 b_4 : Int) (b_5 b_6 : Bool) (b_7 b_8 b_9 b_10 b_11 b_12 : Int) (m9_ : LMv) (m10_ : (List TPiece)) (m11_ : LInt) (m12_ : (List TEnd)) (m13_ m14_ m15_ : LInt) (m16_ : (List TUndo)) : seg tb (Q24.G N) Q24.A 9 rec (Q24.fin N) segFuel (loopBody Q24.k0) (Q24.st0 c_ b_ depth n_ t28_ t29_ c_2 b_2 b_3 b_4 b_5 b_6 b_7 b_8 b_9 b_10 b_11 b_12 m9_ m10_ m11_ m12_ m13_ m14_ m15_ m16_) = Q24.s0 N (Q24 N) c_ b_ depth (fun n_ t28_ t29_ c_2 b_2 b_3 b_4 b_5 b_6 b_7 b_8 b_9 b_10 b_11 b_12 m9_ m10_ m11_ m12_ m13_ m14_ m15_ m16_ => rec Q24.k0 (Q24.st0 c_ b_ depth n_ t28_ t29_ c_2 b_2 b_3 b_4 b_5 b_6 b_7 b_8 b_9 b_10 b_11 b_12 m9_ m10_ m11_ m12_ m13_ m14_ m15_ m16_)) n_ t28_ t29_ c_2 b_2 b_3 b_4 b_5 b_6 b_7 b_8 b_9 b_10 b_11 b_12 m9_ m10_ m11_ m12_ m13_ m14_ m15_ m16_ := by kernel_rfl
theorem Q24.entry (rec : RK (Int × Int × TBoard)) (x : (argH Q24.as).den) : seg tb (Q24.G N) Q24.A 9 rec (Q24.fin N) segFuel [.code (bodyOf Try.f24)] (initSt Try.f24 (encArgs Q24.as x) (encMem Q24.as x)) = Q24.e N (Q24 N) (fun n_ t28_ t29_ c_2 b_2 b_3 b_4 b_5 b_6 b_7 b_8 b_9 b_10 b_11 b_12 m9_ m10_ m11_ m12_ m13_ m14_ m15_ m16_ => rec Q24.k0 (Q24.st0 x.1 x.2.1 x.2.2.1 n_ t28_ t29_ c_2 b_2 b_3 b_4 b_5 b_6 b_7 b_8 b_9 b_10 b_11 b_12 m9_ m10_ m11_ m12_ m13_ m14_ m15_ m16_)) x.1 x.2.1 x.2.2.1 := by kernel_rfl
theorem Q24.runs (N : Nat) (c_ : Int) (b_ : TBoard) (depth : Int) : ∀ n, (∀ (n_ t28_ t29_ c_2 : Int) (b_2 : ByteArray) (b_3 b_4 : Int) (b_5 b_6 : Bool) (b_7 b_8 b_9 b_10 b_11 b_12 : Int) (m9_ : LMv) (m10_ : (List TPiece)) (m11_ : LInt) (m12_ : (List TEnd)) (m13_ m14_ m15_ : LInt) (m16_ : (List TUndo)), run tb (Q24.G N) Q24.A 9 (Q24.fin N) n Q24.k0 (Q24.st0 c_ b_ depth n_ t28_ t29_ c_2 b_2 b_3 b_4 b_5 b_6 b_7 b_8 b_9 b_10 b_11 b_12 m9_ m10_ m11_ m12_ m13_ m14_ m15_ m16_) = Q24.l0 N (Q24 N) c_ b_ depth n n_ t28_ t29_ c_2 b_2 b_3 b_4 b_5 b_6 b_7 b_8 b_9 b_10 b_11 b_12 m9_ m10_ m11_ m12_ m13_ m14_ m15_ m16_)
 | 0 => fun _ _ _ _ _ _ _ _ _ _ _ _ _ _ _ _ _ _ _ _ _ _ _ => rfl
 | n + 1 => by
  have h0 := Q24.runs N c_ b_ depth n
  have e0 : (fun (n_ t28_ t29_ c_2 : Int) (b_2 : ByteArray) (b_3 b_4 : Int) (b_5 b_6 : Bool) (b_7 b_8 b_9 b_10 b_11 b_12 : Int) (m9_ : LMv) (m10_ : (List TPiece)) (m11_ : LInt) (m12_ : (List TEnd)) (m13_ m14_ m15_ : LInt) (m16_ : (List TUndo)) => run tb (Q24.G N) Q24.A 9 (Q24.fin N) n Q24.k0 (Q24.st0 c_ b_ depth n_ t28_ t29_ c_2 b_2 b_3 b_4 b_5 b_6 b_7 b_8 b_9 b_10 b_11 b_12 m9_ m10_ m11_ m12_ m13_ m14_ m15_ m16_)) = Q24.l0 N (Q24 N) c_ b_ depth n := by funext n_ t28_ t29_ c_2 b_2 b_3 b_4 b_5 b_6 b_7 b_8 b_9 b_10 b_11 b_12 m9_ m10_ m11_ m12_ m13_ m14_ m15_ m16_; exact h0 n_ t28_ t29_ c_2 b_2 b_3 b_4 b_5 b_6 b_7 b_8 b_9 b_10 b_11 b_12 m9_ m10_ m11_ m12_ m13_ m14_ m15_ m16_
  have g0 : (∀ (n_ t28_ t29_ c_2 : Int) (b_2 : ByteArray) (b_3 b_4 : Int) (b_5 b_6 : Bool) (b_7 b_8 b_9 b_10 b_11 b_12 : Int) (m9_ : LMv) (m10_ : (List TPiece)) (m11_ : LInt) (m12_ : (List TEnd)) (m13_ m14_ m15_ : LInt) (m16_ : (List TUndo)), run tb (Q24.G N) Q24.A 9 (Q24.fin N) (n + 1) Q24.k0 (Q24.st0 c_ b_ depth n_ t28_ t29_ c_2 b_2 b_3 b_4 b_5 b_6 b_7 b_8 b_9 b_10 b_11 b_12 m9_ m10_ m11_ m12_ m13_ m14_ m15_ m16_) = Q24.l0 N (Q24 N) c_ b_ depth (n + 1) n_ t28_ t29_ c_2 b_2 b_3 b_4 b_5 b_6 b_7 b_8 b_9 b_10 b_11 b_12 m9_ m10_ m11_ m12_ m13_ m14_ m15_ m16_) := by
   intro n_ t28_ t29_ c_2 b_2 b_3 b_4 b_5 b_6 b_7 b_8 b_9 b_10 b_11 b_12 m9_ m10_ m11_ m12_ m13_ m14_ m15_ m16_
   exact (run_succ (by kernel_rfl)).trans ((Q24.step0 N _ c_ b_ depth n_ t28_ t29_ c_2 b_2 b_3 b_4 b_5 b_6 b_7 b_8 b_9 b_10 b_11 b_12 m9_ m10_ m11_ m12_ m13_ m14_ m15_ m16_).trans ((congrArg (fun r0 => Q24.s0 N (Q24 N) c_ b_ depth r0 n_ t28_ t29_ c_2 b_2 b_3 b_4 b_5 b_6 b_7 b_8 b_9 b_10 b_11 b_12 m9_ m10_ m11_ m12_ m13_ m14_ m15_ m16_) e0).trans (Q24.l0_s N (Q24 N) c_ b_ depth n n_ t28_ t29_ c_2 b_2 b_3 b_4 b_5 b_6 b_7 b_8 b_9 b_10 b_11 b_12 m9_ m10_ m11_ m12_ m13_ m14_ m15_ m16_).symm))
  exact g0
theorem Q24.ok1 (ih : FnOk Try.prog 24 (Q24.D N)) : FnOk Try.prog 24 (Q24.D (N + 1)) := by
 refine fo ⟨Try.f24, Try.func24, by kernel_rfl, by kernel_rfl, fun x y h => ⟨Q24.G N, Q24.A, N, gamOf_ok (by simp only [List.forall_mem_cons, List.not_mem_nil, false_implies, implies_true, and_true]; exact ⟨⟨Q36.ok N, Q36.fit N⟩, ⟨Q37.ok N, Q37.fit N⟩, ⟨Q40.ok N, Q40.fit N⟩, ⟨ih, Q24.fit N⟩⟩), ?_⟩⟩ (Q24.fit (N + 1))
 rw [absFn_n (n0 := 9) rfl (by kernel_rfl)]
 refine (Q24.entry N (run tb (Q24.G N) Q24.A 9 (Q24.fin N) N) x).trans ?_
 have e0 : (fun (n_ t28_ t29_ c_2 : Int) (b_2 : ByteArray) (b_3 b_4 : Int) (b_5 b_6 : Bool) (b_7 b_8 b_9 b_10 b_11 b_12 : Int) (m9_ : LMv) (m10_ : (List TPiece)) (m11_ : LInt) (m12_ : (List TEnd)) (m13_ m14_ m15_ : LInt) (m16_ : (List TUndo)) => run tb (Q24.G N) Q24.A 9 (Q24.fin N) N Q24.k0 (Q24.st0 x.1 x.2.1 x.2.2.1 n_ t28_ t29_ c_2 b_2 b_3 b_4 b_5 b_6 b_7 b_8 b_9 b_10 b_11 b_12 m9_ m10_ m11_ m12_ m13_ m14_ m15_ m16_)) = Q24.l0 N (Q24 N) x.1 x.2.1 x.2.2.1 N := by funext n_ t28_ t29_ c_2 b_2 b_3 b_4 b_5 b_6 b_7 b_8 b_9 b_10 b_11 b_12 m9_ m10_ m11_ m12_ m13_ m14_ m15_ m16_; exact (Q24.runs N x.1 x.2.1 x.2.2.1 N) n_ t28_ t29_ c_2 b_2 b_3 b_4 b_5 b_6 b_7 b_8 b_9 b_10 b_11 b_12 m9_ m10_ m11_ m12_ m13_ m14_ m15_ m16_
 have h' : (Q24.D (N + 1)).f x = Q24.e N (Q24 N) (Q24.l0 N (Q24 N) x.1 x.2.1 x.2.2.1 N) x.1 x.2.1 x.2.2.1 := by kernel_rfl
 exact (congrArg (fun r0 => Q24.e N (Q24 N) r0 x.1 x.2.1 x.2.2.1) e0).trans (h'.symm.trans h)
theorem Q24.ok : ∀ N, FnOk Try.prog 24 (Q24.D N)
 | 0 => FnOk_none Try.func24 (by kernel_rfl) (by kernel_rfl) (fun x => rfl)
 | N + 1 => Q24.ok1 N (Q24.ok N)
def Q12.as : List MK := [.d true qa, .d true qd, .d false tI]
def Q12.rs : List (Bool × HT) := [(false, (.d tI)), (false, (.d tI))]
def Q12.lc : List AC := []
def Q12.D : DFn := ⟨Q12.as, Q12.rs, (Int × Int), fun x => Q12 N x.1 x.2.1 x.2.2.1, fun r o => (r.1, r.2.1), fun b => (b.1, (b.2, ())), fun b => (), none⟩
theorem Q12.fit : (Q12.D N).Fit := ⟨fun _ _ => rfl, fun _ _ => rfl, by kernel_rfl, (fun _ _ h => nomatch h), by kernel_rfl⟩
noncomputable def Q12.G : Gam := gamOf [(23, Q23.D N), (24, Q24.D N)]
def Q12.A : LA := fun _ => none
noncomputable def Q12.fin : St → Option (Int × Int) := resK tb Try.f12.results.toList (decRes (Q12.D N) Q12.lc)
theorem Q12.entry (rec : RK (Int × Int)) (x : (argH Q12.as).den) : seg tb (Q12.G N) Q12.A 0 rec (Q12.fin N) segFuel [.code (bodyOf Try.f12)] (initSt Try.f12 (encArgs Q12.as x) (encMem Q12.as x)) = Q12.e N x.1 x.2.1 x.2.2.1 := by kernel_rfl
theorem Q12.ok : FnOk Try.prog 12 (Q12.D N) := by
 refine fo ⟨Try.f12, Try.func12, by kernel_rfl, by kernel_rfl, fun x y h => ⟨Q12.G N, Q12.A, N, gamOf_ok (gc ⟨Q23.ok N, Q23.fit N⟩ (gc ⟨Q24.ok N, Q24.fit N⟩ gn)), ?_⟩⟩ (Q12.fit N)
 rw [absFn_n (n0 := 0) rfl (by kernel_rfl)]
 exact (Q12.entry N _ x).trans h
def Q16.as : List MK := [.d true qa, .d true qd, .d false tI, .d false tI]
def Q16.rs : List (Bool × HT) := [(false, (.d tI)), (false, (.d tI))]
def Q16.lc : List AC := []
def Q16.D : DFn := ⟨Q16.as, Q16.rs, (Int × Int), fun x => Q16 N x.1 x.2.1 x.2.2.1 x.2.2.2.1, fun r o => (r.1, r.2.1), fun b => (b.1, (b.2, ())), fun b => (), none⟩
theorem Q16.fit : (Q16.D N).Fit := ⟨fun _ _ => rfl, fun _ _ => rfl, by kernel_rfl, (fun _ _ h => nomatch h), by kernel_rfl⟩
noncomputable def Q16.G : Gam := gamOf [(12, Q12.D N)]
def Q16.A : LA := fun k => bif Nat.beq k 0 then some ⟨[2, 3, 4, 5, 10, 11, 12], [], [], [], [], 2, false⟩ else none
noncomputable def Q16.fin : St → Option (Int × Int) := resK tb Try.f16.results.toList (decRes (Q16.D N) Q16.lc)
noncomputable def Q16.k0 : List Item := stackAt [.r, .r, .l, .r, .b] (bodyOf Try.f16) []
def Q16.st0 (r_ : TRules) (p_ : TPos) (depth budget best many d_ : Int) : St := ⟨[oA, oA, oi depth, oi budget, .one (.ptr 0 0), .one (.ptr 1 0)] ++ rA 4 ++ [oi best, oi many, oi d_] ++ rA 25, [vR r_, vP p_]⟩
theorem Q16.step0 (rec : RK (Int × Int)) (r_ : TRules) (p_ : TPos) (depth budget best many d_ : Int) : seg tb (Q16.G N) Q16.A 0 rec (Q16.fin N) segFuel (loopBody Q16.k0) (Q16.st0 r_ p_ depth budget best many d_) = Q16.s0 N r_ p_ depth budget (fun best many d_ => rec Q16.k0 (Q16.st0 r_ p_ depth budget best many d_)) best many d_ := by kernel_rfl
theorem Q16.entry (rec : RK (Int × Int)) (x : (argH Q16.as).den) : seg tb (Q16.G N) Q16.A 0 rec (Q16.fin N) segFuel [.code (bodyOf Try.f16)] (initSt Try.f16 (encArgs Q16.as x) (encMem Q16.as x)) = Q16.e N (fun best many d_ => rec Q16.k0 (Q16.st0 x.1 x.2.1 x.2.2.1 x.2.2.2.1 best many d_)) x.1 x.2.1 x.2.2.1 x.2.2.2.1 := by kernel_rfl
theorem Q16.runs (N : Nat) (r_ : TRules) (p_ : TPos) (depth budget : Int) : ∀ n, (∀ (best many d_ : Int), run tb (Q16.G N) Q16.A 0 (Q16.fin N) n Q16.k0 (Q16.st0 r_ p_ depth budget best many d_) = Q16.l0 N r_ p_ depth budget n best many d_)
 | 0 => fun _ _ _ => rfl
 | n + 1 => by
  have h0 := Q16.runs N r_ p_ depth budget n
  have e0 : (fun (best many d_ : Int) => run tb (Q16.G N) Q16.A 0 (Q16.fin N) n Q16.k0 (Q16.st0 r_ p_ depth budget best many d_)) = Q16.l0 N r_ p_ depth budget n := by funext best many d_; exact h0 best many d_
  have g0 : (∀ (best many d_ : Int), run tb (Q16.G N) Q16.A 0 (Q16.fin N) (n + 1) Q16.k0 (Q16.st0 r_ p_ depth budget best many d_) = Q16.l0 N r_ p_ depth budget (n + 1) best many d_) := by
   intro best many d_
   exact (run_succ (by kernel_rfl)).trans ((Q16.step0 N _ r_ p_ depth budget best many d_).trans ((congrArg (fun r0 => Q16.s0 N r_ p_ depth budget r0 best many d_) e0).trans (Q16.l0_s N r_ p_ depth budget n best many d_).symm))
  exact g0
theorem Q16.ok : FnOk Try.prog 16 (Q16.D N) := by
 refine fo ⟨Try.f16, Try.func16, by kernel_rfl, by kernel_rfl, fun x y h => ⟨Q16.G N, Q16.A, N, gamOf_ok (gc ⟨Q12.ok N, Q12.fit N⟩ gn), ?_⟩⟩ (Q16.fit N)
 rw [absFn_n (n0 := 0) rfl (by kernel_rfl)]
 refine (Q16.entry N (run tb (Q16.G N) Q16.A 0 (Q16.fin N) N) x).trans ?_
 have e0 : (fun (best many d_ : Int) => run tb (Q16.G N) Q16.A 0 (Q16.fin N) N Q16.k0 (Q16.st0 x.1 x.2.1 x.2.2.1 x.2.2.2.1 best many d_)) = Q16.l0 N x.1 x.2.1 x.2.2.1 x.2.2.2.1 N := by funext best many d_; exact (Q16.runs N x.1 x.2.1 x.2.2.1 x.2.2.2.1 N) best many d_
 have h' : (Q16.D N).f x = Q16.e N (Q16.l0 N x.1 x.2.1 x.2.2.1 x.2.2.2.1 N) x.1 x.2.1 x.2.2.1 x.2.2.2.1 := by kernel_rfl
 exact (congrArg (fun r0 => Q16.e N r0 x.1 x.2.1 x.2.2.1 x.2.2.2.1) e0).trans (h'.symm.trans h)
def Q17.as : List MK := [.o (.mp false true tI qc) false]
def Q17.rs : List (Bool × HT) := [(false, (.clo 32 56 (.mp false true tI qc)))]
def Q17.lc : List AC := []
def Q17.D : DFn := ⟨Q17.as, Q17.rs, (List TWay), fun x => Q17 N x.1, fun r o => r.1, fun b => (b, ()), fun b => (), none⟩
theorem Q17.fit : (Q17.D N).Fit := ⟨fun _ _ => rfl, fun _ _ => rfl, by kernel_rfl, (fun _ _ h => nomatch h), by kernel_rfl⟩
noncomputable def Q17.G (N : Nat) : Gam := gamOf []
def Q17.A : LA := fun _ => none
noncomputable def Q17.fin : St → Option (List TWay) := resK tb Try.f17.results.toList (decRes (Q17.D N) Q17.lc)
theorem Q17.entry (rec : RK (List TWay)) (x : (argH Q17.as).den) : seg tb (Q17.G N) Q17.A 1 rec (Q17.fin N) segFuel [.code (bodyOf Try.f17)] (initSt Try.f17 (encArgs Q17.as x) (encMem Q17.as x)) = Q17.e N x.1 := by kernel_rfl
theorem Q17.ok : FnOk Try.prog 17 (Q17.D N) := by
 refine fo ⟨Try.f17, Try.func17, by kernel_rfl, by kernel_rfl, fun x y h => ⟨Q17.G N, Q17.A, N, gamOf_ok (fun p hp => nomatch hp), ?_⟩⟩ (Q17.fit N)
 rw [absFn_n (n0 := 1) rfl (by kernel_rfl)]
 exact (Q17.entry N _ x).trans h
def Q57.as : List MK := [.r (.prod qa (.prod qd (.prod (.int .u64) (.slice 107 qf))))]
def Q57.rs : List (Bool × HT) := [(false, (.d tI))]
def Q57.lc : List AC := []
def Q57.D : DFn := ⟨Q57.as, Q57.rs, Int, fun x => Q57 N x.1, fun r o => r.1, fun b => (b, ()), fun b => (), none⟩
theorem Q57.fit : (Q57.D N).Fit := ⟨fun _ _ => rfl, fun _ _ => rfl, by kernel_rfl, (fun _ _ h => nomatch h), by kernel_rfl⟩
noncomputable def Q57.G (N : Nat) : Gam := gamOf []
def Q57.A : LA := fun _ => none
noncomputable def Q57.fin : St → Option Int := resK tb Try.f57.results.toList (decRes (Q57.D N) Q57.lc)
theorem Q57.entry (rec : RK Int) (x : (argH Q57.as).den) : seg tb (Q57.G N) Q57.A 0 rec (Q57.fin N) segFuel [.code (bodyOf Try.f57)] (initSt Try.f57 (encArgs Q57.as x) (encMem Q57.as x)) = Q57.e N x.1 := by kernel_rfl
theorem Q57.ok : FnOk Try.prog 57 (Q57.D N) := by
 refine fo ⟨Try.f57, Try.func57, by kernel_rfl, by kernel_rfl, fun x y h => ⟨Q57.G N, Q57.A, N, gamOf_ok (fun p hp => nomatch hp), ?_⟩⟩ (Q57.fit N)
 rw [absFn_n (n0 := 0) rfl (by kernel_rfl)]
 exact (Q57.entry N _ x).trans h
def Q56.as : List MK := [.d false tI, .d false tI]
def Q56.rs : List (Bool × HT) := [(false, (.d tI))]
def Q56.lc : List AC := []
def Q56.D : DFn := ⟨Q56.as, Q56.rs, Int, fun x => Q56 N x.1 x.2.1, fun r o => r.1, fun b => (b, ()), fun b => (), none⟩
theorem Q56.fit : (Q56.D N).Fit := ⟨fun _ _ => rfl, fun _ _ => rfl, by kernel_rfl, (fun _ _ h => nomatch h), by kernel_rfl⟩
noncomputable def Q56.G : Gam := gamOf [(49, Q49.D N)]
def Q56.A : LA := fun _ => none
noncomputable def Q56.fin : St → Option Int := resK tb Try.f56.results.toList (decRes (Q56.D N) Q56.lc)
theorem Q56.entry (rec : RK Int) (x : (argH Q56.as).den) : seg tb (Q56.G N) Q56.A 0 rec (Q56.fin N) segFuel [.code (bodyOf Try.f56)] (initSt Try.f56 (encArgs Q56.as x) (encMem Q56.as x)) = Q56.e N x.1 x.2.1 := by kernel_rfl
theorem Q56.ok : FnOk Try.prog 56 (Q56.D N) := by
 refine fo ⟨Try.f56, Try.func56, by kernel_rfl, by kernel_rfl, fun x y h => ⟨Q56.G N, Q56.A, N, gamOf_ok (gc ⟨Q49.ok N, Q49.fit N⟩ gn), ?_⟩⟩ (Q56.fit N)
 rw [absFn_n (n0 := 0) rfl (by kernel_rfl)]
 exact (Q56.entry N _ x).trans h
def Q33.as : List MK := [.d false (.slice 31 qc), .d true qc]
def Q33.rs : List (Bool × HT) := [(false, (.d tI))]
def Q33.lc : List AC := []
def Q33.D : DFn := ⟨Q33.as, Q33.rs, Int, fun x => Q33 N x.1 x.2.1, fun r o => r.1, fun b => (b, ()), fun b => (), none⟩
theorem Q33.fit : (Q33.D N).Fit := ⟨fun _ _ => rfl, fun _ _ => rfl, by kernel_rfl, (fun _ _ h => nomatch h), by kernel_rfl⟩
noncomputable def Q33.G (N : Nat) : Gam := gamOf []
def Q33.A : LA := fun k => bif Nat.beq k 0 then some ⟨[0, 3, 7, 8], [], [], [], [], 1, false⟩ else none
noncomputable def Q33.fin : St → Option Int := resK tb Try.f33.results.toList (decRes (Q33.D N) Q33.lc)
noncomputable def Q33.k0 : List Item := stackAt [.r, .l, .r, .b] (bodyOf Try.f33) []
def Q33.st0 (s_ : LMv) (v_ : TMv) (t8_ : Int) : St := ⟨[.one (.fro 31 qc s_), oA, oA, .one (.ptr 0 0)] ++ rA 3 ++ [oi (s_.length : Int), oi t8_] ++ rA 10, [.var 31 [.int .i64 v_.1, .int .i64 v_.2.1, .int .i64 v_.2.2]]⟩
theorem Q33.step0 (rec : RK Int) (s_ : LMv) (v_ : TMv) (t8_ : Int) : seg tb (Q33.G N) Q33.A 0 rec (Q33.fin N) segFuel (loopBody Q33.k0) (Q33.st0 s_ v_ t8_) = Q33.s0 N s_ v_ (fun t8_ => rec Q33.k0 (Q33.st0 s_ v_ t8_)) t8_ := by kernel_rfl
theorem Q33.entry (rec : RK Int) (x : (argH Q33.as).den) : seg tb (Q33.G N) Q33.A 0 rec (Q33.fin N) segFuel [.code (bodyOf Try.f33)] (initSt Try.f33 (encArgs Q33.as x) (encMem Q33.as x)) = Q33.e N (fun t8_ => rec Q33.k0 (Q33.st0 x.1 x.2.1 t8_)) x.1 x.2.1 := by kernel_rfl
theorem Q33.runs (N : Nat) (s_ : LMv) (v_ : TMv) : ∀ n, (∀ (t8_ : Int), run tb (Q33.G N) Q33.A 0 (Q33.fin N) n Q33.k0 (Q33.st0 s_ v_ t8_) = Q33.l0 N s_ v_ n t8_)
 | 0 => fun _ => rfl
 | n + 1 => by
  have h0 := Q33.runs N s_ v_ n
  have e0 : (fun (t8_ : Int) => run tb (Q33.G N) Q33.A 0 (Q33.fin N) n Q33.k0 (Q33.st0 s_ v_ t8_)) = Q33.l0 N s_ v_ n := by funext t8_; exact h0 t8_
  have g0 : (∀ (t8_ : Int), run tb (Q33.G N) Q33.A 0 (Q33.fin N) (n + 1) Q33.k0 (Q33.st0 s_ v_ t8_) = Q33.l0 N s_ v_ (n + 1) t8_) := by
   intro t8_
   exact (run_succ (by kernel_rfl)).trans ((Q33.step0 N _ s_ v_ t8_).trans ((congrArg (fun r0 => Q33.s0 N s_ v_ r0 t8_) e0).trans (Q33.l0_s N s_ v_ n t8_).symm))
  exact g0
theorem Q33.ok : FnOk Try.prog 33 (Q33.D N) := by
 refine fo ⟨Try.f33, Try.func33, by kernel_rfl, by kernel_rfl, fun x y h => ⟨Q33.G N, Q33.A, N, gamOf_ok (fun p hp => nomatch hp), ?_⟩⟩ (Q33.fit N)
 rw [absFn_n (n0 := 0) rfl (by kernel_rfl)]
 refine (Q33.entry N (run tb (Q33.G N) Q33.A 0 (Q33.fin N) N) x).trans ?_
 have e0 : (fun (t8_ : Int) => run tb (Q33.G N) Q33.A 0 (Q33.fin N) N Q33.k0 (Q33.st0 x.1 x.2.1 t8_)) = Q33.l0 N x.1 x.2.1 N := by funext t8_; exact (Q33.runs N x.1 x.2.1 N) t8_
 have h' : (Q33.D N).f x = Q33.e N (Q33.l0 N x.1 x.2.1 N) x.1 x.2.1 := by kernel_rfl
 exact (congrArg (fun r0 => Q33.e N r0 x.1 x.2.1) e0).trans (h'.symm.trans h)
def Q38.as : List MK := [.d false tI]
def Q38.rs : List (Bool × HT) := [(false, (.d tI))]
def Q38.lc : List AC := []
def Q38.D : DFn := ⟨Q38.as, Q38.rs, Int, fun x => Q38 N x.1, fun r o => r.1, fun b => (b, ()), fun b => (), none⟩
theorem Q38.fit : (Q38.D N).Fit := ⟨fun _ _ => rfl, fun _ _ => rfl, by kernel_rfl, (fun _ _ h => nomatch h), by kernel_rfl⟩
noncomputable def Q38.G (N : Nat) : Gam := gamOf []
def Q38.A : LA := fun _ => none
noncomputable def Q38.fin : St → Option Int := resK tb Try.f38.results.toList (decRes (Q38.D N) Q38.lc)
theorem Q38.entry (rec : RK Int) (x : (argH Q38.as).den) : seg tb (Q38.G N) Q38.A 0 rec (Q38.fin N) segFuel [.code (bodyOf Try.f38)] (initSt Try.f38 (encArgs Q38.as x) (encMem Q38.as x)) = Q38.e N x.1 := by kernel_rfl
theorem Q38.ok : FnOk Try.prog 38 (Q38.D N) := by
 refine fo ⟨Try.f38, Try.func38, by kernel_rfl, by kernel_rfl, fun x y h => ⟨Q38.G N, Q38.A, N, gamOf_ok (fun p hp => nomatch hp), ?_⟩⟩ (Q38.fit N)
 rw [absFn_n (n0 := 0) rfl (by kernel_rfl)]
 exact (Q38.entry N _ x).trans h
def Q39.as : List MK := [.o (.ptr 89 (.d tI)) true, .o (.ptr 81 (.prod (.prod (.d .str) (.prod (.d tI) (.prod (.d tI) (.prod (.own 61 qb) (.prod (.own 3 tI) (.prod (.d .bool) (.prod (.d .bool) (.prod (.own 63 qe) (.d qc))))))))) (.prod (.prod (.own 3 tI) (.prod (.prod (.own 3 tI) (.own 3 tI)) (.d (.prod tI tI)))) (.prod (.d (.int .u64)) (.own 107 qf))))) true, .d false tI, .d false tI, .d false tI, .o (.clo 32 56 (.mp false true tI qc)) true]
def Q39.rs : List (Bool × HT) := [(false, (.d tI))]
def Q39.lc : List AC := [.ptr 0 0, .ptr 1 0, .clo 32 9]
def Q39.D : DFn := ⟨Q39.as, Q39.rs, (Int × Int × TBoard × (List TWay)), fun x => Q39 N x.1 x.2.1 x.2.2.1 x.2.2.2.1 x.2.2.2.2.1 x.2.2.2.2.2.1, fun r o => (r.1, o.1, o.2.1, o.2.2.1), fun b => (b.1, ()), fun b => (b.2.1, (b.2.2.1, (b.2.2.2, ()))), none⟩
theorem Q39.fit : (Q39.D N).Fit := ⟨fun _ _ => rfl, fun _ _ => rfl, by kernel_rfl, (fun _ _ h => nomatch h), by kernel_rfl⟩
noncomputable def Q39.G : Gam := gamI tb [(32, (Try.f32, imA [3000034, 3000035], gamOf [(33, Q33.D N), (35, slices_Delete.D N), (34, slices_Insert.D N)]))] [(15, Q15.D N), (57, Q57.D N), (56, Q56.D N), (36, Q36.D N), (37, Q37.D N), (38, Q38.D N), (40, Q40.D N), (39, Q39.D N)]
def Q39.A : LA := fun k => bif Nat.beq k 0 then some ⟨[0, 1, 2, 4, 5, 14, 48, 49, 50], [], [], [(false, 48, 0, 15), (true, 1, 3, 16), (true, 1, 4, 17), (true, 1, 7, 18), (true, 1, 11, 19), (true, 1, 12, 20), (true, 1, 13, 21), (true, 1, 17, 22), (true, 9, 0, 23)], [12], 24, false⟩ else none
noncomputable def Q39.fin : St → Option (Int × Int × TBoard × (List TWay)) := resK tb Try.f39.results.toList (decRes (Q39.D (N + 1)) Q39.lc)
noncomputable def Q39.k0 : List Item := stackAt [.r, .r, .r, .r, .r, .l, .r, .b] (bodyOf Try.f39) []
def Q39.st0 (x_ : Int) (b_ : TBoard) (depth low high : Int) (order : (List TWay)) (best t49_ t50_ x_2 : Int) (b_2 : ByteArray) (b_3 b_4 : Int) (b_5 b_6 : Bool) (b_7 b_8 b_9 b_10 b_11 b_12 : Int) (m15_ : LMv) (m16_ : (List TPiece)) (m17_ : LInt) (m18_ : (List TEnd)) (m19_ m20_ m21_ : LInt) (m22_ : (List TUndo)) (m23_ : (List TWay)) : St := ⟨[.one (.ptr 0 0), .one (.ptr 1 0), oi depth, oA, oi high, .one (.clo 32 9)] ++ rA 8 ++ [oi best] ++ rA 33 ++ [.one (.own 15), oi t49_, oi t50_] ++ rA 31, [.var 89 [.int .i64 x_2], .var 81 [.str b_2, .int .i64 b_3, .int .i64 b_4, .own 16, .own 17, .bool b_5, .bool b_6, .own 18, .int .i64 b_7, .int .i64 b_8, .int .i64 b_9, .own 19, .own 20, .own 21, .int .i64 b_10, .int .i64 b_11, .int .u64 b_12, .own 22], .gone, .gone, .gone, .gone, .gone, .gone, .gone, .var 56 [.own 23], .gone, .gone, .gone, .gone, .gone, .row 31 qc m15_, .row 61 qb m16_, .row 3 tI m17_, .row 63 qe m18_, .row 3 tI m19_, .row 3 tI m20_, .row 3 tI m21_, .row 107 qf m22_, .mapo false true tI qc m23_]⟩
theorem Q39.step0 (rec : RK (Int × Int × TBoard × (List TWay))) (x_ : Int) (b_ : TBoard) (depth low high : Int) (order : (List TWay)) (best t49_ t50_ x_2 : Int) (b_2 : ByteArray) (b_3 b_4 : Int) (b_5 b_6 : Bool) (b_7 b_8 b_9 b_10 b_11 b_12 : Int) (m15_ : LMv) (m16_ : (List TPiece)) (m17_ : LInt) (m18_ : (List TEnd)) (m19_ m20_ m21_ : LInt) (m22_ : (List TUndo)) (m23_ : (List TWay)) : seg tb (Q39.G N) Q39.A 11 rec (Q39.fin N) segFuel (loopBody Q39.k0) (Q39.st0 x_ b_ depth low high order best t49_ t50_ x_2 b_2 b_3 b_4 b_5 b_6 b_7 b_8 b_9 b_10 b_11 b_12 m15_ m16_ m17_ m18_ m19_ m20_ m21_ m22_ m23_) = Q39.s0 N (Q39 N) x_ b_ depth low high order (fun best t49_ t50_ x_2 b_2 b_3 b_4 b_5 b_6 b_7 b_8 b_9 b_10 b_11 b_12 m15_ m16_ m17_ m18_ m19_ m20_ m21_ m22_ m23_ => rec Q39.k0 (Q39.st0 x_ b_ depth low high order best t49_ t50_ x_2 b_2 b_3 b_4 b_5 b_6 b_7 b_8 b_9 b_10 b_11 b_12 m15_ m16_ m17_ m18_ m19_ m20_ m21_ m22_ m23_)) best t49_ t50_ x_2 b_2 b_3 b_4 b_5 b_6 b_7 b_8 b_9 b_10 b_11 b_12 m15_ m16_ m17_ m18_ m19_ m20_ m21_ m22_ m23_ := by kernel_rfl
theorem Q39.entry (rec : RK (Int × Int × TBoard × (List TWay))) (x : (argH Q39.as).den) : seg tb (Q39.G N) Q39.A 11 rec (Q39.fin N) segFuel [.code (bodyOf Try.f39)] (initSt Try.f39 (encArgs Q39.as x) (encMem Q39.as x)) = Q39.e N (Q39 N) (fun best t49_ t50_ x_2 b_2 b_3 b_4 b_5 b_6 b_7 b_8 b_9 b_10 b_11 b_12 m15_ m16_ m17_ m18_ m19_ m20_ m21_ m22_ m23_ => rec Q39.k0 (Q39.st0 x.1 x.2.1 x.2.2.1 x.2.2.2.1 x.2.2.2.2.1 x.2.2.2.2.2.1 best t49_ t50_ x_2 b_2 b_3 b_4 b_5 b_6 b_7 b_8 b_9 b_10 b_11 b_12 m15_ m16_ m17_ m18_ m19_ m20_ m21_ m22_ m23_)) x.1 x.2.1 x.2.2.1 x.2.2.2.1 x.2.2.2.2.1 x.2.2.2.2.2.1 := by kernel_rfl
theorem Q39.runs (N : Nat) (x_ : Int) (b_ : TBoard) (depth low high : Int) (order : (List TWay)) : ∀ n, (∀ (best t49_ t50_ x_2 : Int) (b_2 : ByteArray) (b_3 b_4 : Int) (b_5 b_6 : Bool) (b_7 b_8 b_9 b_10 b_11 b_12 : Int) (m15_ : LMv) (m16_ : (List TPiece)) (m17_ : LInt) (m18_ : (List TEnd)) (m19_ m20_ m21_ : LInt) (m22_ : (List TUndo)) (m23_ : (List TWay)), run tb (Q39.G N) Q39.A 11 (Q39.fin N) n Q39.k0 (Q39.st0 x_ b_ depth low high order best t49_ t50_ x_2 b_2 b_3 b_4 b_5 b_6 b_7 b_8 b_9 b_10 b_11 b_12 m15_ m16_ m17_ m18_ m19_ m20_ m21_ m22_ m23_) = Q39.l0 N (Q39 N) x_ b_ depth low high order n best t49_ t50_ x_2 b_2 b_3 b_4 b_5 b_6 b_7 b_8 b_9 b_10 b_11 b_12 m15_ m16_ m17_ m18_ m19_ m20_ m21_ m22_ m23_)
 | 0 => fun _ _ _ _ _ _ _ _ _ _ _ _ _ _ _ _ _ _ _ _ _ _ _ _ => rfl
 | n + 1 => by
  have h0 := Q39.runs N x_ b_ depth low high order n
  have e0 : (fun (best t49_ t50_ x_2 : Int) (b_2 : ByteArray) (b_3 b_4 : Int) (b_5 b_6 : Bool) (b_7 b_8 b_9 b_10 b_11 b_12 : Int) (m15_ : LMv) (m16_ : (List TPiece)) (m17_ : LInt) (m18_ : (List TEnd)) (m19_ m20_ m21_ : LInt) (m22_ : (List TUndo)) (m23_ : (List TWay)) => run tb (Q39.G N) Q39.A 11 (Q39.fin N) n Q39.k0 (Q39.st0 x_ b_ depth low high order best t49_ t50_ x_2 b_2 b_3 b_4 b_5 b_6 b_7 b_8 b_9 b_10 b_11 b_12 m15_ m16_ m17_ m18_ m19_ m20_ m21_ m22_ m23_)) = Q39.l0 N (Q39 N) x_ b_ depth low high order n := by funext best t49_ t50_ x_2 b_2 b_3 b_4 b_5 b_6 b_7 b_8 b_9 b_10 b_11 b_12 m15_ m16_ m17_ m18_ m19_ m20_ m21_ m22_ m23_; exact h0 best t49_ t50_ x_2 b_2 b_3 b_4 b_5 b_6 b_7 b_8 b_9 b_10 b_11 b_12 m15_ m16_ m17_ m18_ m19_ m20_ m21_ m22_ m23_
  have g0 : (∀ (best t49_ t50_ x_2 : Int) (b_2 : ByteArray) (b_3 b_4 : Int) (b_5 b_6 : Bool) (b_7 b_8 b_9 b_10 b_11 b_12 : Int) (m15_ : LMv) (m16_ : (List TPiece)) (m17_ : LInt) (m18_ : (List TEnd)) (m19_ m20_ m21_ : LInt) (m22_ : (List TUndo)) (m23_ : (List TWay)), run tb (Q39.G N) Q39.A 11 (Q39.fin N) (n + 1) Q39.k0 (Q39.st0 x_ b_ depth low high order best t49_ t50_ x_2 b_2 b_3 b_4 b_5 b_6 b_7 b_8 b_9 b_10 b_11 b_12 m15_ m16_ m17_ m18_ m19_ m20_ m21_ m22_ m23_) = Q39.l0 N (Q39 N) x_ b_ depth low high order (n + 1) best t49_ t50_ x_2 b_2 b_3 b_4 b_5 b_6 b_7 b_8 b_9 b_10 b_11 b_12 m15_ m16_ m17_ m18_ m19_ m20_ m21_ m22_ m23_) := by
   intro best t49_ t50_ x_2 b_2 b_3 b_4 b_5 b_6 b_7 b_8 b_9 b_10 b_11 b_12 m15_ m16_ m17_ m18_ m19_ m20_ m21_ m22_ m23_
   exact (run_succ (by kernel_rfl)).trans ((Q39.step0 N _ x_ b_ depth low high order best t49_ t50_ x_2 b_2 b_3 b_4 b_5 b_6 b_7 b_8 b_9 b_10 b_11 b_12 m15_ m16_ m17_ m18_ m19_ m20_ m21_ m22_ m23_).trans ((congrArg (fun r0 => Q39.s0 N (Q39 N) x_ b_ depth low high order r0 best t49_ t50_ x_2 b_2 b_3 b_4 b_5 b_6 b_7 b_8 b_9 b_10 b_11 b_12 m15_ m16_ m17_ m18_ m19_ m20_ m21_ m22_ m23_) e0).trans (Q39.l0_s N (Q39 N) x_ b_ depth low high order n best t49_ t50_ x_2 b_2 b_3 b_4 b_5 b_6 b_7 b_8 b_9 b_10 b_11 b_12 m15_ m16_ m17_ m18_ m19_ m20_ m21_ m22_ m23_).symm))
  exact g0
theorem Q39.ok1 (ih : FnOk Try.prog 39 (Q39.D N)) : FnOk Try.prog 39 (Q39.D (N + 1)) := by
 refine fo ⟨Try.f39, Try.func39, by kernel_rfl, by kernel_rfl, fun x y h => ⟨Q39.G N, Q39.A, N, gamI_ok tb_ok (Checked.mixed Try.checked) (by simp only [List.forall_mem_cons, List.not_mem_nil, false_implies, implies_true, and_true]; exact ⟨Try.func32, ⟨by kernel_rfl, by kernel_rfl⟩, gamOf_ok (by simp only [List.forall_mem_cons, List.not_mem_nil, false_implies, implies_true, and_true]; exact ⟨⟨Q33.ok N, Q33.fit N⟩, ⟨slices_Delete.ok N, slices_Delete.fit N⟩, ⟨slices_Insert.ok N, slices_Insert.fit N⟩⟩)⟩) (by simp only [List.forall_mem_cons, List.not_mem_nil, false_implies, implies_true, and_true]; exact ⟨⟨Q15.ok N, Q15.fit N⟩, ⟨Q57.ok N, Q57.fit N⟩, ⟨Q56.ok N, Q56.fit N⟩, ⟨Q36.ok N, Q36.fit N⟩, ⟨Q37.ok N, Q37.fit N⟩, ⟨Q38.ok N, Q38.fit N⟩, ⟨Q40.ok N, Q40.fit N⟩, ⟨ih, Q39.fit N⟩⟩), ?_⟩⟩ (Q39.fit (N + 1))
 rw [absFn_n (n0 := 11) rfl (by kernel_rfl)]
 refine (Q39.entry N (run tb (Q39.G N) Q39.A 11 (Q39.fin N) N) x).trans ?_
 have e0 : (fun (best t49_ t50_ x_2 : Int) (b_2 : ByteArray) (b_3 b_4 : Int) (b_5 b_6 : Bool) (b_7 b_8 b_9 b_10 b_11 b_12 : Int) (m15_ : LMv) (m16_ : (List TPiece)) (m17_ : LInt) (m18_ : (List TEnd)) (m19_ m20_ m21_ : LInt) (m22_ : (List TUndo)) (m23_ : (List TWay)) => run tb (Q39.G N) Q39.A 11 (Q39.fin N) N Q39.k0 (Q39.st0 x.1 x.2.1 x.2.2.1 x.2.2.2.1 x.2.2.2.2.1 x.2.2.2.2.2.1 best t49_ t50_ x_2 b_2 b_3 b_4 b_5 b_6 b_7 b_8 b_9 b_10 b_11 b_12 m15_ m16_ m17_ m18_ m19_ m20_ m21_ m22_ m23_)) = Q39.l0 N (Q39 N) x.1 x.2.1 x.2.2.1 x.2.2.2.1 x.2.2.2.2.1 x.2.2.2.2.2.1 N := by funext best t49_ t50_ x_2 b_2 b_3 b_4 b_5 b_6 b_7 b_8 b_9 b_10 b_11 b_12 m15_ m16_ m17_ m18_ m19_ m20_ m21_ m22_ m23_; exact (Q39.runs N x.1 x.2.1 x.2.2.1 x.2.2.2.1 x.2.2.2.2.1 x.2.2.2.2.2.1 N) best t49_ t50_ x_2 b_2 b_3 b_4 b_5 b_6 b_7 b_8 b_9 b_10 b_11 b_12 m15_ m16_ m17_ m18_ m19_ m20_ m21_ m22_ m23_
 have h' : (Q39.D (N + 1)).f x = Q39.e N (Q39 N) (Q39.l0 N (Q39 N) x.1 x.2.1 x.2.2.1 x.2.2.2.1 x.2.2.2.2.1 x.2.2.2.2.2.1 N) x.1 x.2.1 x.2.2.1 x.2.2.2.1 x.2.2.2.2.1 x.2.2.2.2.2.1 := by kernel_rfl
 exact (congrArg (fun r0 => Q39.e N (Q39 N) r0 x.1 x.2.1 x.2.2.1 x.2.2.2.1 x.2.2.2.2.1 x.2.2.2.2.2.1) e0).trans (h'.symm.trans h)
theorem Q39.ok : ∀ N, FnOk Try.prog 39 (Q39.D N)
 | 0 => FnOk_none Try.func39 (by kernel_rfl) (by kernel_rfl) (fun x => rfl)
 | N + 1 => Q39.ok1 N (Q39.ok N)
def Q18.as : List MK := [.d true qa, .d true qd, .d false tI, .o (.clo 32 56 (.mp false true tI qc)) true]
def Q18.rs : List (Bool × HT) := [(true, (.d qc)), (false, (.d tI))]
def Q18.lc : List AC := [.clo 32 0]
def Q18.D : DFn := ⟨Q18.as, Q18.rs, (TMv × Int × (List TWay)), fun x => Q18 N x.1 x.2.1 x.2.2.1 x.2.2.2.1, fun r o => (r.1, r.2.1, o.1), fun b => (b.1, (b.2.1, ())), fun b => (b.2.2, ()), none⟩
theorem Q18.fit : (Q18.D N).Fit := ⟨fun _ _ => rfl, fun _ _ => rfl, by kernel_rfl, (fun _ _ h => nomatch h), by kernel_rfl⟩
noncomputable def Q18.G : Gam := gamOf [(14, Q14.D N), (36, Q36.D N), (37, Q37.D N), (39, Q39.D N), (38, Q38.D N), (40, Q40.D N)]
def Q18.A : LA := fun k => bif Nat.beq k 0 then some ⟨[2, 3, 8, 10, 12, 13, 14, 27, 28, 29], [], [], [(true, 0, 0, 16), (true, 5, 3, 6), (true, 5, 4, 7), (true, 5, 7, 8), (true, 5, 11, 9), (true, 5, 12, 10), (true, 5, 13, 11), (true, 5, 17, 12)], [2, 3], 17, false⟩ else none
noncomputable def Q18.fin : St → Option (TMv × Int × (List TWay)) := resK tb Try.f18.results.toList (decRes (Q18.D N) Q18.lc)
noncomputable def Q18.k0 : List Item := stackAt [.r, .r, .r, .r, .r, .l, .r, .b] (bodyOf Try.f18) []
def Q18.st0 (r_ : TRules) (p_ : TPos) (depth : Int) (order : (List TWay)) (most t28_ t29_ : Int) (b_ : ByteArray) (b_2 b_3 : Int) (b_4 b_5 : Bool) (b_6 b_7 b_8 b_9 b_10 b_11 : Int) (m6_ : (List TPiece)) (m7_ : LInt) (m8_ : (List TEnd)) (m9_ m10_ m11_ : LInt) (m12_ : (List TUndo)) (x_ out out2 out3 : Int) (m15_ : LMv) (m16_ : (List TWay)) : St := ⟨[oA, oA, oi depth, .one (.clo 32 0)] ++ rA 4 ++ [.one (.ptr 4 0), oA, .one (.ptr 5 0), oA, .one (.ptr 13 0), .one (.ptr 14 0), oi most] ++ rA 12 ++ [.one (.own 15), oi t28_, oi t29_] ++ rA 32, [.var 56 [.own 16], .gone, .gone, .gone, .var 31 [.int .i64 0, .int .i64 0, .int .i64 0], .var 81 [.str b_, .int .i64 b_2, .int .i64 b_3, .own 6, .own 7, .bool b_4, .bool b_5, .own 8, .int .i64 b_6, .int .i64 b_7, .int .i64 b_8, .own 9, .own 10, .own 11, .int .i64 b_9, .int .i64 b_10, .int .u64 b_11, .own 12], .row 61 qb m6_, .row 3 tI m7_, .row 63 qe m8_, .row 3 tI m9_, .row 3 tI m10_, .row 3 tI m11_, .row 107 qf m12_, .var 89 [.int .i64 x_], .var 31 [.int .i64 out, .int .i64 out2, .int .i64 out3], .row 31 qc m15_, .mapo false true tI qc m16_]⟩
theorem Q18.step0 (rec : RK (TMv × Int × (List TWay))) (r_ : TRules) (p_ : TPos) (depth : Int) (order : (List TWay)) (most t28_ t29_ : Int) (b_ : ByteArray) (b_2 b_3 : Int) (b_4 b_5 : Bool) (b_6 b_7 b_8 b_9 b_10 b_11 : Int) (m6_ : (List TPiece)) (m7_ : LInt) (m8_ : (List TEnd)) (m9_ m10_ m11_ : LInt) (m12_ : (List TUndo)) (x_ out out2 out3 : Int) (m15_ : LMv) (m16_ : (List TWay)) : seg tb (Q18.G N) Q18.A 2 rec (Q18.fin N) segFuel (loopBody Q18.k0) (Q18.st0 r_ p_ depth order most t28_ t29_ b_ b_2 b_3 b_4 b_5 b_6 b_7 b_8 b_9 b_10 b_11 m6_ m7_ m8_ m9_ m10_ m11_ m12_ x_ out out2 out3 m15_ m16_) = Q18.s0 N r_ p_ depth order (fun most t28_ t29_ b_ b_2 b_3 b_4 b_5 b_6 b_7 b_8 b_9 b_10 b_11 m6_ m7_ m8_ m9_ m10_ m11_ m12_ x_ out out2 out3 m15_ m16_ => rec Q18.k0 (Q18.st0 r_ p_ depth order most t28_ t29_ b_ b_2 b_3 b_4 b_5 b_6 b_7 b_8 b_9 b_10 b_11 m6_ m7_ m8_ m9_ m10_ m11_ m12_ x_ out out2 out3 m15_ m16_)) most t28_ t29_ b_ b_2 b_3 b_4 b_5 b_6 b_7 b_8 b_9 b_10 b_11 m6_ m7_ m8_ m9_ m10_ m11_ m12_ x_ out out2 out3 m15_ m16_ := by kernel_rfl
theorem Q18.entry (rec : RK (TMv × Int × (List TWay))) (x : (argH Q18.as).den) : seg tb (Q18.G N) Q18.A 2 rec (Q18.fin N) segFuel [.code (bodyOf Try.f18)] (initSt Try.f18 (encArgs Q18.as x) (encMem Q18.as x)) = Q18.e N (fun most t28_ t29_ b_ b_2 b_3 b_4 b_5 b_6 b_7 b_8 b_9 b_10 b_11 m6_ m7_ m8_ m9_ m10_ m11_ m12_ x_ out out2 out3 m15_ m16_ => rec Q18.k0 (Q18.st0 x.1 x.2.1 x.2.2.1 x.2.2.2.1 most t28_ t29_ b_ b_2 b_3 b_4 b_5 b_6 b_7 b_8 b_9 b_10 b_11 m6_ m7_ m8_ m9_ m10_ m11_ m12_ x_ out out2 out3 m15_ m16_)) x.1 x.2.1 x.2.2.1 x.2.2.2.1 := by kernel_rfl
theorem Q18.runs (N : Nat) (r_ : TRules) (p_ : TPos) (depth : Int) (order : (List TWay)) : ∀ n, (∀ (most t28_ t29_ : Int) (b_ : ByteArray) (b_2 b_3 : Int) (b_4 b_5 : Bool) (b_6 b_7 b_8 b_9 b_10 b_11 : Int) (m6_ : (List TPiece)) (m7_ : LInt) (m8_ : (List TEnd)) (m9_ m10_ m11_ : LInt) (m12_ : (List TUndo)) (x_ out out2 out3 : Int) (m15_ : LMv) (m16_ : (List TWay)), run tb (Q18.G N) Q18.A 2 (Q18.fin N) n Q18.k0 (Q18.st0 r_ p_ depth order most t28_ t29_ b_ b_2 b_3 b_4 b_5 b_6 b_7 b_8 b_9 b_10 b_11 m6_ m7_ m8_ m9_ m10_ m11_ m12_ x_ out out2 out3 m15_ m16_) = Q18.l0 N r_ p_ depth order n most t28_ t29_ b_ b_2 b_3 b_4 b_5 b_6 b_7 b_8 b_9 b_10 b_11 m6_ m7_ m8_ m9_ m10_ m11_ m12_ x_ out out2 out3 m15_ m16_)
 | 0 => fun _ _ _ _ _ _ _ _ _ _ _ _ _ _ _ _ _ _ _ _ _ _ _ _ _ _ _ => rfl
 | n + 1 => by
  have h0 := Q18.runs N r_ p_ depth order n
  have e0 : (fun (most t28_ t29_ : Int) (b_ : ByteArray) (b_2 b_3 : Int) (b_4 b_5 : Bool) (b_6 b_7 b_8 b_9 b_10 b_11 : Int) (m6_ : (List TPiece)) (m7_ : LInt) (m8_ : (List TEnd)) (m9_ m10_ m11_ : LInt) (m12_ : (List TUndo)) (x_ out out2 out3 : Int) (m15_ : LMv) (m16_ : (List TWay)) => run tb (Q18.G N) Q18.A 2 (Q18.fin N) n Q18.k0 (Q18.st0 r_ p_ depth order most t28_ t29_ b_ b_2 b_3 b_4 b_5 b_6 b_7 b_8 b_9 b_10 b_11 m6_ m7_ m8_ m9_ m10_ m11_ m12_ x_ out out2 out3 m15_ m16_)) = Q18.l0 N r_ p_ depth order n := by funext most t28_ t29_ b_ b_2 b_3 b_4 b_5 b_6 b_7 b_8 b_9 b_10 b_11 m6_ m7_ m8_ m9_ m10_ m11_ m12_ x_ out out2 out3 m15_ m16_; exact h0 most t28_ t29_ b_ b_2 b_3 b_4 b_5 b_6 b_7 b_8 b_9 b_10 b_11 m6_ m7_ m8_ m9_ m10_ m11_ m12_ x_ out out2 out3 m15_ m16_
  have g0 : (∀ (most t28_ t29_ : Int) (b_ : ByteArray) (b_2 b_3 : Int) (b_4 b_5 : Bool) (b_6 b_7 b_8 b_9 b_10 b_11 : Int) (m6_ : (List TPiece)) (m7_ : LInt) (m8_ : (List TEnd)) (m9_ m10_ m11_ : LInt) (m12_ : (List TUndo)) (x_ out out2 out3 : Int) (m15_ : LMv) (m16_ : (List TWay)), run tb (Q18.G N) Q18.A 2 (Q18.fin N) (n + 1) Q18.k0 (Q18.st0 r_ p_ depth order most t28_ t29_ b_ b_2 b_3 b_4 b_5 b_6 b_7 b_8 b_9 b_10 b_11 m6_ m7_ m8_ m9_ m10_ m11_ m12_ x_ out out2 out3 m15_ m16_) = Q18.l0 N r_ p_ depth order (n + 1) most t28_ t29_ b_ b_2 b_3 b_4 b_5 b_6 b_7 b_8 b_9 b_10 b_11 m6_ m7_ m8_ m9_ m10_ m11_ m12_ x_ out out2 out3 m15_ m16_) := by
   intro most t28_ t29_ b_ b_2 b_3 b_4 b_5 b_6 b_7 b_8 b_9 b_10 b_11 m6_ m7_ m8_ m9_ m10_ m11_ m12_ x_ out out2 out3 m15_ m16_
   exact (run_succ (by kernel_rfl)).trans ((Q18.step0 N _ r_ p_ depth order most t28_ t29_ b_ b_2 b_3 b_4 b_5 b_6 b_7 b_8 b_9 b_10 b_11 m6_ m7_ m8_ m9_ m10_ m11_ m12_ x_ out out2 out3 m15_ m16_).trans ((congrArg (fun r0 => Q18.s0 N r_ p_ depth order r0 most t28_ t29_ b_ b_2 b_3 b_4 b_5 b_6 b_7 b_8 b_9 b_10 b_11 m6_ m7_ m8_ m9_ m10_ m11_ m12_ x_ out out2 out3 m15_ m16_) e0).trans (Q18.l0_s N r_ p_ depth order n most t28_ t29_ b_ b_2 b_3 b_4 b_5 b_6 b_7 b_8 b_9 b_10 b_11 m6_ m7_ m8_ m9_ m10_ m11_ m12_ x_ out out2 out3 m15_ m16_).symm))
  exact g0
theorem Q18.ok : FnOk Try.prog 18 (Q18.D N) := by
 refine fo ⟨Try.f18, Try.func18, by kernel_rfl, by kernel_rfl, fun x y h => ⟨Q18.G N, Q18.A, N, gamOf_ok (gc ⟨Q14.ok N, Q14.fit N⟩ (gc ⟨Q36.ok N, Q36.fit N⟩ (gc ⟨Q37.ok N, Q37.fit N⟩ (gc ⟨Q39.ok N, Q39.fit N⟩ (gc ⟨Q38.ok N, Q38.fit N⟩ (gc ⟨Q40.ok N, Q40.fit N⟩ gn)))))), ?_⟩⟩ (Q18.fit N)
 rw [absFn_n (n0 := 2) rfl (by kernel_rfl)]
 refine (Q18.entry N (run tb (Q18.G N) Q18.A 2 (Q18.fin N) N) x).trans ?_
 have e0 : (fun (most t28_ t29_ : Int) (b_ : ByteArray) (b_2 b_3 : Int) (b_4 b_5 : Bool) (b_6 b_7 b_8 b_9 b_10 b_11 : Int) (m6_ : (List TPiece)) (m7_ : LInt) (m8_ : (List TEnd)) (m9_ m10_ m11_ : LInt) (m12_ : (List TUndo)) (x_ out out2 out3 : Int) (m15_ : LMv) (m16_ : (List TWay)) => run tb (Q18.G N) Q18.A 2 (Q18.fin N) N Q18.k0 (Q18.st0 x.1 x.2.1 x.2.2.1 x.2.2.2.1 most t28_ t29_ b_ b_2 b_3 b_4 b_5 b_6 b_7 b_8 b_9 b_10 b_11 m6_ m7_ m8_ m9_ m10_ m11_ m12_ x_ out out2 out3 m15_ m16_)) = Q18.l0 N x.1 x.2.1 x.2.2.1 x.2.2.2.1 N := by funext most t28_ t29_ b_ b_2 b_3 b_4 b_5 b_6 b_7 b_8 b_9 b_10 b_11 m6_ m7_ m8_ m9_ m10_ m11_ m12_ x_ out out2 out3 m15_ m16_; exact (Q18.runs N x.1 x.2.1 x.2.2.1 x.2.2.2.1 N) most t28_ t29_ b_ b_2 b_3 b_4 b_5 b_6 b_7 b_8 b_9 b_10 b_11 m6_ m7_ m8_ m9_ m10_ m11_ m12_ x_ out out2 out3 m15_ m16_
 have h' : (Q18.D N).f x = Q18.e N (Q18.l0 N x.1 x.2.1 x.2.2.1 x.2.2.2.1 N) x.1 x.2.1 x.2.2.1 x.2.2.2.1 := by kernel_rfl
 exact (congrArg (fun r0 => Q18.e N r0 x.1 x.2.1 x.2.2.1 x.2.2.2.1) e0).trans (h'.symm.trans h)
def Q4.as : List MK := [.d true qa, .d true qd, .d false tI, .d false tI]
def Q4.rs : List (Bool × HT) := [(true, (.d (.prod qc qc))), (false, (.d tI))]
def Q4.lc : List AC := []
def Q4.D : DFn := ⟨Q4.as, Q4.rs, ((TMv × TMv) × Int), fun x => Q4 N x.1 x.2.1 x.2.2.1 x.2.2.2.1, fun r o => (r.1, r.2.1), fun b => (b.1, (b.2, ())), fun b => (), none⟩
theorem Q4.fit : (Q4.D N).Fit := ⟨fun _ _ => rfl, fun _ _ => rfl, by kernel_rfl, (fun _ _ h => nomatch h), by kernel_rfl⟩
noncomputable def Q4.G : Gam := gamOf [(14, Q14.D N), (15, Q15.D N), (16, Q16.D N), (17, Q17.D N), (18, Q18.D N)]
def Q4.A : LA := fun k => bif Nat.beq k 1 then some ⟨[4, 5, 8, 12, 14, 15, 16], [], [], [(true, 13, 0, 14)], [3, 4, 5, 6, 7, 8, 9, 10], 15, false⟩ else none
noncomputable def Q4.fin : St → Option ((TMv × TMv) × Int) := resK tb Try.f4.results.toList (decRes (Q4.D N) Q4.lc)
noncomputable def Q4.k0 : List Item := stackAt [.r, .r, .r, .r, .r, .r, .r, .l, .r, .b] (bodyOf Try.f4) []
def Q4.st0 (r_ : TRules) (p_ : TPos) (depth budget d_ k_ out out2 out3 out4 out5 out6 : Int) (m14_ : (List TWay)) : St := ⟨rA 4 ++ [.one (.ptr 0 0), .one (.ptr 1 0), oA, oA, .one (.ptr 2 0)] ++ rA 3 ++ [oi d_, oA, .one (.ptr 11 0), .one (.clo 32 13), oi k_] ++ rA 64, [vR r_, vP p_, .var 33 [.int .i64 0, .int .i64 0, .int .i64 0, .int .i64 0, .int .i64 0, .int .i64 0], .gone, .gone, .gone, .gone, .gone, .gone, .gone, .gone, .var 33 [.int .i64 out, .int .i64 out2, .int .i64 out3, .int .i64 out4, .int .i64 out5, .int .i64 out6], .gone, .var 56 [.own 14], .mapo false true tI qc m14_]⟩
theorem Q4.step0 (rec : RK ((TMv × TMv) × Int)) (r_ : TRules) (p_ : TPos) (depth budget d_ k_ out out2 out3 out4 out5 out6 : Int) (m14_ : (List TWay)) : seg tb (Q4.G N) Q4.A 0 rec (Q4.fin N) segFuel (loopBody Q4.k0) (Q4.st0 r_ p_ depth budget d_ k_ out out2 out3 out4 out5 out6 m14_) = Q4.s0 N r_ p_ depth budget (fun d_ k_ out out2 out3 out4 out5 out6 m14_ => rec Q4.k0 (Q4.st0 r_ p_ depth budget d_ k_ out out2 out3 out4 out5 out6 m14_)) d_ k_ out out2 out3 out4 out5 out6 m14_ := by kernel_rfl
theorem Q4.entry (rec : RK ((TMv × TMv) × Int)) (x : (argH Q4.as).den) : seg tb (Q4.G N) Q4.A 0 rec (Q4.fin N) segFuel [.code (bodyOf Try.f4)] (initSt Try.f4 (encArgs Q4.as x) (encMem Q4.as x)) = Q4.e N (fun d_ k_ out out2 out3 out4 out5 out6 m14_ => rec Q4.k0 (Q4.st0 x.1 x.2.1 x.2.2.1 x.2.2.2.1 d_ k_ out out2 out3 out4 out5 out6 m14_)) x.1 x.2.1 x.2.2.1 x.2.2.2.1 := by kernel_rfl
theorem Q4.runs (N : Nat) (r_ : TRules) (p_ : TPos) (depth budget : Int) : ∀ n, (∀ (d_ k_ out out2 out3 out4 out5 out6 : Int) (m14_ : (List TWay)), run tb (Q4.G N) Q4.A 0 (Q4.fin N) n Q4.k0 (Q4.st0 r_ p_ depth budget d_ k_ out out2 out3 out4 out5 out6 m14_) = Q4.l0 N r_ p_ depth budget n d_ k_ out out2 out3 out4 out5 out6 m14_)
 | 0 => fun _ _ _ _ _ _ _ _ _ => rfl
 | n + 1 => by
  have h0 := Q4.runs N r_ p_ depth budget n
  have e0 : (fun (d_ k_ out out2 out3 out4 out5 out6 : Int) (m14_ : (List TWay)) => run tb (Q4.G N) Q4.A 0 (Q4.fin N) n Q4.k0 (Q4.st0 r_ p_ depth budget d_ k_ out out2 out3 out4 out5 out6 m14_)) = Q4.l0 N r_ p_ depth budget n := by funext d_ k_ out out2 out3 out4 out5 out6 m14_; exact h0 d_ k_ out out2 out3 out4 out5 out6 m14_
  have g0 : (∀ (d_ k_ out out2 out3 out4 out5 out6 : Int) (m14_ : (List TWay)), run tb (Q4.G N) Q4.A 0 (Q4.fin N) (n + 1) Q4.k0 (Q4.st0 r_ p_ depth budget d_ k_ out out2 out3 out4 out5 out6 m14_) = Q4.l0 N r_ p_ depth budget (n + 1) d_ k_ out out2 out3 out4 out5 out6 m14_) := by
   intro d_ k_ out out2 out3 out4 out5 out6 m14_
   exact (run_succ (by kernel_rfl)).trans ((Q4.step0 N _ r_ p_ depth budget d_ k_ out out2 out3 out4 out5 out6 m14_).trans ((congrArg (fun r0 => Q4.s0 N r_ p_ depth budget r0 d_ k_ out out2 out3 out4 out5 out6 m14_) e0).trans (Q4.l0_s N r_ p_ depth budget n d_ k_ out out2 out3 out4 out5 out6 m14_).symm))
  exact g0
theorem Q4.ok : FnOk Try.prog 4 (Q4.D N) := by
 refine fo ⟨Try.f4, Try.func4, by kernel_rfl, by kernel_rfl, fun x y h => ⟨Q4.G N, Q4.A, N, gamOf_ok (gc ⟨Q14.ok N, Q14.fit N⟩ (gc ⟨Q15.ok N, Q15.fit N⟩ (gc ⟨Q16.ok N, Q16.fit N⟩ (gc ⟨Q17.ok N, Q17.fit N⟩ (gc ⟨Q18.ok N, Q18.fit N⟩ gn))))), ?_⟩⟩ (Q4.fit N)
 rw [absFn_n (n0 := 0) rfl (by kernel_rfl)]
 refine (Q4.entry N (run tb (Q4.G N) Q4.A 0 (Q4.fin N) N) x).trans ?_
 have e0 : (fun (d_ k_ out out2 out3 out4 out5 out6 : Int) (m14_ : (List TWay)) => run tb (Q4.G N) Q4.A 0 (Q4.fin N) N Q4.k0 (Q4.st0 x.1 x.2.1 x.2.2.1 x.2.2.2.1 d_ k_ out out2 out3 out4 out5 out6 m14_)) = Q4.l0 N x.1 x.2.1 x.2.2.1 x.2.2.2.1 N := by funext d_ k_ out out2 out3 out4 out5 out6 m14_; exact (Q4.runs N x.1 x.2.1 x.2.2.1 x.2.2.2.1 N) d_ k_ out out2 out3 out4 out5 out6 m14_
 have h' : (Q4.D N).f x = Q4.e N (Q4.l0 N x.1 x.2.1 x.2.2.1 x.2.2.2.1 N) x.1 x.2.1 x.2.2.1 x.2.2.2.1 := by kernel_rfl
 exact (congrArg (fun r0 => Q4.e N r0 x.1 x.2.1 x.2.2.1 x.2.2.2.1) e0).trans (h'.symm.trans h)
def Q7.as : List MK := [.d false tI]
def Q7.rs : List (Bool × HT) := [(true, (.d qc))]
def Q7.lc : List AC := []
def Q7.D : DFn := ⟨Q7.as, Q7.rs, TMv, fun x => Q7 N x.1, fun r o => r.1, fun b => (b, ()), fun b => (), none⟩
theorem Q7.fit : (Q7.D N).Fit := ⟨fun _ _ => rfl, fun _ _ => rfl, by kernel_rfl, (fun _ _ h => nomatch h), by kernel_rfl⟩
noncomputable def Q7.G (N : Nat) : Gam := gamOf []
def Q7.A : LA := fun _ => none
noncomputable def Q7.fin : St → Option TMv := resK tb Try.f7.results.toList (decRes (Q7.D N) Q7.lc)
theorem Q7.entry (rec : RK TMv) (x : (argH Q7.as).den) : seg tb (Q7.G N) Q7.A 0 rec (Q7.fin N) segFuel [.code (bodyOf Try.f7)] (initSt Try.f7 (encArgs Q7.as x) (encMem Q7.as x)) = Q7.e N x.1 := by kernel_rfl
theorem Q7.ok : FnOk Try.prog 7 (Q7.D N) := by
 refine fo ⟨Try.f7, Try.func7, by kernel_rfl, by kernel_rfl, fun x y h => ⟨Q7.G N, Q7.A, N, gamOf_ok (fun p hp => nomatch hp), ?_⟩⟩ (Q7.fit N)
 rw [absFn_n (n0 := 0) rfl (by kernel_rfl)]
 exact (Q7.entry N _ x).trans h
def Q21.as : List MK := [.d true qa, .d true qd, .d false tI]
def Q21.rs : List (Bool × HT) := [(false, (.d tI))]
def Q21.lc : List AC := []
def Q21.D : DFn := ⟨Q21.as, Q21.rs, Int, fun x => Q21 N x.1 x.2.1 x.2.2.1, fun r o => r.1, fun b => (b, ()), fun b => (), none⟩
theorem Q21.fit : (Q21.D N).Fit := ⟨fun _ _ => rfl, fun _ _ => rfl, by kernel_rfl, (fun _ _ h => nomatch h), by kernel_rfl⟩
noncomputable def Q21.G : Gam := gamOf [(12, Q12.D N)]
def Q21.A : LA := fun _ => none
noncomputable def Q21.fin : St → Option Int := resK tb Try.f21.results.toList (decRes (Q21.D N) Q21.lc)
theorem Q21.entry (rec : RK Int) (x : (argH Q21.as).den) : seg tb (Q21.G N) Q21.A 0 rec (Q21.fin N) segFuel [.code (bodyOf Try.f21)] (initSt Try.f21 (encArgs Q21.as x) (encMem Q21.as x)) = Q21.e N x.1 x.2.1 x.2.2.1 := by kernel_rfl
theorem Q21.ok : FnOk Try.prog 21 (Q21.D N) := by
 refine fo ⟨Try.f21, Try.func21, by kernel_rfl, by kernel_rfl, fun x y h => ⟨Q21.G N, Q21.A, N, gamOf_ok (gc ⟨Q12.ok N, Q12.fit N⟩ gn), ?_⟩⟩ (Q21.fit N)
 rw [absFn_n (n0 := 0) rfl (by kernel_rfl)]
 exact (Q21.entry N _ x).trans h
def Q41.as : List MK := [.o (.ptr 81 (.prod (.prod (.d .str) (.prod (.d tI) (.prod (.d tI) (.prod (.own 61 qb) (.prod (.own 3 tI) (.prod (.d .bool) (.prod (.d .bool) (.prod (.own 63 qe) (.d qc))))))))) (.prod (.prod (.own 3 tI) (.prod (.prod (.own 3 tI) (.own 3 tI)) (.d (.prod tI tI)))) (.prod (.d (.int .u64)) (.own 107 qf))))) true, .d false tI]
def Q41.rs : List (Bool × HT) := [(false, (.d tI))]
def Q41.lc : List AC := [.ptr 0 0]
def Q41.D : DFn := ⟨Q41.as, Q41.rs, (Int × TBoard), fun x => Q41 N x.1 x.2.1, fun r o => (r.1, o.1), fun b => (b.1, ()), fun b => (b.2, ()), none⟩
theorem Q41.fit : (Q41.D N).Fit := ⟨fun _ _ => rfl, fun _ _ => rfl, by kernel_rfl, (fun _ _ h => nomatch h), by kernel_rfl⟩
noncomputable def Q41.G : Gam := gamOf [(15, Q15.D N), (57, Q57.D N), (56, Q56.D N), (36, Q36.D N), (37, Q37.D N), (38, Q38.D N), (40, Q40.D N), (41, Q41.D N)]
def Q41.A : LA := fun k => bif Nat.beq k 0 then some ⟨[0, 1, 6, 20, 21, 22], [], [], [(true, 0, 3, 9), (true, 0, 4, 10), (true, 0, 7, 11), (true, 0, 11, 12), (true, 0, 12, 13), (true, 0, 13, 14), (true, 0, 17, 15)], [], 16, false⟩ else none
noncomputable def Q41.fin : St → Option (Int × TBoard) := resK tb Try.f41.results.toList (decRes (Q41.D (N + 1)) Q41.lc)
noncomputable def Q41.k0 : List Item := stackAt [.r, .r, .r, .r, .l, .r, .b] (bodyOf Try.f41) []
def Q41.st0 (b_ : TBoard) (depth best t21_ t22_ : Int) (b_2 : ByteArray) (b_3 b_4 : Int) (b_5 b_6 : Bool) (b_7 b_8 b_9 b_10 b_11 b_12 : Int) (m8_ : LMv) (m9_ : (List TPiece)) (m10_ : LInt) (m11_ : (List TEnd)) (m12_ m13_ m14_ : LInt) (m15_ : (List TUndo)) : St := ⟨[.one (.ptr 0 0), oi depth] ++ rA 4 ++ [oi best] ++ rA 13 ++ [.one (.own 8), oi t21_, oi t22_] ++ rA 18, [.var 81 [.str b_2, .int .i64 b_3, .int .i64 b_4, .own 9, .own 10, .bool b_5, .bool b_6, .own 11, .int .i64 b_7, .int .i64 b_8, .int .i64 b_9, .own 12, .own 13, .own 14, .int .i64 b_10, .int .i64 b_11, .int .u64 b_12, .own 15], .gone, .gone, .gone, .gone, .gone, .gone, .gone, .row 31 qc m8_, .row 61 qb m9_, .row 3 tI m10_, .row 63 qe m11_, .row 3 tI m12_, .row 3 tI m13_, .row 3 tI m14_, .row 107 qf m15_]⟩
theorem Q41.step0 (rec : RK (Int × TBoard)) (b_ : TBoard) (depth best t21_ t22_ : Int) (b_2 : ByteArray) (b_3 b_4 : Int) (b_5 b_6 : Bool) (b_7 b_8 b_9 b_10 b_11 b_12 : Int) (m8_ : LMv) (m9_ : (List TPiece)) (m10_ : LInt) (m11_ : (List TEnd)) (m12_ m13_ m14_ : LInt) (m15_ : (List TUndo)) : seg tb (Q41.G N) Q41.A 8 rec (Q41.fin N) segFuel (loopBody Q41.k0) (Q41.st0 b_ depth best t21_ t22_ b_2 b_3 b_4 b_5 b_6 b_7 b_8 b_9 b_10 b_11 b_12 m8_ m9_ m10_ m11_ m12_ m13_ m14_ m15_) = Q41.s0 N (Q41 N) b_ depth (fun best t21_ t22_ b_2 b_3 b_4 b_5 b_6 b_7 b_8 b_9 b_10 b_11 b_12 m8_ m9_ m10_ m11_ m12_ m13_ m14_ m15_ => rec Q41.k0 (Q41.st0 b_ depth best t21_ t22_ b_2 b_3 b_4 b_5 b_6 b_7 b_8 b_9 b_10 b_11 b_12 m8_ m9_ m10_ m11_ m12_ m13_ m14_ m15_)) best t21_ t22_ b_2 b_3 b_4 b_5 b_6 b_7 b_8 b_9 b_10 b_11 b_12 m8_ m9_ m10_ m11_ m12_ m13_ m14_ m15_ := by kernel_rfl
theorem Q41.entry (rec : RK (Int × TBoard)) (x : (argH Q41.as).den) : seg tb (Q41.G N) Q41.A 8 rec (Q41.fin N) segFuel [.code (bodyOf Try.f41)] (initSt Try.f41 (encArgs Q41.as x) (encMem Q41.as x)) = Q41.e N (Q41 N) (fun best t21_ t22_ b_2 b_3 b_4 b_5 b_6 b_7 b_8 b_9 b_10 b_11 b_12 m8_ m9_ m10_ m11_ m12_ m13_ m14_ m15_ => rec Q41.k0 (Q41.st0 x.1 x.2.1 best t21_ t22_ b_2 b_3 b_4 b_5 b_6 b_7 b_8 b_9 b_10 b_11 b_12 m8_ m9_ m10_ m11_ m12_ m13_ m14_ m15_)) x.1 x.2.1 := by kernel_rfl
theorem Q41.runs (N : Nat) (b_ : TBoard) (depth : Int) : ∀ n, (∀ (best t21_ t22_ : Int) (b_2 : ByteArray) (b_3 b_4 : Int) (b_5 b_6 : Bool) (b_7 b_8 b_9 b_10 b_11 b_12 : Int) (m8_ : LMv) (m9_ : (List TPiece)) (m10_ : LInt) (m11_ : (List TEnd)) (m12_ m13_ m14_ : LInt) (m15_ : (List TUndo)), run tb (Q41.G N) Q41.A 8 (Q41.fin N) n Q41.k0 (Q41.st0 b_ depth best t21_ t22_ b_2 b_3 b_4 b_5 b_6 b_7 b_8 b_9 b_10 b_11 b_12 m8_ m9_ m10_ m11_ m12_ m13_ m14_ m15_) = Q41.l0 N (Q41 N) b_ depth n best t21_ t22_ b_2 b_3 b_4 b_5 b_6 b_7 b_8 b_9 b_10 b_11 b_12 m8_ m9_ m10_ m11_ m12_ m13_ m14_ m15_)
 | 0 => fun _ _ _ _ _ _ _ _ _ _ _ _ _ _ _ _ _ _ _ _ _ _ => rfl
 | n + 1 => by
  have h0 := Q41.runs N b_ depth n
  have e0 : (fun (best t21_ t22_ : Int) (b_2 : ByteArray) (b_3 b_4 : Int) (b_5 b_6 : Bool) (b_7 b_8 b_9 b_10 b_11 b_12 : Int) (m8_ : LMv) (m9_ : (List TPiece)) (m10_ : LInt) (m11_ : (List TEnd)) (m12_ m13_ m14_ : LInt) (m15_ : (List TUndo)) => run tb (Q41.G N) Q41.A 8 (Q41.fin N) n Q41.k0 (Q41.st0 b_ depth best t21_ t22_ b_2 b_3 b_4 b_5 b_6 b_7 b_8 b_9 b_10 b_11 b_12 m8_ m9_ m10_ m11_ m12_ m13_ m14_ m15_)) = Q41.l0 N (Q41 N) b_ depth n := by funext best t21_ t22_ b_2 b_3 b_4 b_5 b_6 b_7 b_8 b_9 b_10 b_11 b_12 m8_ m9_ m10_ m11_ m12_ m13_ m14_ m15_; exact h0 best t21_ t22_ b_2 b_3 b_4 b_5 b_6 b_7 b_8 b_9 b_10 b_11 b_12 m8_ m9_ m10_ m11_ m12_ m13_ m14_ m15_
  have g0 : (∀ (best t21_ t22_ : Int) (b_2 : ByteArray) (b_3 b_4 : Int) (b_5 b_6 : Bool) (b_7 b_8 b_9 b_10 b_11 b_12 : Int) (m8_ : LMv) (m9_ : (List TPiece)) (m10_ : LInt) (m11_ : (List TEnd)) (m12_ m13_ m14_ : LInt) (m15_ : (List TUndo)), run tb (Q41.G N) Q41.A 8 (Q41.fin N) (n + 1) Q41.k0 (Q41.st0 b_ depth best t21_ t22_ b_2 b_3 b_4 b_5 b_6 b_7 b_8 b_9 b_10 b_11 b_12 m8_ m9_ m10_ m11_ m12_ m13_ m14_ m15_) = Q41.l0 N (Q41 N) b_ depth (n + 1) best t21_ t22_ b_2 b_3 b_4 b_5 b_6 b_7 b_8 b_9 b_10 b_11 b_12 m8_ m9_ m10_ m11_ m12_ m13_ m14_ m15_) := by
   intro best t21_ t22_ b_2 b_3 b_4 b_5 b_6 b_7 b_8 b_9 b_10 b_11 b_12 m8_ m9_ m10_ m11_ m12_ m13_ m14_ m15_
   exact (run_succ (by kernel_rfl)).trans ((Q41.step0 N _ b_ depth best t21_ t22_ b_2 b_3 b_4 b_5 b_6 b_7 b_8 b_9 b_10 b_11 b_12 m8_ m9_ m10_ m11_ m12_ m13_ m14_ m15_).trans ((congrArg (fun r0 => Q41.s0 N (Q41 N) b_ depth r0 best t21_ t22_ b_2 b_3 b_4 b_5 b_6 b_7 b_8 b_9 b_10 b_11 b_12 m8_ m9_ m10_ m11_ m12_ m13_ m14_ m15_) e0).trans (Q41.l0_s N (Q41 N) b_ depth n best t21_ t22_ b_2 b_3 b_4 b_5 b_6 b_7 b_8 b_9 b_10 b_11 b_12 m8_ m9_ m10_ m11_ m12_ m13_ m14_ m15_).symm))
  exact g0
theorem Q41.ok1 (ih : FnOk Try.prog 41 (Q41.D N)) : FnOk Try.prog 41 (Q41.D (N + 1)) := by
 refine fo ⟨Try.f41, Try.func41, by kernel_rfl, by kernel_rfl, fun x y h => ⟨Q41.G N, Q41.A, N, gamOf_ok (by simp only [List.forall_mem_cons, List.not_mem_nil, false_implies, implies_true, and_true]; exact ⟨⟨Q15.ok N, Q15.fit N⟩, ⟨Q57.ok N, Q57.fit N⟩, ⟨Q56.ok N, Q56.fit N⟩, ⟨Q36.ok N, Q36.fit N⟩, ⟨Q37.ok N, Q37.fit N⟩, ⟨Q38.ok N, Q38.fit N⟩, ⟨Q40.ok N, Q40.fit N⟩, ⟨ih, Q41.fit N⟩⟩), ?_⟩⟩ (Q41.fit (N + 1))
 rw [absFn_n (n0 := 8) rfl (by kernel_rfl)]
 refine (Q41.entry N (run tb (Q41.G N) Q41.A 8 (Q41.fin N) N) x).trans ?_
 have e0 : (fun (best t21_ t22_ : Int) (b_2 : ByteArray) (b_3 b_4 : Int) (b_5 b_6 : Bool) (b_7 b_8 b_9 b_10 b_11 b_12 : Int) (m8_ : LMv) (m9_ : (List TPiece)) (m10_ : LInt) (m11_ : (List TEnd)) (m12_ m13_ m14_ : LInt) (m15_ : (List TUndo)) => run tb (Q41.G N) Q41.A 8 (Q41.fin N) N Q41.k0 (Q41.st0 x.1 x.2.1 best t21_ t22_ b_2 b_3 b_4 b_5 b_6 b_7 b_8 b_9 b_10 b_11 b_12 m8_ m9_ m10_ m11_ m12_ m13_ m14_ m15_)) = Q41.l0 N (Q41 N) x.1 x.2.1 N := by funext best t21_ t22_ b_2 b_3 b_4 b_5 b_6 b_7 b_8 b_9 b_10 b_11 b_12 m8_ m9_ m10_ m11_ m12_ m13_ m14_ m15_; exact (Q41.runs N x.1 x.2.1 N) best t21_ t22_ b_2 b_3 b_4 b_5 b_6 b_7 b_8 b_9 b_10 b_11 b_12 m8_ m9_ m10_ m11_ m12_ m13_ m14_ m15_
 have h' : (Q41.D (N + 1)).f x = Q41.e N (Q41 N) (Q41.l0 N (Q41 N) x.1 x.2.1 N) x.1 x.2.1 := by kernel_rfl
 exact (congrArg (fun r0 => Q41.e N (Q41 N) r0 x.1 x.2.1) e0).trans (h'.symm.trans h)
theorem Q41.ok : ∀ N, FnOk Try.prog 41 (Q41.D N)
 | 0 => FnOk_none Try.func41 (by kernel_rfl) (by kernel_rfl) (fun x => rfl)
 | N + 1 => Q41.ok1 N (Q41.ok N)
def Q19.as : List MK := [.d true qa, .d true qd, .d false tI]
def Q19.rs : List (Bool × HT) := [(false, (.d tI)), (false, (.d tI))]
def Q19.lc : List AC := []
def Q19.D : DFn := ⟨Q19.as, Q19.rs, (Int × Int), fun x => Q19 N x.1 x.2.1 x.2.2.1, fun r o => (r.1, r.2.1), fun b => (b.1, (b.2, ())), fun b => (), none⟩
theorem Q19.fit : (Q19.D N).Fit := ⟨fun _ _ => rfl, fun _ _ => rfl, by kernel_rfl, (fun _ _ h => nomatch h), by kernel_rfl⟩
noncomputable def Q19.G : Gam := gamOf [(21, Q21.D N), (14, Q14.D N), (41, Q41.D N)]
def Q19.A : LA := fun _ => none
noncomputable def Q19.fin : St → Option (Int × Int) := resK tb Try.f19.results.toList (decRes (Q19.D N) Q19.lc)
theorem Q19.entry (rec : RK (Int × Int)) (x : (argH Q19.as).den) : seg tb (Q19.G N) Q19.A 0 rec (Q19.fin N) segFuel [.code (bodyOf Try.f19)] (initSt Try.f19 (encArgs Q19.as x) (encMem Q19.as x)) = Q19.e N x.1 x.2.1 x.2.2.1 := by kernel_rfl
theorem Q19.ok : FnOk Try.prog 19 (Q19.D N) := by
 refine fo ⟨Try.f19, Try.func19, by kernel_rfl, by kernel_rfl, fun x y h => ⟨Q19.G N, Q19.A, N, gamOf_ok (gc ⟨Q21.ok N, Q21.fit N⟩ (gc ⟨Q14.ok N, Q14.fit N⟩ (gc ⟨Q41.ok N, Q41.fit N⟩ gn))), ?_⟩⟩ (Q19.fit N)
 rw [absFn_n (n0 := 0) rfl (by kernel_rfl)]
 exact (Q19.entry N _ x).trans h
def Q22.as : List MK := [.o (.ptr 81 (.prod (.prod (.d .str) (.prod (.d tI) (.prod (.d tI) (.prod (.own 61 qb) (.prod (.own 3 tI) (.prod (.d .bool) (.prod (.d .bool) (.prod (.own 63 qe) (.d qc))))))))) (.prod (.prod (.own 3 tI) (.prod (.prod (.own 3 tI) (.own 3 tI)) (.d (.prod tI tI)))) (.prod (.d (.int .u64)) (.own 107 qf))))) true, .d false tI]
def Q22.rs : List (Bool × HT) := [(true, (.d qc)), (false, (.d tI))]
def Q22.lc : List AC := [.ptr 0 0]
def Q22.D : DFn := ⟨Q22.as, Q22.rs, (TMv × Int × TBoard), fun x => Q22 N x.1 x.2.1, fun r o => (r.1, r.2.1, o.1), fun b => (b.1, (b.2.1, ())), fun b => (b.2.2, ()), none⟩
theorem Q22.fit : (Q22.D N).Fit := ⟨fun _ _ => rfl, fun _ _ => rfl, by kernel_rfl, (fun _ _ h => nomatch h), by kernel_rfl⟩
noncomputable def Q22.G : Gam := gamOf [(36, Q36.D N), (37, Q37.D N), (41, Q41.D N), (38, Q38.D N), (40, Q40.D N)]
def Q22.A : LA := fun k => bif Nat.beq k 0 then some ⟨[0, 1, 4, 6, 7, 12, 13, 14], [], [], [(true, 0, 3, 11), (true, 0, 4, 12), (true, 0, 7, 13), (true, 0, 11, 14), (true, 0, 12, 15), (true, 0, 13, 16), (true, 0, 17, 17)], [], 18, false⟩ else none
noncomputable def Q22.fin : St → Option (TMv × Int × TBoard) := resK tb Try.f22.results.toList (decRes (Q22.D N) Q22.lc)
noncomputable def Q22.k0 : List Item := stackAt [.r, .r, .r, .l, .r, .b] (bodyOf Try.f22) []
def Q22.st0 (b_ : TBoard) (depth most t13_ t14_ : Int) (b_2 : ByteArray) (b_3 b_4 : Int) (b_5 b_6 : Bool) (b_7 b_8 b_9 b_10 b_11 b_12 out out2 out3 : Int) (m10_ : LMv) (m11_ : (List TPiece)) (m12_ : LInt) (m13_ : (List TEnd)) (m14_ m15_ m16_ : LInt) (m17_ : (List TUndo)) : St := ⟨[.one (.ptr 0 0), oi depth, oA, oA, .one (.ptr 8 0), oA, .one (.ptr 9 0), oi most] ++ rA 4 ++ [.one (.own 10), oi t13_, oi t14_] ++ rA 22, [.var 81 [.str b_2, .int .i64 b_3, .int .i64 b_4, .own 11, .own 12, .bool b_5, .bool b_6, .own 13, .int .i64 b_7, .int .i64 b_8, .int .i64 b_9, .own 14, .own 15, .own 16, .int .i64 b_10, .int .i64 b_11, .int .u64 b_12, .own 17], .gone, .gone, .gone, .gone, .gone, .gone, .gone, .var 31 [.int .i64 0, .int .i64 0, .int .i64 0], .var 31 [.int .i64 out, .int .i64 out2, .int .i64 out3], .row 31 qc m10_, .row 61 qb m11_, .row 3 tI m12_, .row 63 qe m13_, .row 3 tI m14_, .row 3 tI m15_, .row 3 tI m16_, .row 107 qf m17_]⟩
theorem Q22.step0 (rec : RK (TMv × Int × TBoard)) (b_ : TBoard) (depth most t13_ t14_ : Int) (b_2 : ByteArray) (b_3 b_4 : Int) (b_5 b_6 : Bool) (b_7 b_8 b_9 b_10 b_11 b_12 out out2 out3 : Int) (m10_ : LMv) (m11_ : (List TPiece)) (m12_ : LInt) (m13_ : (List TEnd)) (m14_ m15_ m16_ : LInt) (m17_ : (List TUndo)) : seg tb (Q22.G N) Q22.A 8 rec (Q22.fin N) segFuel (loopBody Q22.k0) (Q22.st0 b_ depth most t13_ t14_ b_2 b_3 b_4 b_5 b_6 b_7 b_8 b_9 b_10 b_11 b_12 out out2 out3 m10_ m11_ m12_ m13_ m14_ m15_ m16_ m17_) = Q22.s0 N b_ depth (fun most t13_ t14_ b_2 b_3 b_4 b_5 b_6 b_7 b_8 b_9 b_10 b_11 b_12 out out2 out3 m10_ m11_ m12_ m13_ m14_ m15_ m16_ m17_ => rec Q22.k0 (Q22.st0 b_ depth most t13_ t14_ b_2 b_3 b_4 b_5 b_6 b_7 b_8 b_9 b_10 b_11 b_12 out out2 out3 m10_ m11_ m12_ m13_ m14_ m15_ m16_ m17_)) most t13_ t14_ b_2 b_3 b_4 b_5 b_6 b_7 b_8 b_9 b_10 b_11 b_12 out out2 out3 m10_ m11_ m12_ m13_ m14_ m15_ m16_ m17_ := by kernel_rfl
theorem Q22.entry (rec : RK (TMv × Int × TBoard)) (x : (argH Q22.as).den) : seg tb (Q22.G N) Q22.A 8 rec (Q22.fin N) segFuel [.code (bodyOf Try.f22)] (initSt Try.f22 (encArgs Q22.as x) (encMem Q22.as x)) = Q22.e N (fun most t13_ t14_ b_2 b_3 b_4 b_5 b_6 b_7 b_8 b_9 b_10 b_11 b_12 out out2 out3 m10_ m11_ m12_ m13_ m14_ m15_ m16_ m17_ => rec Q22.k0 (Q22.st0 x.1 x.2.1 most t13_ t14_ b_2 b_3 b_4 b_5 b_6 b_7 b_8 b_9 b_10 b_11 b_12 out out2 out3 m10_ m11_ m12_ m13_ m14_ m15_ m16_ m17_)) x.1 x.2.1 := by kernel_rfl
theorem Q22.runs (N : Nat) (b_ : TBoard) (depth : Int) : ∀ n, (∀ (most t13_ t14_ : Int) (b_2 : ByteArray) (b_3 b_4 : Int) (b_5 b_6 : Bool) (b_7 b_8 b_9 b_10 b_11 b_12 out out2 out3 : Int) (m10_ : LMv) (m11_ : (List TPiece)) (m12_ : LInt) (m13_ : (List TEnd)) (m14_ m15_ m16_ : LInt) (m17_ : (List TUndo)), run tb (Q22.G N) Q22.A 8 (Q22.fin N) n Q22.k0 (Q22.st0 b_ depth most t13_ t14_ b_2 b_3 b_4 b_5 b_6 b_7 b_8 b_9 b_10 b_11 b_12 out out2 out3 m10_ m11_ m12_ m13_ m14_ m15_ m16_ m17_) = Q22.l0 N b_ depth n most t13_ t14_ b_2 b_3 b_4 b_5 b_6 b_7 b_8 b_9 b_10 b_11 b_12 out out2 out3 m10_ m11_ m12_ m13_ m14_ m15_ m16_ m17_)
 | 0 => fun _ _ _ _ _ _ _ _ _ _ _ _ _ _ _ _ _ _ _ _ _ _ _ _ _ => rfl
 | n + 1 => by
  have h0 := Q22.runs N b_ depth n
  have e0 : (fun (most t13_ t14_ : Int) (b_2 : ByteArray) (b_3 b_4 : Int) (b_5 b_6 : Bool) (b_7 b_8 b_9 b_10 b_11 b_12 out out2 out3 : Int) (m10_ : LMv) (m11_ : (List TPiece)) (m12_ : LInt) (m13_ : (List TEnd)) (m14_ m15_ m16_ : LInt) (m17_ : (List TUndo)) => run tb (Q22.G N) Q22.A 8 (Q22.fin N) n Q22.k0 (Q22.st0 b_ depth most t13_ t14_ b_2 b_3 b_4 b_5 b_6 b_7 b_8 b_9 b_10 b_11 b_12 out out2 out3 m10_ m11_ m12_ m13_ m14_ m15_ m16_ m17_)) = Q22.l0 N b_ depth n := by funext most t13_ t14_ b_2 b_3 b_4 b_5 b_6 b_7 b_8 b_9 b_10 b_11 b_12 out out2 out3 m10_ m11_ m12_ m13_ m14_ m15_ m16_ m17_; exact h0 most t13_ t14_ b_2 b_3 b_4 b_5 b_6 b_7 b_8 b_9 b_10 b_11 b_12 out out2 out3 m10_ m11_ m12_ m13_ m14_ m15_ m16_ m17_
  have g0 : (∀ (most t13_ t14_ : Int) (b_2 : ByteArray) (b_3 b_4 : Int) (b_5 b_6 : Bool) (b_7 b_8 b_9 b_10 b_11 b_12 out out2 out3 : Int) (m10_ : LMv) (m11_ : (List TPiece)) (m12_ : LInt) (m13_ : (List TEnd)) (m14_ m15_ m16_ : LInt) (m17_ : (List TUndo)), run tb (Q22.G N) Q22.A 8 (Q22.fin N) (n + 1) Q22.k0 (Q22.st0 b_ depth most t13_ t14_ b_2 b_3 b_4 b_5 b_6 b_7 b_8 b_9 b_10 b_11 b_12 out out2 out3 m10_ m11_ m12_ m13_ m14_ m15_ m16_ m17_) = Q22.l0 N b_ depth (n + 1) most t13_ t14_ b_2 b_3 b_4 b_5 b_6 b_7 b_8 b_9 b_10 b_11 b_12 out out2 out3 m10_ m11_ m12_ m13_ m14_ m15_ m16_ m17_) := by
   intro most t13_ t14_ b_2 b_3 b_4 b_5 b_6 b_7 b_8 b_9 b_10 b_11 b_12 out out2 out3 m10_ m11_ m12_ m13_ m14_ m15_ m16_ m17_
   exact (run_succ (by kernel_rfl)).trans ((Q22.step0 N _ b_ depth most t13_ t14_ b_2 b_3 b_4 b_5 b_6 b_7 b_8 b_9 b_10 b_11 b_12 out out2 out3 m10_ m11_ m12_ m13_ m14_ m15_ m16_ m17_).trans ((congrArg (fun r0 => Q22.s0 N b_ depth r0 most t13_ t14_ b_2 b_3 b_4 b_5 b_6 b_7 b_8 b_9 b_10 b_11 b_12 out out2 out3 m10_ m11_ m12_ m13_ m14_ m15_ m16_ m17_) e0).trans (Q22.l0_s N b_ depth n most t13_ t14_ b_2 b_3 b_4 b_5 b_6 b_7 b_8 b_9 b_10 b_11 b_12 out out2 out3 m10_ m11_ m12_ m13_ m14_ m15_ m16_ m17_).symm))
  exact g0
theorem Q22.ok : FnOk Try.prog 22 (Q22.D N) := by
 refine fo ⟨Try.f22, Try.func22, by kernel_rfl, by kernel_rfl, fun x y h => ⟨Q22.G N, Q22.A, N, gamOf_ok (gc ⟨Q36.ok N, Q36.fit N⟩ (gc ⟨Q37.ok N, Q37.fit N⟩ (gc ⟨Q41.ok N, Q41.fit N⟩ (gc ⟨Q38.ok N, Q38.fit N⟩ (gc ⟨Q40.ok N, Q40.fit N⟩ gn))))), ?_⟩⟩ (Q22.fit N)
 rw [absFn_n (n0 := 8) rfl (by kernel_rfl)]
 refine (Q22.entry N (run tb (Q22.G N) Q22.A 8 (Q22.fin N) N) x).trans ?_
 have e0 : (fun (most t13_ t14_ : Int) (b_2 : ByteArray) (b_3 b_4 : Int) (b_5 b_6 : Bool) (b_7 b_8 b_9 b_10 b_11 b_12 out out2 out3 : Int) (m10_ : LMv) (m11_ : (List TPiece)) (m12_ : LInt) (m13_ : (List TEnd)) (m14_ m15_ m16_ : LInt) (m17_ : (List TUndo)) => run tb (Q22.G N) Q22.A 8 (Q22.fin N) N Q22.k0 (Q22.st0 x.1 x.2.1 most t13_ t14_ b_2 b_3 b_4 b_5 b_6 b_7 b_8 b_9 b_10 b_11 b_12 out out2 out3 m10_ m11_ m12_ m13_ m14_ m15_ m16_ m17_)) = Q22.l0 N x.1 x.2.1 N := by funext most t13_ t14_ b_2 b_3 b_4 b_5 b_6 b_7 b_8 b_9 b_10 b_11 b_12 out out2 out3 m10_ m11_ m12_ m13_ m14_ m15_ m16_ m17_; exact (Q22.runs N x.1 x.2.1 N) most t13_ t14_ b_2 b_3 b_4 b_5 b_6 b_7 b_8 b_9 b_10 b_11 b_12 out out2 out3 m10_ m11_ m12_ m13_ m14_ m15_ m16_ m17_
 have h' : (Q22.D N).f x = Q22.e N (Q22.l0 N x.1 x.2.1 N) x.1 x.2.1 := by kernel_rfl
 exact (congrArg (fun r0 => Q22.e N r0 x.1 x.2.1) e0).trans (h'.symm.trans h)
def Q11.as : List MK := [.d true qa, .d true qd, .d false tI]
def Q11.rs : List (Bool × HT) := [(true, (.d qc)), (false, (.d tI)), (false, (.d tI))]
def Q11.lc : List AC := []
def Q11.D : DFn := ⟨Q11.as, Q11.rs, (TMv × Int × Int), fun x => Q11 N x.1 x.2.1 x.2.2.1, fun r o => (r.1, r.2.1, r.2.2.1), fun b => (b.1, (b.2.1, (b.2.2, ()))), fun b => (), none⟩
theorem Q11.fit : (Q11.D N).Fit := ⟨fun _ _ => rfl, fun _ _ => rfl, by kernel_rfl, (fun _ _ h => nomatch h), by kernel_rfl⟩
noncomputable def Q11.G : Gam := gamOf [(21, Q21.D N), (14, Q14.D N), (15, Q15.D N), (22, Q22.D N)]
def Q11.A : LA := fun _ => none
noncomputable def Q11.fin : St → Option (TMv × Int × Int) := resK tb Try.f11.results.toList (decRes (Q11.D N) Q11.lc)
theorem Q11.entry (rec : RK (TMv × Int × Int)) (x : (argH Q11.as).den) : seg tb (Q11.G N) Q11.A 0 rec (Q11.fin N) segFuel [.code (bodyOf Try.f11)] (initSt Try.f11 (encArgs Q11.as x) (encMem Q11.as x)) = Q11.e N x.1 x.2.1 x.2.2.1 := by kernel_rfl
theorem Q11.ok : FnOk Try.prog 11 (Q11.D N) := by
 refine fo ⟨Try.f11, Try.func11, by kernel_rfl, by kernel_rfl, fun x y h => ⟨Q11.G N, Q11.A, N, gamOf_ok (gc ⟨Q21.ok N, Q21.fit N⟩ (gc ⟨Q14.ok N, Q14.fit N⟩ (gc ⟨Q15.ok N, Q15.fit N⟩ (gc ⟨Q22.ok N, Q22.fit N⟩ gn)))), ?_⟩⟩ (Q11.fit N)
 rw [absFn_n (n0 := 0) rfl (by kernel_rfl)]
 exact (Q11.entry N _ x).trans h
def Q26.as : List MK := [.d false tI]
def Q26.rs : List (Bool × HT) := [(false, (.d .bool))]
def Q26.lc : List AC := []
def Q26.D : DFn := ⟨Q26.as, Q26.rs, Bool, fun x => Q26 N x.1, fun r o => r.1, fun b => (b, ()), fun b => (), none⟩
theorem Q26.fit : (Q26.D N).Fit := ⟨fun _ _ => rfl, fun _ _ => rfl, by kernel_rfl, (fun _ _ h => nomatch h), by kernel_rfl⟩
noncomputable def Q26.G (N : Nat) : Gam := gamOf []
def Q26.A : LA := fun _ => none
noncomputable def Q26.fin : St → Option Bool := resK tb Try.f26.results.toList (decRes (Q26.D N) Q26.lc)
theorem Q26.entry (rec : RK Bool) (x : (argH Q26.as).den) : seg tb (Q26.G N) Q26.A 0 rec (Q26.fin N) segFuel [.code (bodyOf Try.f26)] (initSt Try.f26 (encArgs Q26.as x) (encMem Q26.as x)) = Q26.e N x.1 := by kernel_rfl
theorem Q26.ok : FnOk Try.prog 26 (Q26.D N) := by
 refine fo ⟨Try.f26, Try.func26, by kernel_rfl, by kernel_rfl, fun x y h => ⟨Q26.G N, Q26.A, N, gamOf_ok (fun p hp => nomatch hp), ?_⟩⟩ (Q26.fit N)
 rw [absFn_n (n0 := 0) rfl (by kernel_rfl)]
 exact (Q26.entry N _ x).trans h
def Q42.as : List MK := [.d false (.slice 34 tI), .f 26]
def Q42.rs : List (Bool × HT) := [(false, (.d tI))]
def Q42.lc : List AC := []
def Q42.D : DFn := ⟨Q42.as, Q42.rs, Int, fun x => Q42 N x.1, fun r o => r.1, fun b => (b, ()), fun b => (), none⟩
theorem Q42.fit : (Q42.D N).Fit := ⟨fun _ _ => rfl, fun _ _ => rfl, by kernel_rfl, (fun _ _ h => nomatch h), by kernel_rfl⟩
noncomputable def Q42.G : Gam := gamOf [(26, Q26.D N)]
def Q42.A : LA := fun k => bif Nat.beq k 0 then some ⟨[0, 1, 7, 8], [], [], [], [], 0, false⟩ else none
noncomputable def Q42.fin : St → Option Int := resK tb Try.f42.results.toList (decRes (Q42.D N) Q42.lc)
noncomputable def Q42.k0 : List Item := stackAt [.r, .l, .r, .b] (bodyOf Try.f42) []
def Q42.st0 (s_ : LInt) (t8_ : Int) : St := ⟨[.one (.fro 34 tI s_), .one (.fn 26)] ++ rA 5 ++ [oi (s_.length : Int), oi t8_] ++ rA 10, []⟩
theorem Q42.step0 (rec : RK Int) (s_ : LInt) (t8_ : Int) : seg tb (Q42.G N) Q42.A 0 rec (Q42.fin N) segFuel (loopBody Q42.k0) (Q42.st0 s_ t8_) = Q42.s0 N s_ (fun t8_ => rec Q42.k0 (Q42.st0 s_ t8_)) t8_ := by kernel_rfl
theorem Q42.entry (rec : RK Int) (x : (argH Q42.as).den) : seg tb (Q42.G N) Q42.A 0 rec (Q42.fin N) segFuel [.code (bodyOf Try.f42)] (initSt Try.f42 (encArgs Q42.as x) (encMem Q42.as x)) = Q42.e N (fun t8_ => rec Q42.k0 (Q42.st0 x.1 t8_)) x.1 := by kernel_rfl
theorem Q42.runs (N : Nat) (s_ : LInt) : ∀ n, (∀ (t8_ : Int), run tb (Q42.G N) Q42.A 0 (Q42.fin N) n Q42.k0 (Q42.st0 s_ t8_) = Q42.l0 N s_ n t8_)
 | 0 => fun _ => rfl
 | n + 1 => by
  have h0 := Q42.runs N s_ n
  have e0 : (fun (t8_ : Int) => run tb (Q42.G N) Q42.A 0 (Q42.fin N) n Q42.k0 (Q42.st0 s_ t8_)) = Q42.l0 N s_ n := by funext t8_; exact h0 t8_
  have g0 : (∀ (t8_ : Int), run tb (Q42.G N) Q42.A 0 (Q42.fin N) (n + 1) Q42.k0 (Q42.st0 s_ t8_) = Q42.l0 N s_ (n + 1) t8_) := by
   intro t8_
   exact (run_succ (by kernel_rfl)).trans ((Q42.step0 N _ s_ t8_).trans ((congrArg (fun r0 => Q42.s0 N s_ r0 t8_) e0).trans (Q42.l0_s N s_ n t8_).symm))
  exact g0
theorem Q42.ok : FnOk Try.prog 42 (Q42.D N) := by
 refine fo ⟨Try.f42, Try.func42, by kernel_rfl, by kernel_rfl, fun x y h => ⟨Q42.G N, Q42.A, N, gamOf_ok (gc ⟨Q26.ok N, Q26.fit N⟩ gn), ?_⟩⟩ (Q42.fit N)
 rw [absFn_n (n0 := 0) rfl (by kernel_rfl)]
 refine (Q42.entry N (run tb (Q42.G N) Q42.A 0 (Q42.fin N) N) x).trans ?_
 have e0 : (fun (t8_ : Int) => run tb (Q42.G N) Q42.A 0 (Q42.fin N) N Q42.k0 (Q42.st0 x.1 t8_)) = Q42.l0 N x.1 N := by funext t8_; exact (Q42.runs N x.1 N) t8_
 have h' : (Q42.D N).f x = Q42.e N (Q42.l0 N x.1 N) x.1 := by kernel_rfl
 exact (congrArg (fun r0 => Q42.e N r0 x.1) e0).trans (h'.symm.trans h)
def Q25.as : List MK := [.d false (.slice 34 tI), .f 26]
def Q25.rs : List (Bool × HT) := [(false, (.d .bool))]
def Q25.lc : List AC := []
def Q25.D : DFn := ⟨Q25.as, Q25.rs, Bool, fun x => Q25 N x.1, fun r o => r.1, fun b => (b, ()), fun b => (), none⟩
theorem Q25.fit : (Q25.D N).Fit := ⟨fun _ _ => rfl, fun _ _ => rfl, by kernel_rfl, (fun _ _ h => nomatch h), by kernel_rfl⟩
noncomputable def Q25.G : Gam := gamOf [(42, Q42.D N)]
def Q25.A : LA := fun _ => none
noncomputable def Q25.fin : St → Option Bool := resK tb Try.f25.results.toList (decRes (Q25.D N) Q25.lc)
theorem Q25.entry (rec : RK Bool) (x : (argH Q25.as).den) : seg tb (Q25.G N) Q25.A 0 rec (Q25.fin N) segFuel [.code (bodyOf Try.f25)] (initSt Try.f25 (encArgs Q25.as x) (encMem Q25.as x)) = Q25.e N x.1 := by kernel_rfl
theorem Q25.ok : FnOk Try.prog 25 (Q25.D N) := by
 refine fo ⟨Try.f25, Try.func25, by kernel_rfl, by kernel_rfl, fun x y h => ⟨Q25.G N, Q25.A, N, gamOf_ok (gc ⟨Q42.ok N, Q42.fit N⟩ gn), ?_⟩⟩ (Q25.fit N)
 rw [absFn_n (n0 := 0) rfl (by kernel_rfl)]
 exact (Q25.entry N _ x).trans h
def Q13.as : List MK := [.d false (.slice 34 tI)]
def Q13.rs : List (Bool × HT) := [(false, (.d .bool))]
def Q13.lc : List AC := []
def Q13.D : DFn := ⟨Q13.as, Q13.rs, Bool, fun x => Q13 N x.1, fun r o => r.1, fun b => (b, ()), fun b => (), none⟩
theorem Q13.fit : (Q13.D N).Fit := ⟨fun _ _ => rfl, fun _ _ => rfl, by kernel_rfl, (fun _ _ h => nomatch h), by kernel_rfl⟩
noncomputable def Q13.G : Gam := gamOf [(25, Q25.D N)]
def Q13.A : LA := fun _ => none
noncomputable def Q13.fin : St → Option Bool := resK tb Try.f13.results.toList (decRes (Q13.D N) Q13.lc)
theorem Q13.entry (rec : RK Bool) (x : (argH Q13.as).den) : seg tb (Q13.G N) Q13.A 0 rec (Q13.fin N) segFuel [.code (bodyOf Try.f13)] (initSt Try.f13 (encArgs Q13.as x) (encMem Q13.as x)) = Q13.e N x.1 := by kernel_rfl
theorem Q13.ok : FnOk Try.prog 13 (Q13.D N) := by
 refine fo ⟨Try.f13, Try.func13, by kernel_rfl, by kernel_rfl, fun x y h => ⟨Q13.G N, Q13.A, N, gamOf_ok (gc ⟨Q25.ok N, Q25.fit N⟩ gn), ?_⟩⟩ (Q13.fit N)
 rw [absFn_n (n0 := 0) rfl (by kernel_rfl)]
 exact (Q13.entry N _ x).trans h
def Q8.as : List MK := []
def Q8.rs : List (Bool × HT) := [(false, (.d .bool))]
def Q8.lc : List AC := []
def Q8.D : DFn := ⟨Q8.as, Q8.rs, Bool, fun x => Q8 N, fun r o => r.1, fun b => (b, ()), fun b => (), none⟩
theorem Q8.fit : (Q8.D N).Fit := ⟨fun _ _ => rfl, fun _ _ => rfl, by kernel_rfl, (fun _ _ h => nomatch h), by kernel_rfl⟩
noncomputable def Q8.G : Gam := gamOf [(5, Q5.D N), (6, Q6.D N), (19, Q19.D N), (11, Q11.D N), (13, Q13.D N), (7, Q7.D N)]
def Q8.A : LA := fun _ => none
noncomputable def Q8.fin : St → Option Bool := resK tb Try.f8.results.toList (decRes (Q8.D N) Q8.lc)
theorem Q8.entry (rec : RK Bool) (x : (argH Q8.as).den) : seg tb (Q8.G N) Q8.A 0 rec (Q8.fin N) segFuel [.code (bodyOf Try.f8)] (initSt Try.f8 (encArgs Q8.as x) (encMem Q8.as x)) = Q8.e N := by kernel_rfl
theorem Q8.ok : FnOk Try.prog 8 (Q8.D N) := by
 refine fo ⟨Try.f8, Try.func8, by kernel_rfl, by kernel_rfl, fun x y h => ⟨Q8.G N, Q8.A, N, gamOf_ok (gc ⟨Q5.ok N, Q5.fit N⟩ (gc ⟨Q6.ok N, Q6.fit N⟩ (gc ⟨Q19.ok N, Q19.fit N⟩ (gc ⟨Q11.ok N, Q11.fit N⟩ (gc ⟨Q13.ok N, Q13.fit N⟩ (gc ⟨Q7.ok N, Q7.fit N⟩ gn)))))), ?_⟩⟩ (Q8.fit N)
 rw [absFn_n (n0 := 0) rfl (by kernel_rfl)]
 exact (Q8.entry N _ x).trans h
def Q20.as : List MK := [.d true qa, .d true qd, .d false tI]
def Q20.rs : List (Bool × HT) := [(false, (.d tI)), (false, (.d tI))]
def Q20.lc : List AC := []
def Q20.D : DFn := ⟨Q20.as, Q20.rs, (Int × Int), fun x => Q20 N x.1 x.2.1 x.2.2.1, fun r o => (r.1, r.2.1), fun b => (b.1, (b.2, ())), fun b => (), none⟩
theorem Q20.fit : (Q20.D N).Fit := ⟨fun _ _ => rfl, fun _ _ => rfl, by kernel_rfl, (fun _ _ h => nomatch h), by kernel_rfl⟩
noncomputable def Q20.G : Gam := gamOf [(23, Q23.D N), (24, Q24.D N)]
def Q20.A : LA := fun _ => none
noncomputable def Q20.fin : St → Option (Int × Int) := resK tb Try.f20.results.toList (decRes (Q20.D N) Q20.lc)
theorem Q20.entry (rec : RK (Int × Int)) (x : (argH Q20.as).den) : seg tb (Q20.G N) Q20.A 0 rec (Q20.fin N) segFuel [.code (bodyOf Try.f20)] (initSt Try.f20 (encArgs Q20.as x) (encMem Q20.as x)) = Q20.e N x.1 x.2.1 x.2.2.1 := by kernel_rfl
theorem Q20.ok : FnOk Try.prog 20 (Q20.D N) := by
 refine fo ⟨Try.f20, Try.func20, by kernel_rfl, by kernel_rfl, fun x y h => ⟨Q20.G N, Q20.A, N, gamOf_ok (gc ⟨Q23.ok N, Q23.fit N⟩ (gc ⟨Q24.ok N, Q24.fit N⟩ gn)), ?_⟩⟩ (Q20.fit N)
 rw [absFn_n (n0 := 0) rfl (by kernel_rfl)]
 exact (Q20.entry N _ x).trans h
def Q9.as : List MK := []
def Q9.rs : List (Bool × HT) := [(false, (.d .bool))]
def Q9.lc : List AC := []
def Q9.D : DFn := ⟨Q9.as, Q9.rs, Bool, fun x => Q9 N, fun r o => r.1, fun b => (b, ()), fun b => (), none⟩
theorem Q9.fit : (Q9.D N).Fit := ⟨fun _ _ => rfl, fun _ _ => rfl, by kernel_rfl, (fun _ _ h => nomatch h), by kernel_rfl⟩
noncomputable def Q9.G : Gam := gamOf [(5, Q5.D N), (6, Q6.D N), (20, Q20.D N), (12, Q12.D N), (13, Q13.D N)]
def Q9.A : LA := fun _ => none
noncomputable def Q9.fin : St → Option Bool := resK tb Try.f9.results.toList (decRes (Q9.D N) Q9.lc)
theorem Q9.entry (rec : RK Bool) (x : (argH Q9.as).den) : seg tb (Q9.G N) Q9.A 0 rec (Q9.fin N) segFuel [.code (bodyOf Try.f9)] (initSt Try.f9 (encArgs Q9.as x) (encMem Q9.as x)) = Q9.e N := by kernel_rfl
theorem Q9.ok : FnOk Try.prog 9 (Q9.D N) := by
 refine fo ⟨Try.f9, Try.func9, by kernel_rfl, by kernel_rfl, fun x y h => ⟨Q9.G N, Q9.A, N, gamOf_ok (gc ⟨Q5.ok N, Q5.fit N⟩ (gc ⟨Q6.ok N, Q6.fit N⟩ (gc ⟨Q20.ok N, Q20.fit N⟩ (gc ⟨Q12.ok N, Q12.fit N⟩ (gc ⟨Q13.ok N, Q13.fit N⟩ gn))))), ?_⟩⟩ (Q9.fit N)
 rw [absFn_n (n0 := 0) rfl (by kernel_rfl)]
 exact (Q9.entry N _ x).trans h
def Q10.as : List MK := [.d true qa, .d true qd, .d false tI]
def Q10.rs : List (Bool × HT) := [(false, (.d .bool))]
def Q10.lc : List AC := []
def Q10.D : DFn := ⟨Q10.as, Q10.rs, Bool, fun x => Q10 N x.1 x.2.1 x.2.2.1, fun r o => r.1, fun b => (b, ()), fun b => (), none⟩
theorem Q10.fit : (Q10.D N).Fit := ⟨fun _ _ => rfl, fun _ _ => rfl, by kernel_rfl, (fun _ _ h => nomatch h), by kernel_rfl⟩
noncomputable def Q10.G : Gam := gamOf [(12, Q12.D N)]
def Q10.A : LA := fun _ => none
noncomputable def Q10.fin : St → Option Bool := resK tb Try.f10.results.toList (decRes (Q10.D N) Q10.lc)
theorem Q10.entry (rec : RK Bool) (x : (argH Q10.as).den) : seg tb (Q10.G N) Q10.A 0 rec (Q10.fin N) segFuel [.code (bodyOf Try.f10)] (initSt Try.f10 (encArgs Q10.as x) (encMem Q10.as x)) = Q10.e N x.1 x.2.1 x.2.2.1 := by kernel_rfl
theorem Q10.ok : FnOk Try.prog 10 (Q10.D N) := by
 refine fo ⟨Try.f10, Try.func10, by kernel_rfl, by kernel_rfl, fun x y h => ⟨Q10.G N, Q10.A, N, gamOf_ok (gc ⟨Q12.ok N, Q12.fit N⟩ gn), ?_⟩⟩ (Q10.fit N)
 rw [absFn_n (n0 := 0) rfl (by kernel_rfl)]
 exact (Q10.entry N _ x).trans h
def Q3.as : List MK := [.d true qa, .d true qd, .d false tI, .d false tI]
def Q3.rs : List (Bool × HT) := [(false, (.d .bool))]
def Q3.lc : List AC := []
def Q3.D : DFn := ⟨Q3.as, Q3.rs, Bool, fun x => Q3 N x.1 x.2.1 x.2.2.1 x.2.2.2.1, fun r o => r.1, fun b => (b, ()), fun b => (), none⟩
theorem Q3.fit : (Q3.D N).Fit := ⟨fun _ _ => rfl, fun _ _ => rfl, by kernel_rfl, (fun _ _ h => nomatch h), by kernel_rfl⟩
noncomputable def Q3.G : Gam := gamOf [(5, Q5.D N), (6, Q6.D N), (4, Q4.D N), (7, Q7.D N), (8, Q8.D N), (9, Q9.D N), (10, Q10.D N), (11, Q11.D N), (12, Q12.D N), (13, Q13.D N)]
def Q3.A : LA := fun _ => none
noncomputable def Q3.fin : St → Option Bool := resK tb Try.f3.results.toList (decRes (Q3.D N) Q3.lc)
theorem Q3.entry (rec : RK Bool) (x : (argH Q3.as).den) : seg tb (Q3.G N) Q3.A 0 rec (Q3.fin N) segFuel [.code (bodyOf Try.f3)] (initSt Try.f3 (encArgs Q3.as x) (encMem Q3.as x)) = Q3.e N x.1 x.2.1 x.2.2.1 x.2.2.2.1 := by kernel_rfl
theorem Q3.ok : FnOk Try.prog 3 (Q3.D N) := by
 refine fo ⟨Try.f3, Try.func3, by kernel_rfl, by kernel_rfl, fun x y h => ⟨Q3.G N, Q3.A, N, gamOf_ok (gc ⟨Q5.ok N, Q5.fit N⟩ (gc ⟨Q6.ok N, Q6.fit N⟩ (gc ⟨Q4.ok N, Q4.fit N⟩ (gc ⟨Q7.ok N, Q7.fit N⟩ (gc ⟨Q8.ok N, Q8.fit N⟩ (gc ⟨Q9.ok N, Q9.fit N⟩ (gc ⟨Q10.ok N, Q10.fit N⟩ (gc ⟨Q11.ok N, Q11.fit N⟩ (gc ⟨Q12.ok N, Q12.fit N⟩ (gc ⟨Q13.ok N, Q13.fit N⟩ gn)))))))))), ?_⟩⟩ (Q3.fit N)
 rw [absFn_n (n0 := 0) rfl (by kernel_rfl)]
 exact (Q3.entry N _ x).trans h
end
end Go.Proofs.Ytlfhchkhbecmbaa.Am
