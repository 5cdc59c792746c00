/- PRINTED by gen.py: the abstract machine evaluates the loaded code to these functions. -/
import Derived.Test.YtnddjmhpofhfjaaEvt2
set_option linter.unusedVariables false
set_option linter.unusedSimpArgs false
namespace Go.Proofs.Ytnddjmhpofhfjaa.Am
open Go
noncomputable section
variable (N : Nat)
set_option maxRecDepth 100000
def Q65.as : List MK := [.o (.ptr 106 (.prod (.ptr 119 (.prod (.prod (.d .str) (.prod (.d tI) (.prod (.d tI) (.prod (.own 80 qb) (.prod (.own 3 tI) (.prod (.d .bool) (.prod (.d .bool) (.prod (.own 82 qe) (.d qc))))))))) (.prod (.prod (.own 3 tI) (.prod (.prod (.own 3 tI) (.own 3 tI)) (.d (.prod tI tI)))) (.prod (.d (.int .u64)) (.own 149 qf))))) (.d (.prod tI tI)))) true, .o (.nd 111 107 (.slice 37 qc) (.prod tI (.prod tI .bool))) true]
def Q65.rs : List (Bool × HT) := []
def Q65.lc (x_ : (TBoard × (Int × Int))) (n_ : ((List TPN) × Int)) : List AC := [.ptr 0 0, .nr n_.2]
def Q65.D : DFn := ⟨Q65.as, Q65.rs, ((TBoard × (Int × Int)) × ((List TPN) × Int)), fun x => Q65 N x.1 x.2.1, fun r o => (o.1, o.2.1), fun b => (), fun b => (b.1, (b.2, ())), some [1]⟩
theorem Q65.fit : (Q65.D N).Fit := ⟨fun _ _ => rfl, fun _ _ => rfl, by kernel_rfl, (fun x L h => by cases h; kernel_rfl), by kernel_rfl⟩
noncomputable def Q65.G : Gam := gamOf [(24, Q24.D N), (47, Q47.D N), (40, Q40.D N), (48, Q48.D N)]
def Q65.A : LA := fun k => bif Nat.beq k 0 then some ⟨[0, 1, 27, 28, 29], [], [], [(true, 1, 3, 11), (true, 1, 4, 12), (true, 1, 7, 13), (true, 1, 11, 14), (true, 1, 12, 15), (true, 1, 13, 16), (true, 1, 17, 17), (false, 1000000, 0, 18)], [], 19, false⟩ else bif Nat.beq k 3000040 then some ⟨[], [], [], [], [], 0, false⟩ else bif Nat.beq k 3000047 then some ⟨[], [], [], [], [], 0, false⟩ else none
noncomputable def Q65.fin (x_ : (TBoard × (Int × Int))) (n_ : ((List TPN) × Int)) : St → Option ((TBoard × (Int × Int)) × ((List TPN) × Int)) := resK tb Try.f65.results.toList (decRes (Q65.D N) (Q65.lc x_ n_))
noncomputable def Q65.k0 : List Item := stackAt [.r, .r, .r, .r, .b] (bodyOf Try.f65) []
def Q65.st0 (x_ : (TBoard × (Int × Int))) (n_ : ((List TPN) × Int)) (t27_ : LMv) (t28_ t29_ x_2 x_3 : Int) (m1_ : ByteArray) (m1_2 m1_3 : Int) (m1_4 m1_5 : Bool) (m1_6 m1_7 m1_8 m1_9 m1_10 m1_11 : Int) (m11_ : (List TPiece)) (m12_ : LInt) (m13_ : (List TEnd)) (m14_ m15_ m16_ : LInt) (m17_ : (List TUndo)) (nodes : (List TPN)) : St := ⟨[.one (.ptr 0 0), .one (.nr n_.2)] ++ rA 25 ++ [.one (.fro 37 qc t27_), oi t28_, oi t29_] ++ rA 26, [.var 106 [.ptr 1 0, .int .i64 x_2, .int .i64 x_3], .var 119 [.str m1_, .int .i64 m1_2, .int .i64 m1_3, .own 11, .own 12, .bool m1_4, .bool m1_5, .own 13, .int .i64 m1_6, .int .i64 m1_7, .int .i64 m1_8, .own 14, .own 15, .own 16, .int .i64 m1_9, .int .i64 m1_10, .int .u64 m1_11, .own 17], .gone, .gone, .gone, .gone, .gone, .gone, .gone, .gone, .gone, .row 80 qb m11_, .row 3 tI m12_, .row 82 qe m13_, .row 3 tI m14_, .row 3 tI m15_, .row 3 tI m16_, .row 149 qf m17_, .arena 111 107 (.slice 37 qc) (.prod tI (.prod tI .bool)) nodes none]⟩
theorem Q65.step0 (rec : RK ((TBoard × (Int × Int)) × ((List TPN) × Int))) (x_ : (TBoard × (Int × Int))) (n_ : ((List TPN) × Int)) (t27_ : LMv) (t28_ t29_ x_2 x_3 : Int) (m1_ : ByteArray) (m1_2 m1_3 : Int) (m1_4 m1_5 : Bool) (m1_6 m1_7 m1_8 m1_9 m1_10 m1_11 : Int) (m11_ : (List TPiece)) (m12_ : LInt) (m13_ : (List TEnd)) (m14_ m15_ m16_ : LInt) (m17_ : (List TUndo)) (nodes : (List TPN)) : seg tb (Q65.G N) Q65.A 10 rec (Q65.fin N x_ n_) segFuel (loopBody Q65.k0) (Q65.st0 x_ n_ t27_ t28_ t29_ x_2 x_3 m1_ m1_2 m1_3 m1_4 m1_5 m1_6 m1_7 m1_8 m1_9 m1_10 m1_11 m11_ m12_ m13_ m14_ m15_ m16_ m17_ nodes) = Q65.s0 N x_ n_ (fun t27_ t28_ t29_ x_2 x_3 m1_ m1_2 m1_3 m1_4 m1_5 m1_6 m1_7 m1_8 m1_9 m1_10 m1_11 m11_ m12_ m13_ m14_ m15_ m16_ m17_ nodes => rec Q65.k0 (Q65.st0 x_ n_ t27_ t28_ t29_ x_2 x_3 m1_ m1_2 m1_3 m1_4 m1_5 m1_6 m1_7 m1_8 m1_9 m1_10 m1_11 m11_ m12_ m13_ m14_ m15_ m16_ m17_ nodes)) t27_ t28_ t29_ x_2 x_3 m1_ m1_2 m1_3 m1_4 m1_5 m1_6 m1_7 m1_8 m1_9 m1_10 m1_11 m11_ m12_ m13_ m14_ m15_ m16_ m17_ nodes := by kernel_rfl
theorem Q65.entry (rec : RK ((TBoard × (Int × Int)) × ((List TPN) × Int))) (x : (argH Q65.as).den) : seg tb (Q65.G N) Q65.A 10 rec (Q65.fin N x.1 x.2.1) segFuel [.code (bodyOf Try.f65)] (initSt Try.f65 (encArgs Q65.as x) (encMem Q65.as x)) = Q65.e N (fun t27_ t28_ t29_ x_2 x_3 m1_ m1_2 m1_3 m1_4 m1_5 m1_6 m1_7 m1_8 m1_9 m1_10 m1_11 m11_ m12_ m13_ m14_ m15_ m16_ m17_ nodes => rec Q65.k0 (Q65.st0 x.1 x.2.1 t27_ t28_ t29_ x_2 x_3 m1_ m1_2 m1_3 m1_4 m1_5 m1_6 m1_7 m1_8 m1_9 m1_10 m1_11 m11_ m12_ m13_ m14_ m15_ m16_ m17_ nodes)) x.1 x.2.1 := by kernel_rfl
theorem Q65.runs (N : Nat) (x_ : (TBoard × (Int × Int))) (n_ : ((List TPN) × Int)) : ∀ n, (∀ (t27_ : LMv) (t28_ t29_ x_2 x_3 : Int) (m1_ : ByteArray) (m1_2 m1_3 : Int) (m1_4 m1_5 : Bool) (m1_6 m1_7 m1_8 m1_9 m1_10 m1_11 : Int) (m11_ : (List TPiece)) (m12_ : LInt) (m13_ : (List TEnd)) (m14_ m15_ m16_ : LInt) (m17_ : (List TUndo)) (nodes : (List TPN)), run tb (Q65.G N) Q65.A 10 (Q65.fin N x_ n_) n Q65.k0 (Q65.st0 x_ n_ t27_ t28_ t29_ x_2 x_3 m1_ m1_2 m1_3 m1_4 m1_5 m1_6 m1_7 m1_8 m1_9 m1_10 m1_11 m11_ m12_ m13_ m14_ m15_ m16_ m17_ nodes) = Q65.l0 N x_ n_ n t27_ t28_ t29_ x_2 x_3 m1_ m1_2 m1_3 m1_4 m1_5 m1_6 m1_7 m1_8 m1_9 m1_10 m1_11 m11_ m12_ m13_ m14_ m15_ m16_ m17_ nodes)
 | 0 => fun _ _ _ _ _ _ _ _ _ _ _ _ _ _ _ _ _ _ _ _ _ _ _ _ => rfl
 | n + 1 => by
  have h0 := Q65.runs N x_ n_ n
  have e0 : (fun (t27_ : LMv) (t28_ t29_ x_2 x_3 : Int) (m1_ : ByteArray) (m1_2 m1_3 : Int) (m1_4 m1_5 : Bool) (m1_6 m1_7 m1_8 m1_9 m1_10 m1_11 : Int) (m11_ : (List TPiece)) (m12_ : LInt) (m13_ : (List TEnd)) (m14_ m15_ m16_ : LInt) (m17_ : (List TUndo)) (nodes : (List TPN)) => run tb (Q65.G N) Q65.A 10 (Q65.fin N x_ n_) n Q65.k0 (Q65.st0 x_ n_ t27_ t28_ t29_ x_2 x_3 m1_ m1_2 m1_3 m1_4 m1_5 m1_6 m1_7 m1_8 m1_9 m1_10 m1_11 m11_ m12_ m13_ m14_ m15_ m16_ m17_ nodes)) = Q65.l0 N x_ n_ n := by funext t27_ t28_ t29_ x_2 x_3 m1_ m1_2 m1_3 m1_4 m1_5 m1_6 m1_7 m1_8 m1_9 m1_10 m1_11 m11_ m12_ m13_ m14_ m15_ m16_ m17_ nodes; exact h0 t27_ t28_ t29_ x_2 x_3 m1_ m1_2 m1_3 m1_4 m1_5 m1_6 m1_7 m1_8 m1_9 m1_10 m1_11 m11_ m12_ m13_ m14_ m15_ m16_ m17_ nodes
  have g0 : (∀ (t27_ : LMv) (t28_ t29_ x_2 x_3 : Int) (m1_ : ByteArray) (m1_2 m1_3 : Int) (m1_4 m1_5 : Bool) (m1_6 m1_7 m1_8 m1_9 m1_10 m1_11 : Int) (m11_ : (List TPiece)) (m12_ : LInt) (m13_ : (List TEnd)) (m14_ m15_ m16_ : LInt) (m17_ : (List TUndo)) (nodes : (List TPN)), run tb (Q65.G N) Q65.A 10 (Q65.fin N x_ n_) (n + 1) Q65.k0 (Q65.st0 x_ n_ t27_ t28_ t29_ x_2 x_3 m1_ m1_2 m1_3 m1_4 m1_5 m1_6 m1_7 m1_8 m1_9 m1_10 m1_11 m11_ m12_ m13_ m14_ m15_ m16_ m17_ nodes) = Q65.l0 N x_ n_ (n + 1) t27_ t28_ t29_ x_2 x_3 m1_ m1_2 m1_3 m1_4 m1_5 m1_6 m1_7 m1_8 m1_9 m1_10 m1_11 m11_ m12_ m13_ m14_ m15_ m16_ m17_ nodes) := by
   intro t27_ t28_ t29_ x_2 x_3 m1_ m1_2 m1_3 m1_4 m1_5 m1_6 m1_7 m1_8 m1_9 m1_10 m1_11 m11_ m12_ m13_ m14_ m15_ m16_ m17_ nodes
   exact (run_succ (by kernel_rfl)).trans ((Q65.step0 N _ x_ n_ t27_ t28_ t29_ x_2 x_3 m1_ m1_2 m1_3 m1_4 m1_5 m1_6 m1_7 m1_8 m1_9 m1_10 m1_11 m11_ m12_ m13_ m14_ m15_ m16_ m17_ nodes).trans ((congrArg (fun r0 => Q65.s0 N x_ n_ r0 t27_ t28_ t29_ x_2 x_3 m1_ m1_2 m1_3 m1_4 m1_5 m1_6 m1_7 m1_8 m1_9 m1_10 m1_11 m11_ m12_ m13_ m14_ m15_ m16_ m17_ nodes) e0).trans (Q65.l0_s N x_ n_ n t27_ t28_ t29_ x_2 x_3 m1_ m1_2 m1_3 m1_4 m1_5 m1_6 m1_7 m1_8 m1_9 m1_10 m1_11 m11_ m12_ m13_ m14_ m15_ m16_ m17_ nodes).symm))
  exact g0
theorem Q65.ok : FnOk Try.prog 65 (Q65.D N) := by
 refine fo ⟨Try.f65, Try.func65, by kernel_rfl, by kernel_rfl, fun x y h => ⟨Q65.G N, Q65.A, N, gamOf_ok (gc ⟨Q24.ok N, Q24.fit N⟩ (gc ⟨Q47.ok N, Q47.fit N⟩ (gc ⟨Q40.ok N, Q40.fit N⟩ (gc ⟨Q48.ok N, Q48.fit N⟩ gn)))), ?_⟩⟩ (Q65.fit N)
 rw [absFn_n (n0 := 10) rfl (by kernel_rfl)]
 refine (Q65.entry N (run tb (Q65.G N) Q65.A 10 (Q65.fin N x.1 x.2.1) N) x).trans ?_
 have e0 : (fun (t27_ : LMv) (t28_ t29_ x_2 x_3 : Int) (m1_ : ByteArray) (m1_2 m1_3 : Int) (m1_4 m1_5 : Bool) (m1_6 m1_7 m1_8 m1_9 m1_10 m1_11 : Int) (m11_ : (List TPiece)) (m12_ : LInt) (m13_ : (List TEnd)) (m14_ m15_ m16_ : LInt) (m17_ : (List TUndo)) (nodes : (List TPN)) => run tb (Q65.G N) Q65.A 10 (Q65.fin N x.1 x.2.1) N Q65.k0 (Q65.st0 x.1 x.2.1 t27_ t28_ t29_ x_2 x_3 m1_ m1_2 m1_3 m1_4 m1_5 m1_6 m1_7 m1_8 m1_9 m1_10 m1_11 m11_ m12_ m13_ m14_ m15_ m16_ m17_ nodes)) = Q65.l0 N x.1 x.2.1 N := by funext t27_ t28_ t29_ x_2 x_3 m1_ m1_2 m1_3 m1_4 m1_5 m1_6 m1_7 m1_8 m1_9 m1_10 m1_11 m11_ m12_ m13_ m14_ m15_ m16_ m17_ nodes; exact (Q65.runs N x.1 x.2.1 N) t27_ t28_ t29_ x_2 x_3 m1_ m1_2 m1_3 m1_4 m1_5 m1_6 m1_7 m1_8 m1_9 m1_10 m1_11 m11_ m12_ m13_ m14_ m15_ m16_ m17_ nodes
 have h' : (Q65.D N).f x = Q65.e N (Q65.l0 N x.1 x.2.1 N) x.1 x.2.1 := by kernel_rfl
 exact (congrArg (fun r0 => Q65.e N r0 x.1 x.2.1) e0).trans (h'.symm.trans h)
def Q41.as : List MK := [.o (.ptr 106 (.prod (.ptr 119 (.prod (.prod (.d .str) (.prod (.d tI) (.prod (.d tI) (.prod (.own 80 qb) (.prod (.own 3 tI) (.prod (.d .bool) (.prod (.d .bool) (.prod (.own 82 qe) (.d qc))))))))) (.prod (.prod (.own 3 tI) (.prod (.prod (.own 3 tI) (.own 3 tI)) (.d (.prod tI tI)))) (.prod (.d (.int .u64)) (.own 149 qf))))) (.d (.prod tI tI)))) true, .o (.nd 111 107 (.slice 37 qc) (.prod tI (.prod tI .bool))) true]
def Q41.rs : List (Bool × HT) := []
def Q41.lc (x_ : (TBoard × (Int × Int))) (n_ : ((List TPN) × Int)) : List AC := [.ptr 0 0, .nr n_.2]
def Q41.D : DFn := ⟨Q41.as, Q41.rs, ((TBoard × (Int × Int)) × ((List TPN) × Int)), fun x => Q41 N x.1 x.2.1, fun r o => (o.1, o.2.1), fun b => (), fun b => (b.1, (b.2, ())), some [1]⟩
theorem Q41.fit : (Q41.D N).Fit := ⟨fun _ _ => rfl, fun _ _ => rfl, by kernel_rfl, (fun x L h => by cases h; kernel_rfl), by kernel_rfl⟩
noncomputable def Q41.G : Gam := gamOf [(39, Q39.D N), (64, Q64.D N), (47, Q47.D N), (48, Q48.D N), (66, Q66.D N), (65, Q65.D N), (41, Q41.D N)]
def Q41.A : LA := fun k => bif Nat.beq k 3000047 then some ⟨[], [], [], [], [], 0, false⟩ else none
noncomputable def Q41.fin (x_ : (TBoard × (Int × Int))) (n_ : ((List TPN) × Int)) : St → Option ((TBoard × (Int × Int)) × ((List TPN) × Int)) := resK tb Try.f41.results.toList (decRes (Q41.D (N + 1)) (Q41.lc x_ n_))
theorem Q41.entry (rec : RK ((TBoard × (Int × Int)) × ((List TPN) × Int))) (x : (argH Q41.as).den) : seg tb (Q41.G N) Q41.A 10 rec (Q41.fin N x.1 x.2.1) segFuel [.code (bodyOf Try.f41)] (initSt Try.f41 (encArgs Q41.as x) (encMem Q41.as x)) = Q41.e N (Q41 N) x.1 x.2.1 := by kernel_rfl
theorem Q41.ok1 (ih : FnOk Try.prog 41 (Q41.D N)) : FnOk Try.prog 41 (Q41.D (N + 1)) := by
 refine fo ⟨Try.f41, Try.func41, by kernel_rfl, by kernel_rfl, fun x y h => ⟨Q41.G N, Q41.A, N, gamOf_ok (by simp only [List.forall_mem_cons, List.not_mem_nil, false_implies, implies_true, and_true]; exact ⟨⟨Q39.ok N, Q39.fit N⟩, ⟨Q64.ok N, Q64.fit N⟩, ⟨Q47.ok N, Q47.fit N⟩, ⟨Q48.ok N, Q48.fit N⟩, ⟨Q66.ok N, Q66.fit N⟩, ⟨Q65.ok N, Q65.fit N⟩, ⟨ih, Q41.fit N⟩⟩), ?_⟩⟩ (Q41.fit (N + 1))
 rw [absFn_n (n0 := 10) rfl (by kernel_rfl)]
 exact (Q41.entry N _ x).trans h
theorem Q41.ok : ∀ N, FnOk Try.prog 41 (Q41.D N)
 | 0 => FnOk_none Try.func41 (by kernel_rfl) (by kernel_rfl) (fun x => rfl)
 | N + 1 => Q41.ok1 N (Q41.ok N)
def Q19.as : List MK := [.d true qa, .d true qd, .d false tI]
def Q19.rs : List (Bool × HT) := [(true, (.d (.prod tI qc))), (false, (.d tI))]
def Q19.lc : List AC := []
def Q19.D : DFn := ⟨Q19.as, Q19.rs, (TWay × Int), fun x => Q19 N x.1 x.2.1 x.2.2.1, fun r o => (r.1, r.2.1), fun b => (b.1, (b.2, ())), fun b => (), none⟩
theorem Q19.fit : (Q19.D N).Fit := ⟨fun _ _ => rfl, fun _ _ => rfl, by kernel_rfl, (fun _ _ h => nomatch h), by kernel_rfl⟩
noncomputable def Q19.G : Gam := gamOf [(20, Q20.D N), (39, Q39.D N), (40, Q40.D N), (41, Q41.D N)]
def Q19.A : LA := fun k => bif Nat.beq k 0 then some ⟨[2, 6, 10, 11], [(11, 0)], [], [(true, 4, 3, 15), (true, 4, 4, 16), (true, 4, 7, 17), (true, 4, 11, 18), (true, 4, 12, 19), (true, 4, 13, 20), (true, 4, 17, 21), (false, 1000000, 0, 22)], [1, 2], 23, false⟩ else none
noncomputable def Q19.fin : St → Option (TWay × Int) := resK tb Try.f19.results.toList (decRes (Q19.D N) Q19.lc)
noncomputable def Q19.k0 : List Item := stackAt [.r, .r, .r, .r, .r, .r, .l, .b] (bodyOf Try.f19) []
def Q19.st0 (r_ : TRules) (p_ : TPos) (budget : Int) (m4_ : ByteArray) (m4_2 m4_3 : Int) (m4_4 m4_5 : Bool) (m4_6 m4_7 m4_8 m4_9 m4_10 m4_11 x_ x_2 : Int) (m15_ : (List TPiece)) (m16_ : LInt) (m17_ : (List TEnd)) (m18_ m19_ m20_ : LInt) (m21_ : (List TUndo)) (nodes : (List TPN)) : St := ⟨[oA, oA, oi budget] ++ rA 3 ++ [.one (.ptr 3 0)] ++ rA 3 ++ [.one (.ptr 12 0), .one (.nr 0)] ++ rA 76, [.gone, .gone, .gone, .var 57 [.int .i64 0, .int .i64 0, .int .i64 0, .int .i64 0], .var 119 [.str m4_, .int .i64 m4_2, .int .i64 m4_3, .own 15, .own 16, .bool m4_4, .bool m4_5, .own 17, .int .i64 m4_6, .int .i64 m4_7, .int .i64 m4_8, .own 18, .own 19, .own 20, .int .i64 m4_9, .int .i64 m4_10, .int .u64 m4_11, .own 21], .gone, .gone, .gone, .gone, .gone, .gone, .gone, .var 106 [.ptr 4 0, .int .i64 x_, .int .i64 x_2], .gone, .gone, .row 80 qb m15_, .row 3 tI m16_, .row 82 qe m17_, .row 3 tI m18_, .row 3 tI m19_, .row 3 tI m20_, .row 149 qf m21_, .arena 111 107 (.slice 37 qc) (.prod tI (.prod tI .bool)) nodes none]⟩
theorem Q19.step0 (rec : RK (TWay × Int)) (r_ : TRules) (p_ : TPos) (budget : Int) (m4_ : ByteArray) (m4_2 m4_3 : Int) (m4_4 m4_5 : Bool) (m4_6 m4_7 m4_8 m4_9 m4_10 m4_11 x_ x_2 : Int) (m15_ : (List TPiece)) (m16_ : LInt) (m17_ : (List TEnd)) (m18_ m19_ m20_ : LInt) (m21_ : (List TUndo)) (nodes : (List TPN)) : seg tb (Q19.G N) Q19.A 1 rec (Q19.fin N) segFuel (loopBody Q19.k0) (Q19.st0 r_ p_ budget m4_ m4_2 m4_3 m4_4 m4_5 m4_6 m4_7 m4_8 m4_9 m4_10 m4_11 x_ x_2 m15_ m16_ m17_ m18_ m19_ m20_ m21_ nodes) = Q19.s0 N r_ p_ budget (fun m4_ m4_2 m4_3 m4_4 m4_5 m4_6 m4_7 m4_8 m4_9 m4_10 m4_11 x_ x_2 m15_ m16_ m17_ m18_ m19_ m20_ m21_ nodes => rec Q19.k0 (Q19.st0 r_ p_ budget m4_ m4_2 m4_3 m4_4 m4_5 m4_6 m4_7 m4_8 m4_9 m4_10 m4_11 x_ x_2 m15_ m16_ m17_ m18_ m19_ m20_ m21_ nodes)) m4_ m4_2 m4_3 m4_4 m4_5 m4_6 m4_7 m4_8 m4_9 m4_10 m4_11 x_ x_2 m15_ m16_ m17_ m18_ m19_ m20_ m21_ nodes := by kernel_rfl
theorem Q19.entry (rec : RK (TWay × Int)) (x : (argH Q19.as).den) : seg tb (Q19.G N) Q19.A 1 rec (Q19.fin N) segFuel [.code (bodyOf Try.f19)] (initSt Try.f19 (encArgs Q19.as x) (encMem Q19.as x ++ [.arena 111 107 (.slice 37 qc) (.prod tI (.prod tI .bool)) [] none])) = Q19.e N (fun m4_ m4_2 m4_3 m4_4 m4_5 m4_6 m4_7 m4_8 m4_9 m4_10 m4_11 x_ x_2 m15_ m16_ m17_ m18_ m19_ m20_ m21_ nodes => rec Q19.k0 (Q19.st0 x.1 x.2.1 x.2.2.1 m4_ m4_2 m4_3 m4_4 m4_5 m4_6 m4_7 m4_8 m4_9 m4_10 m4_11 x_ x_2 m15_ m16_ m17_ m18_ m19_ m20_ m21_ nodes)) x.1 x.2.1 x.2.2.1 := by kernel_rfl
theorem Q19.runs (N : Nat) (r_ : TRules) (p_ : TPos) (budget : Int) : ∀ n, (∀ (m4_ : ByteArray) (m4_2 m4_3 : Int) (m4_4 m4_5 : Bool) (m4_6 m4_7 m4_8 m4_9 m4_10 m4_11 x_ x_2 : Int) (m15_ : (List TPiece)) (m16_ : LInt) (m17_ : (List TEnd)) (m18_ m19_ m20_ : LInt) (m21_ : (List TUndo)) (nodes : (List TPN)), run tb (Q19.G N) Q19.A 1 (Q19.fin N) n Q19.k0 (Q19.st0 r_ p_ budget m4_ m4_2 m4_3 m4_4 m4_5 m4_6 m4_7 m4_8 m4_9 m4_10 m4_11 x_ x_2 m15_ m16_ m17_ m18_ m19_ m20_ m21_ nodes) = Q19.l0 N r_ p_ budget n m4_ m4_2 m4_3 m4_4 m4_5 m4_6 m4_7 m4_8 m4_9 m4_10 m4_11 x_ x_2 m15_ m16_ m17_ m18_ m19_ m20_ m21_ nodes)
 | 0 => fun _ _ _ _ _ _ _ _ _ _ _ _ _ _ _ _ _ _ _ _ _ => rfl
 | n + 1 => by
  have h0 := Q19.runs N r_ p_ budget n
  have e0 : (fun (m4_ : ByteArray) (m4_2 m4_3 : Int) (m4_4 m4_5 : Bool) (m4_6 m4_7 m4_8 m4_9 m4_10 m4_11 x_ x_2 : Int) (m15_ : (List TPiece)) (m16_ : LInt) (m17_ : (List TEnd)) (m18_ m19_ m20_ : LInt) (m21_ : (List TUndo)) (nodes : (List TPN)) => run tb (Q19.G N) Q19.A 1 (Q19.fin N) n Q19.k0 (Q19.st0 r_ p_ budget m4_ m4_2 m4_3 m4_4 m4_5 m4_6 m4_7 m4_8 m4_9 m4_10 m4_11 x_ x_2 m15_ m16_ m17_ m18_ m19_ m20_ m21_ nodes)) = Q19.l0 N r_ p_ budget n := by funext m4_ m4_2 m4_3 m4_4 m4_5 m4_6 m4_7 m4_8 m4_9 m4_10 m4_11 x_ x_2 m15_ m16_ m17_ m18_ m19_ m20_ m21_ nodes; exact h0 m4_ m4_2 m4_3 m4_4 m4_5 m4_6 m4_7 m4_8 m4_9 m4_10 m4_11 x_ x_2 m15_ m16_ m17_ m18_ m19_ m20_ m21_ nodes
  have g0 : (∀ (m4_ : ByteArray) (m4_2 m4_3 : Int) (m4_4 m4_5 : Bool) (m4_6 m4_7 m4_8 m4_9 m4_10 m4_11 x_ x_2 : Int) (m15_ : (List TPiece)) (m16_ : LInt) (m17_ : (List TEnd)) (m18_ m19_ m20_ : LInt) (m21_ : (List TUndo)) (nodes : (List TPN)), run tb (Q19.G N) Q19.A 1 (Q19.fin N) (n + 1) Q19.k0 (Q19.st0 r_ p_ budget m4_ m4_2 m4_3 m4_4 m4_5 m4_6 m4_7 m4_8 m4_9 m4_10 m4_11 x_ x_2 m15_ m16_ m17_ m18_ m19_ m20_ m21_ nodes) = Q19.l0 N r_ p_ budget (n + 1) m4_ m4_2 m4_3 m4_4 m4_5 m4_6 m4_7 m4_8 m4_9 m4_10 m4_11 x_ x_2 m15_ m16_ m17_ m18_ m19_ m20_ m21_ nodes) := by
   intro m4_ m4_2 m4_3 m4_4 m4_5 m4_6 m4_7 m4_8 m4_9 m4_10 m4_11 x_ x_2 m15_ m16_ m17_ m18_ m19_ m20_ m21_ nodes
   exact (run_succ (by kernel_rfl)).trans ((Q19.step0 N _ r_ p_ budget m4_ m4_2 m4_3 m4_4 m4_5 m4_6 m4_7 m4_8 m4_9 m4_10 m4_11 x_ x_2 m15_ m16_ m17_ m18_ m19_ m20_ m21_ nodes).trans ((congrArg (fun r0 => Q19.s0 N r_ p_ budget r0 m4_ m4_2 m4_3 m4_4 m4_5 m4_6 m4_7 m4_8 m4_9 m4_10 m4_11 x_ x_2 m15_ m16_ m17_ m18_ m19_ m20_ m21_ nodes) e0).trans (Q19.l0_s N r_ p_ budget n m4_ m4_2 m4_3 m4_4 m4_5 m4_6 m4_7 m4_8 m4_9 m4_10 m4_11 x_ x_2 m15_ m16_ m17_ m18_ m19_ m20_ m21_ nodes).symm))
  exact g0
theorem Q19.ok : FnOk Try.prog 19 (Q19.D N) := by
 refine FnOk_ofA (T := 111) (e := 107) (a := (.slice 37 qc)) (b := (.prod tI (.prod tI .bool))) tb_ok (Checked.mixed Try.checked) ⟨⟨by kernel_rfl, by kernel_rfl⟩, Try.f19, Try.func19, by kernel_rfl, by kernel_rfl, fun x y h => ⟨Q19.G N, Q19.A, N, gamOf_ok (gc ⟨Q20.ok N, Q20.fit N⟩ (gc ⟨Q39.ok N, Q39.fit N⟩ (gc ⟨Q40.ok N, Q40.fit N⟩ (gc ⟨Q41.ok N, Q41.fit N⟩ gn)))), ?_⟩⟩ (Q19.fit N)
 rw [absFn_n (n0 := 1) rfl (by kernel_rfl)]
 refine (Q19.entry N (run tb (Q19.G N) Q19.A 1 (Q19.fin N) N) x).trans ?_
 have e0 : (fun (m4_ : ByteArray) (m4_2 m4_3 : Int) (m4_4 m4_5 : Bool) (m4_6 m4_7 m4_8 m4_9 m4_10 m4_11 x_ x_2 : Int) (m15_ : (List TPiece)) (m16_ : LInt) (m17_ : (List TEnd)) (m18_ m19_ m20_ : LInt) (m21_ : (List TUndo)) (nodes : (List TPN)) => run tb (Q19.G N) Q19.A 1 (Q19.fin N) N Q19.k0 (Q19.st0 x.1 x.2.1 x.2.2.1 m4_ m4_2 m4_3 m4_4 m4_5 m4_6 m4_7 m4_8 m4_9 m4_10 m4_11 x_ x_2 m15_ m16_ m17_ m18_ m19_ m20_ m21_ nodes)) = Q19.l0 N x.1 x.2.1 x.2.2.1 N := by funext m4_ m4_2 m4_3 m4_4 m4_5 m4_6 m4_7 m4_8 m4_9 m4_10 m4_11 x_ x_2 m15_ m16_ m17_ m18_ m19_ m20_ m21_ nodes; exact (Q19.runs N x.1 x.2.1 x.2.2.1 N) m4_ m4_2 m4_3 m4_4 m4_5 m4_6 m4_7 m4_8 m4_9 m4_10 m4_11 x_ x_2 m15_ m16_ m17_ m18_ m19_ m20_ m21_ nodes
 have h' : (Q19.D N).f x = Q19.e N (Q19.l0 N x.1 x.2.1 x.2.2.1 N) x.1 x.2.1 x.2.2.1 := by kernel_rfl
 exact (congrArg (fun r0 => Q19.e N r0 x.1 x.2.1 x.2.2.1) e0).trans (h'.symm.trans h)
def Q11.as : List MK := [.d true qa, .d true qd, .d false tI]
def Q11.rs : List (Bool × HT) := [(false, (.d .bool))]
def Q11.lc : List AC := []
def Q11.D : DFn := ⟨Q11.as, Q11.rs, Bool, fun x => Q11 N x.1 x.2.1 x.2.2.1, fun r o => r.1, fun b => (b, ()), fun b => (), none⟩
theorem Q11.fit : (Q11.D N).Fit := ⟨fun _ _ => rfl, fun _ _ => rfl, by kernel_rfl, (fun _ _ h => nomatch h), by kernel_rfl⟩
noncomputable def Q11.G : Gam := gamOf [(25, Q25.D N)]
def Q11.A : LA := fun _ => none
noncomputable def Q11.fin : St → Option Bool := resK tb Try.f11.results.toList (decRes (Q11.D N) Q11.lc)
theorem Q11.entry (rec : RK Bool) (x : (argH Q11.as).den) : seg tb (Q11.G N) Q11.A 0 rec (Q11.fin N) segFuel [.code (bodyOf Try.f11)] (initSt Try.f11 (encArgs Q11.as x) (encMem Q11.as x)) = Q11.e N x.1 x.2.1 x.2.2.1 := by kernel_rfl
theorem Q11.ok : FnOk Try.prog 11 (Q11.D N) := by
 refine fo ⟨Try.f11, Try.func11, by kernel_rfl, by kernel_rfl, fun x y h => ⟨Q11.G N, Q11.A, N, gamOf_ok (gc ⟨Q25.ok N, Q25.fit N⟩ gn), ?_⟩⟩ (Q11.fit N)
 rw [absFn_n (n0 := 0) rfl (by kernel_rfl)]
 exact (Q11.entry N _ x).trans h
def Q4.as : List MK := [.d true qa, .d true qd, .d false tI, .d false tI]
def Q4.rs : List (Bool × HT) := [(false, (.d .bool))]
def Q4.lc : List AC := []
def Q4.D : DFn := ⟨Q4.as, Q4.rs, Bool, fun x => Q4 N x.1 x.2.1 x.2.2.1 x.2.2.2.1, fun r o => r.1, fun b => (b, ()), fun b => (), none⟩
theorem Q4.fit : (Q4.D N).Fit := ⟨fun _ _ => rfl, fun _ _ => rfl, by kernel_rfl, (fun _ _ h => nomatch h), by kernel_rfl⟩
noncomputable def Q4.G : Gam := gamOf [(6, Q6.D N), (7, Q7.D N), (17, Q17.D N), (18, Q18.D N), (14, Q14.D N), (9, Q9.D N), (19, Q19.D N), (11, Q11.D N), (13, Q13.D N)]
def Q4.A : LA := fun _ => none
noncomputable def Q4.fin : St → Option Bool := resK tb Try.f4.results.toList (decRes (Q4.D N) Q4.lc)
theorem Q4.entry (rec : RK Bool) (x : (argH Q4.as).den) : seg tb (Q4.G N) Q4.A 0 rec (Q4.fin N) segFuel [.code (bodyOf Try.f4)] (initSt Try.f4 (encArgs Q4.as x) (encMem Q4.as x)) = Q4.e N x.1 x.2.1 x.2.2.1 x.2.2.2.1 := by kernel_rfl
theorem Q4.ok : FnOk Try.prog 4 (Q4.D N) := by
 refine fo ⟨Try.f4, Try.func4, by kernel_rfl, by kernel_rfl, fun x y h => ⟨Q4.G N, Q4.A, N, gamOf_ok (gc ⟨Q6.ok N, Q6.fit N⟩ (gc ⟨Q7.ok N, Q7.fit N⟩ (gc ⟨Q17.ok N, Q17.fit N⟩ (gc ⟨Q18.ok N, Q18.fit N⟩ (gc ⟨Q14.ok N, Q14.fit N⟩ (gc ⟨Q9.ok N, Q9.fit N⟩ (gc ⟨Q19.ok N, Q19.fit N⟩ (gc ⟨Q11.ok N, Q11.fit N⟩ (gc ⟨Q13.ok N, Q13.fit N⟩ gn))))))))), ?_⟩⟩ (Q4.fit N)
 rw [absFn_n (n0 := 0) rfl (by kernel_rfl)]
 exact (Q4.entry N _ x).trans h
end
end Go.Proofs.Ytnddjmhpofhfjaa.Am
