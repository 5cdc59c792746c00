/- PRINTED by gen.py: the abstract machine evaluates the loaded code to these functions. -/
import Derived.Test.YtnddjmhpofhfjaaEvw1
set_option linter.unusedVariables false
set_option linter.unusedSimpArgs false
namespace Go.Proofs.Ytnddjmhpofhfjaa.Am
open Go
noncomputable section
variable (N : Nat)
set_option maxRecDepth 100000
def Q71.as : List MK := [.o (.ptr 121 (.d tI)) true, .d false tI]
def Q71.rs : List (Bool × HT) := [(false, (.d tI)), (false, (.d tI))]
def Q71.lc : List AC := [.ptr 0 0]
def Q71.D : DFn := ⟨Q71.as, Q71.rs, (Int × Int × Int), fun x => Q71 N x.1 x.2.1, fun r o => (r.1, r.2.1, o.1), fun b => (b.1, (b.2.1, ())), fun b => (b.2.2, ()), none⟩
theorem Q71.fit : (Q71.D N).Fit := ⟨fun _ _ => rfl, fun _ _ => rfl, by kernel_rfl, (fun _ _ h => nomatch h), by kernel_rfl⟩
noncomputable def Q71.G : Gam := gamOf [(87, Q87.D N)]
def Q71.A : LA := fun _ => none
noncomputable def Q71.fin : St → Option (Int × Int × Int) := resK tb Try.f71.results.toList (decRes (Q71.D N) Q71.lc)
theorem Q71.entry (rec : RK (Int × Int × Int)) (x : (argH Q71.as).den) : seg tb (Q71.G N) Q71.A 1 rec (Q71.fin N) segFuel [.code (bodyOf Try.f71)] (initSt Try.f71 (encArgs Q71.as x) (encMem Q71.as x)) = Q71.e N x.1 x.2.1 := by kernel_rfl
theorem Q71.ok : FnOk Try.prog 71 (Q71.D N) := by
 refine fo ⟨Try.f71, Try.func71, by kernel_rfl, by kernel_rfl, fun x y h => ⟨Q71.G N, Q71.A, N, gamOf_ok (gc ⟨Q87.ok N, Q87.fit N⟩ gn), ?_⟩⟩ (Q71.fit N)
 rw [absFn_n (n0 := 1) rfl (by kernel_rfl)]
 exact (Q71.entry N _ x).trans h
def Q73.as : List MK := [.d true qa, .d true qd, .d true qc, .d false (.int .u64)]
def Q73.rs : List (Bool × HT) := [(false, (.d (.int .u64)))]
def Q73.lc : List AC := []
def Q73.D : DFn := ⟨Q73.as, Q73.rs, Int, fun x => Q73 N x.1 x.2.1 x.2.2.1 x.2.2.2.1, fun r o => r.1, fun b => (b, ()), fun b => (), none⟩
theorem Q73.fit : (Q73.D N).Fit := ⟨fun _ _ => rfl, fun _ _ => rfl, by kernel_rfl, (fun _ _ h => nomatch h), by kernel_rfl⟩
noncomputable def Q73.G : Gam := gamOf [(68, Q68.D N), (70, Q70.D N), (69, Q69.D N), (55, Q55.D N), (56, Q56.D N)]
def Q73.A : LA := fun _ => none
noncomputable def Q73.fin : St → Option Int := resK tb Try.f73.results.toList (decRes (Q73.D N) Q73.lc)
theorem Q73.entry (rec : RK Int) (x : (argH Q73.as).den) : seg tb (Q73.G N) Q73.A 0 rec (Q73.fin N) segFuel [.code (bodyOf Try.f73)] (initSt Try.f73 (encArgs Q73.as x) (encMem Q73.as x)) = Q73.e N x.1 x.2.1 x.2.2.1 x.2.2.2.1 := by kernel_rfl
theorem Q73.ok : FnOk Try.prog 73 (Q73.D N) := by
 refine fo ⟨Try.f73, Try.func73, by kernel_rfl, by kernel_rfl, fun x y h => ⟨Q73.G N, Q73.A, N, gamOf_ok (gc ⟨Q68.ok N, Q68.fit N⟩ (gc ⟨Q70.ok N, Q70.fit N⟩ (gc ⟨Q69.ok N, Q69.fit N⟩ (gc ⟨Q55.ok N, Q55.fit N⟩ (gc ⟨Q56.ok N, Q56.fit N⟩ gn))))), ?_⟩⟩ (Q73.fit N)
 rw [absFn_n (n0 := 0) rfl (by kernel_rfl)]
 exact (Q73.entry N _ x).trans h
def Q47.as : List MK := [.o (.ptr 119 (.prod (.prod (.d .str) (.prod (.d tI) (.prod (.d tI) (.prod (.own 80 qb) (.prod (.own 3 tI) (.prod (.d .bool) (.prod (.d .bool) (.prod (.own 82 qe) (.d qc))))))))) (.prod (.prod (.own 3 tI) (.prod (.prod (.own 3 tI) (.own 3 tI)) (.d (.prod tI tI)))) (.prod (.d (.int .u64)) (.own 149 qf))))) true, .d true qc]
def Q47.rs : List (Bool × HT) := []
def Q47.lc : List AC := [.ptr 0 0]
def Q47.D : DFn := ⟨Q47.as, Q47.rs, TBoard, fun x => Q47 N x.1 x.2.1, fun r o => o.1, fun b => (), fun b => (b, ()), none⟩
theorem Q47.fit : (Q47.D N).Fit := ⟨fun _ _ => rfl, fun _ _ => rfl, by kernel_rfl, (fun _ _ h => nomatch h), by kernel_rfl⟩
noncomputable def Q47.G : Gam := gamOf [(73, Q73.D N), (55, Q55.D N), (56, Q56.D N)]
def Q47.A : LA := fun _ => none
noncomputable def Q47.fin : St → Option TBoard := resK tb Try.f47.results.toList (decRes (Q47.D N) Q47.lc)
theorem Q47.entry (rec : RK TBoard) (x : (argH Q47.as).den) : seg tb (Q47.G N) Q47.A 8 rec (Q47.fin N) segFuel [.code (bodyOf Try.f47)] (initSt Try.f47 (encArgs Q47.as x) (encMem Q47.as x)) = Q47.e N x.1 x.2.1 := by kernel_rfl
theorem Q47.ok : FnOk Try.prog 47 (Q47.D N) := by
 refine fo ⟨Try.f47, Try.func47, by kernel_rfl, by kernel_rfl, fun x y h => ⟨Q47.G N, Q47.A, N, gamOf_ok (gc ⟨Q73.ok N, Q73.fit N⟩ (gc ⟨Q55.ok N, Q55.fit N⟩ (gc ⟨Q56.ok N, Q56.fit N⟩ gn))), ?_⟩⟩ (Q47.fit N)
 rw [absFn_n (n0 := 8) rfl (by kernel_rfl)]
 exact (Q47.entry N _ x).trans h
def Q48.as : List MK := [.o (.ptr 119 (.prod (.prod (.d .str) (.prod (.d tI) (.prod (.d tI) (.prod (.own 80 qb) (.prod (.own 3 tI) (.prod (.d .bool) (.prod (.d .bool) (.prod (.own 82 qe) (.d qc))))))))) (.prod (.prod (.own 3 tI) (.prod (.prod (.own 3 tI) (.own 3 tI)) (.d (.prod tI tI)))) (.prod (.d (.int .u64)) (.own 149 qf))))) true]
def Q48.rs : List (Bool × HT) := [(false, (.d tI))]
def Q48.lc : List AC := [.ptr 0 0]
def Q48.D : DFn := ⟨Q48.as, Q48.rs, (Int × TBoard), fun x => Q48 N x.1, fun r o => (r.1, o.1), fun b => (b.1, ()), fun b => (b.2, ()), none⟩
theorem Q48.fit : (Q48.D N).Fit := ⟨fun _ _ => rfl, fun _ _ => rfl, by kernel_rfl, (fun _ _ h => nomatch h), by kernel_rfl⟩
noncomputable def Q48.G : Gam := gamOf [(55, Q55.D N)]
def Q48.A : LA := fun _ => none
noncomputable def Q48.fin : St → Option (Int × TBoard) := resK tb Try.f48.results.toList (decRes (Q48.D N) Q48.lc)
theorem Q48.entry (rec : RK (Int × TBoard)) (x : (argH Q48.as).den) : seg tb (Q48.G N) Q48.A 8 rec (Q48.fin N) segFuel [.code (bodyOf Try.f48)] (initSt Try.f48 (encArgs Q48.as x) (encMem Q48.as x)) = Q48.e N x.1 := by kernel_rfl
theorem Q48.ok : FnOk Try.prog 48 (Q48.D N) := by
 refine fo ⟨Try.f48, Try.func48, by kernel_rfl, by kernel_rfl, fun x y h => ⟨Q48.G N, Q48.A, N, gamOf_ok (gc ⟨Q55.ok N, Q55.fit N⟩ gn), ?_⟩⟩ (Q48.fit N)
 rw [absFn_n (n0 := 8) rfl (by kernel_rfl)]
 exact (Q48.entry N _ x).trans h
def Q45.as : List MK := [.o (.ptr 70 (.prod (.ptr 119 (.prod (.prod (.d .str) (.prod (.d tI) (.prod (.d tI) (.prod (.own 80 qb) (.prod (.own 3 tI) (.prod (.d .bool) (.prod (.d .bool) (.prod (.own 82 qe) (.d qc))))))))) (.prod (.prod (.own 3 tI) (.prod (.prod (.own 3 tI) (.own 3 tI)) (.d (.prod tI tI)))) (.prod (.d (.int .u64)) (.own 149 qf))))) (.ptr 121 (.d tI)))) true]
def Q45.rs : List (Bool × HT) := [(false, (.d tI))]
def Q45.lc : List AC := [.ptr 0 0]
def Q45.D : DFn := ⟨Q45.as, Q45.rs, (Int × (TBoard × Int)), fun x => Q45 N x.1, fun r o => (r.1, o.1), fun b => (b.1, ()), fun b => (b.2, ()), some [1, 9]⟩
theorem Q45.fit : (Q45.D N).Fit := ⟨fun _ _ => rfl, fun _ _ => rfl, by kernel_rfl, (fun x L h => by cases h; kernel_rfl), by kernel_rfl⟩
noncomputable def Q45.G : Gam := gamOf [(24, Q24.D N), (22, Q22.D N), (71, Q71.D N), (47, Q47.D N), (48, Q48.D N)]
def Q45.A : LA := fun k => bif Nat.beq k 0 then some ⟨[0, 3], [], [], [(true, 1, 3, 10), (true, 1, 4, 11), (true, 1, 7, 12), (true, 1, 11, 13), (true, 1, 12, 14), (true, 1, 13, 15), (true, 1, 17, 16)], [], 17, false⟩ else bif Nat.beq k 2 then some ⟨[0, 3, 7], [], [], [(true, 1, 3, 10), (true, 1, 4, 11), (true, 1, 7, 12), (true, 1, 11, 13), (true, 1, 12, 14), (true, 1, 13, 15), (true, 1, 17, 16)], [], 17, false⟩ else bif Nat.beq k 3000047 then some ⟨[], [], [], [], [], 0, false⟩ else none
noncomputable def Q45.fin : St → Option (Int × (TBoard × Int)) := resK tb Try.f45.results.toList (decRes (Q45.D N) Q45.lc)
noncomputable def Q45.k0 : List Item := stackAt [.r, .r, .l, .b] (bodyOf Try.f45) []
def Q45.st0 (x_ : (TBoard × Int)) (n_ : Int) (m1_ : ByteArray) (m1_2 m1_3 : Int) (m1_4 m1_5 : Bool) (m1_6 m1_7 m1_8 m1_9 m1_10 m1_11 m9_ : Int) (m10_ : (List TPiece)) (m11_ : LInt) (m12_ : (List TEnd)) (m13_ m14_ m15_ : LInt) (m16_ : (List TUndo)) : St := ⟨[.one (.ptr 0 0), oA, oA, oi n_] ++ rA 50, [.var 70 [.ptr 1 0, .ptr 9 0], .var 119 [.str m1_, .int .i64 m1_2, .int .i64 m1_3, .own 10, .own 11, .bool m1_4, .bool m1_5, .own 12, .int .i64 m1_6, .int .i64 m1_7, .int .i64 m1_8, .own 13, .own 14, .own 15, .int .i64 m1_9, .int .i64 m1_10, .int .u64 m1_11, .own 16], .gone, .gone, .gone, .gone, .gone, .gone, .gone, .var 121 [.int .i64 m9_], .row 80 qb m10_, .row 3 tI m11_, .row 82 qe m12_, .row 3 tI m13_, .row 3 tI m14_, .row 3 tI m15_, .row 149 qf m16_]⟩
noncomputable def Q45.k1 : List Item := stackAt [.r, .r, .r, .r, .l, .b] (bodyOf Try.f45) []
def Q45.st1 (x_ : (TBoard × Int)) (n_ out : Int) (m1_ : ByteArray) (m1_2 m1_3 : Int) (m1_4 m1_5 : Bool) (m1_6 m1_7 m1_8 m1_9 m1_10 m1_11 m9_ : Int) (m10_ : (List TPiece)) (m11_ : LInt) (m12_ : (List TEnd)) (m13_ m14_ m15_ : LInt) (m16_ : (List TUndo)) : St := ⟨[.one (.ptr 0 0), oA, oA, oi n_] ++ rA 3 ++ [oi out] ++ rA 46, [.var 70 [.ptr 1 0, .ptr 9 0], .var 119 [.str m1_, .int .i64 m1_2, .int .i64 m1_3, .own 10, .own 11, .bool m1_4, .bool m1_5, .own 12, .int .i64 m1_6, .int .i64 m1_7, .int .i64 m1_8, .own 13, .own 14, .own 15, .int .i64 m1_9, .int .i64 m1_10, .int .u64 m1_11, .own 16], .gone, .gone, .gone, .gone, .gone, .gone, .gone, .var 121 [.int .i64 m9_], .row 80 qb m10_, .row 3 tI m11_, .row 82 qe m12_, .row 3 tI m13_, .row 3 tI m14_, .row 3 tI m15_, .row 149 qf m16_]⟩
theorem Q45.step0 (rec : RK (Int × (TBoard × Int))) (x_ : (TBoard × Int)) (n_ : Int) (m1_ : ByteArray) (m1_2 m1_3 : Int) (m1_4 m1_5 : Bool) (m1_6 m1_7 m1_8 m1_9 m1_10 m1_11 m9_ : Int) (m10_ : (List TPiece)) (m11_ : LInt) (m12_ : (List TEnd)) (m13_ m14_ m15_ : LInt) (m16_ : (List TUndo)) : seg tb (Q45.G N) Q45.A 10 rec (Q45.fin N) segFuel (loopBody Q45.k0) (Q45.st0 x_ n_ m1_ m1_2 m1_3 m1_4 m1_5 m1_6 m1_7 m1_8 m1_9 m1_10 m1_11 m9_ m10_ m11_ m12_ m13_ m14_ m15_ m16_) = Q45.s0 N x_ (fun n_ m1_ m1_2 m1_3 m1_4 m1_5 m1_6 m1_7 m1_8 m1_9 m1_10 m1_11 m9_ m10_ m11_ m12_ m13_ m14_ m15_ m16_ => rec Q45.k0 (Q45.st0 x_ n_ m1_ m1_2 m1_3 m1_4 m1_5 m1_6 m1_7 m1_8 m1_9 m1_10 m1_11 m9_ m10_ m11_ m12_ m13_ m14_ m15_ m16_)) (fun n_ out m1_ m1_2 m1_3 m1_4 m1_5 m1_6 m1_7 m1_8 m1_9 m1_10 m1_11 m9_ m10_ m11_ m12_ m13_ m14_ m15_ m16_ => rec Q45.k1 (Q45.st1 x_ n_ out m1_ m1_2 m1_3 m1_4 m1_5 m1_6 m1_7 m1_8 m1_9 m1_10 m1_11 m9_ m10_ m11_ m12_ m13_ m14_ m15_ m16_)) n_ m1_ m1_2 m1_3 m1_4 m1_5 m1_6 m1_7 m1_8 m1_9 m1_10 m1_11 m9_ m10_ m11_ m12_ m13_ m14_ m15_ m16_ := by kernel_rfl
theorem Q45.step1 (rec : RK (Int × (TBoard × Int))) (x_ : (TBoard × Int)) (n_ out : Int) (m1_ : ByteArray) (m1_2 m1_3 : Int) (m1_4 m1_5 : Bool) (m1_6 m1_7 m1_8 m1_9 m1_10 m1_11 m9_ : Int) (m10_ : (List TPiece)) (m11_ : LInt) (m12_ : (List TEnd)) (m13_ m14_ m15_ : LInt) (m16_ : (List TUndo)) : seg tb (Q45.G N) Q45.A 10 rec (Q45.fin N) segFuel (loopBody Q45.k1) (Q45.st1 x_ n_ out m1_ m1_2 m1_3 m1_4 m1_5 m1_6 m1_7 m1_8 m1_9 m1_10 m1_11 m9_ m10_ m11_ m12_ m13_ m14_ m15_ m16_) = Q45.s1 N x_ (fun n_ m1_ m1_2 m1_3 m1_4 m1_5 m1_6 m1_7 m1_8 m1_9 m1_10 m1_11 m9_ m10_ m11_ m12_ m13_ m14_ m15_ m16_ => rec Q45.k0 (Q45.st0 x_ n_ m1_ m1_2 m1_3 m1_4 m1_5 m1_6 m1_7 m1_8 m1_9 m1_10 m1_11 m9_ m10_ m11_ m12_ m13_ m14_ m15_ m16_)) (fun n_ out m1_ m1_2 m1_3 m1_4 m1_5 m1_6 m1_7 m1_8 m1_9 m1_10 m1_11 m9_ m10_ m11_ m12_ m13_ m14_ m15_ m16_ => rec Q45.k1 (Q45.st1 x_ n_ out m1_ m1_2 m1_3 m1_4 m1_5 m1_6 m1_7 m1_8 m1_9 m1_10 m1_11 m9_ m10_ m11_ m12_ m13_ m14_ m15_ m16_)) n_ out m1_ m1_2 m1_3 m1_4 m1_5 m1_6 m1_7 m1_8 m1_9 m1_10 m1_11 m9_ m10_ m11_ m12_ m13_ m14_ m15_ m16_ := by kernel_rfl
theorem Q45.entry (rec : RK (Int × (TBoard × Int))) (x : (argH Q45.as).den) : seg tb (Q45.G N) Q45.A 10 rec (Q45.fin N) segFuel [.code (bodyOf Try.f45)] (initSt Try.f45 (encArgs Q45.as x) (encMem Q45.as x)) = Q45.e N (fun n_ m1_ m1_2 m1_3 m1_4 m1_5 m1_6 m1_7 m1_8 m1_9 m1_10 m1_11 m9_ m10_ m11_ m12_ m13_ m14_ m15_ m16_ => rec Q45.k0 (Q45.st0 x.1 n_ m1_ m1_2 m1_3 m1_4 m1_5 m1_6 m1_7 m1_8 m1_9 m1_10 m1_11 m9_ m10_ m11_ m12_ m13_ m14_ m15_ m16_)) (fun n_ out m1_ m1_2 m1_3 m1_4 m1_5 m1_6 m1_7 m1_8 m1_9 m1_10 m1_11 m9_ m10_ m11_ m12_ m13_ m14_ m15_ m16_ => rec Q45.k1 (Q45.st1 x.1 n_ out m1_ m1_2 m1_3 m1_4 m1_5 m1_6 m1_7 m1_8 m1_9 m1_10 m1_11 m9_ m10_ m11_ m12_ m13_ m14_ m15_ m16_)) x.1 := by kernel_rfl
theorem Q45.runs (N : Nat) (x_ : (TBoard × Int)) : ∀ n, (∀ (n_ : Int) (m1_ : ByteArray) (m1_2 m1_3 : Int) (m1_4 m1_5 : Bool) (m1_6 m1_7 m1_8 m1_9 m1_10 m1_11 m9_ : Int) (m10_ : (List TPiece)) (m11_ : LInt) (m12_ : (List TEnd)) (m13_ m14_ m15_ : LInt) (m16_ : (List TUndo)), run tb (Q45.G N) Q45.A 10 (Q45.fin N) n Q45.k0 (Q45.st0 x_ n_ m1_ m1_2 m1_3 m1_4 m1_5 m1_6 m1_7 m1_8 m1_9 m1_10 m1_11 m9_ m10_ m11_ m12_ m13_ m14_ m15_ m16_) = Q45.l0 N x_ n n_ m1_ m1_2 m1_3 m1_4 m1_5 m1_6 m1_7 m1_8 m1_9 m1_10 m1_11 m9_ m10_ m11_ m12_ m13_ m14_ m15_ m16_) ∧ (∀ (n_ out : Int) (m1_ : ByteArray) (m1_2 m1_3 : Int) (m1_4 m1_5 : Bool) (m1_6 m1_7 m1_8 m1_9 m1_10 m1_11 m9_ : Int) (m10_ : (List TPiece)) (m11_ : LInt) (m12_ : (List TEnd)) (m13_ m14_ m15_ : LInt) (m16_ : (List TUndo)), run tb (Q45.G N) Q45.A 10 (Q45.fin N) n Q45.k1 (Q45.st1 x_ n_ out m1_ m1_2 m1_3 m1_4 m1_5 m1_6 m1_7 m1_8 m1_9 m1_10 m1_11 m9_ m10_ m11_ m12_ m13_ m14_ m15_ m16_) = Q45.l1 N x_ n n_ out m1_ m1_2 m1_3 m1_4 m1_5 m1_6 m1_7 m1_8 m1_9 m1_10 m1_11 m9_ m10_ m11_ m12_ m13_ m14_ m15_ m16_)
 | 0 => ⟨fun _ _ _ _ _ _ _ _ _ _ _ _ _ _ _ _ _ _ _ _ => rfl, fun _ _ _ _ _ _ _ _ _ _ _ _ _ _ _ _ _ _ _ _ _ => rfl⟩
 | n + 1 => by
  obtain ⟨h0, h1⟩ := Q45.runs N x_ n
  have e0 : (fun (n_ : Int) (m1_ : ByteArray) (m1_2 m1_3 : Int) (m1_4 m1_5 : Bool) (m1_6 m1_7 m1_8 m1_9 m1_10 m1_11 m9_ : Int) (m10_ : (List TPiece)) (m11_ : LInt) (m12_ : (List TEnd)) (m13_ m14_ m15_ : LInt) (m16_ : (List TUndo)) => run tb (Q45.G N) Q45.A 10 (Q45.fin N) n Q45.k0 (Q45.st0 x_ n_ m1_ m1_2 m1_3 m1_4 m1_5 m1_6 m1_7 m1_8 m1_9 m1_10 m1_11 m9_ m10_ m11_ m12_ m13_ m14_ m15_ m16_)) = Q45.l0 N x_ n := by funext n_ m1_ m1_2 m1_3 m1_4 m1_5 m1_6 m1_7 m1_8 m1_9 m1_10 m1_11 m9_ m10_ m11_ m12_ m13_ m14_ m15_ m16_; exact h0 n_ m1_ m1_2 m1_3 m1_4 m1_5 m1_6 m1_7 m1_8 m1_9 m1_10 m1_11 m9_ m10_ m11_ m12_ m13_ m14_ m15_ m16_
  have e1 : (fun (n_ out : Int) (m1_ : ByteArray) (m1_2 m1_3 : Int) (m1_4 m1_5 : Bool) (m1_6 m1_7 m1_8 m1_9 m1_10 m1_11 m9_ : Int) (m10_ : (List TPiece)) (m11_ : LInt) (m12_ : (List TEnd)) (m13_ m14_ m15_ : LInt) (m16_ : (List TUndo)) => run tb (Q45.G N) Q45.A 10 (Q45.fin N) n Q45.k1 (Q45.st1 x_ n_ out m1_ m1_2 m1_3 m1_4 m1_5 m1_6 m1_7 m1_8 m1_9 m1_10 m1_11 m9_ m10_ m11_ m12_ m13_ m14_ m15_ m16_)) = Q45.l1 N x_ n := by funext n_ out m1_ m1_2 m1_3 m1_4 m1_5 m1_6 m1_7 m1_8 m1_9 m1_10 m1_11 m9_ m10_ m11_ m12_ m13_ m14_ m15_ m16_; exact h1 n_ out m1_ m1_2 m1_3 m1_4 m1_5 m1_6 m1_7 m1_8 m1_9 m1_10 m1_11 m9_ m10_ m11_ m12_ m13_ m14_ m15_ m16_
  have g0 : (∀ (n_ : Int) (m1_ : ByteArray) (m1_2 m1_3 : Int) (m1_4 m1_5 : Bool) (m1_6 m1_7 m1_8 m1_9 m1_10 m1_11 m9_ : Int) (m10_ : (List TPiece)) (m11_ : LInt) (m12_ : (List TEnd)) (m13_ m14_ m15_ : LInt) (m16_ : (List TUndo)), run tb (Q45.G N) Q45.A 10 (Q45.fin N) (n + 1) Q45.k0 (Q45.st0 x_ n_ m1_ m1_2 m1_3 m1_4 m1_5 m1_6 m1_7 m1_8 m1_9 m1_10 m1_11 m9_ m10_ m11_ m12_ m13_ m14_ m15_ m16_) = Q45.l0 N x_ (n + 1) n_ m1_ m1_2 m1_3 m1_4 m1_5 m1_6 m1_7 m1_8 m1_9 m1_10 m1_11 m9_ m10_ m11_ m12_ m13_ m14_ m15_ m16_) := by
   intro n_ m1_ m1_2 m1_3 m1_4 m1_5 m1_6 m1_7 m1_8 m1_9 m1_10 m1_11 m9_ m10_ m11_ m12_ m13_ m14_ m15_ m16_
   exact (run_succ (by kernel_rfl)).trans ((Q45.step0 N _ x_ n_ m1_ m1_2 m1_3 m1_4 m1_5 m1_6 m1_7 m1_8 m1_9 m1_10 m1_11 m9_ m10_ m11_ m12_ m13_ m14_ m15_ m16_).trans ((congr (congrArg (fun r0 r1 => Q45.s0 N x_ r0 r1 n_ m1_ m1_2 m1_3 m1_4 m1_5 m1_6 m1_7 m1_8 m1_9 m1_10 m1_11 m9_ m10_ m11_ m12_ m13_ m14_ m15_ m16_) e0) e1).trans (Q45.l0_s N x_ n n_ m1_ m1_2 m1_3 m1_4 m1_5 m1_6 m1_7 m1_8 m1_9 m1_10 m1_11 m9_ m10_ m11_ m12_ m13_ m14_ m15_ m16_).symm))
  have g1 : (∀ (n_ out : Int) (m1_ : ByteArray) (m1_2 m1_3 : Int) (m1_4 m1_5 : Bool) (m1_6 m1_7 m1_8 m1_9 m1_10 m1_11 m9_ : Int) (m10_ : (List TPiece)) (m11_ : LInt) (m12_ : (List TEnd)) (m13_ m14_ m15_ : LInt) (m16_ : (List TUndo)), run tb (Q45.G N) Q45.A 10 (Q45.fin N) (n + 1) Q45.k1 (Q45.st1 x_ n_ out m1_ m1_2 m1_3 m1_4 m1_5 m1_6 m1_7 m1_8 m1_9 m1_10 m1_11 m9_ m10_ m11_ m12_ m13_ m14_ m15_ m16_) = Q45.l1 N x_ (n + 1) n_ out m1_ m1_2 m1_3 m1_4 m1_5 m1_6 m1_7 m1_8 m1_9 m1_10 m1_11 m9_ m10_ m11_ m12_ m13_ m14_ m15_ m16_) := by
   intro n_ out m1_ m1_2 m1_3 m1_4 m1_5 m1_6 m1_7 m1_8 m1_9 m1_10 m1_11 m9_ m10_ m11_ m12_ m13_ m14_ m15_ m16_
   exact (run_succ (by kernel_rfl)).trans ((Q45.step1 N _ x_ n_ out m1_ m1_2 m1_3 m1_4 m1_5 m1_6 m1_7 m1_8 m1_9 m1_10 m1_11 m9_ m10_ m11_ m12_ m13_ m14_ m15_ m16_).trans ((congr (congrArg (fun r0 r1 => Q45.s1 N x_ r0 r1 n_ out m1_ m1_2 m1_3 m1_4 m1_5 m1_6 m1_7 m1_8 m1_9 m1_10 m1_11 m9_ m10_ m11_ m12_ m13_ m14_ m15_ m16_) e0) e1).trans (Q45.l1_s N x_ n n_ out m1_ m1_2 m1_3 m1_4 m1_5 m1_6 m1_7 m1_8 m1_9 m1_10 m1_11 m9_ m10_ m11_ m12_ m13_ m14_ m15_ m16_).symm))
  exact ⟨g0, g1⟩
theorem Q45.ok : FnOk Try.prog 45 (Q45.D N) := by
 refine fo ⟨Try.f45, Try.func45, by kernel_rfl, by kernel_rfl, fun x y h => ⟨Q45.G N, Q45.A, N, gamOf_ok (gc ⟨Q24.ok N, Q24.fit N⟩ (gc ⟨Q22.ok N, Q22.fit N⟩ (gc ⟨Q71.ok N, Q71.fit N⟩ (gc ⟨Q47.ok N, Q47.fit N⟩ (gc ⟨Q48.ok N, Q48.fit N⟩ gn))))), ?_⟩⟩ (Q45.fit N)
 rw [absFn_n (n0 := 10) rfl (by kernel_rfl)]
 refine (Q45.entry N (run tb (Q45.G N) Q45.A 10 (Q45.fin N) N) x).trans ?_
 have e0 : (fun (n_ : Int) (m1_ : ByteArray) (m1_2 m1_3 : Int) (m1_4 m1_5 : Bool) (m1_6 m1_7 m1_8 m1_9 m1_10 m1_11 m9_ : Int) (m10_ : (List TPiece)) (m11_ : LInt) (m12_ : (List TEnd)) (m13_ m14_ m15_ : LInt) (m16_ : (List TUndo)) => run tb (Q45.G N) Q45.A 10 (Q45.fin N) N Q45.k0 (Q45.st0 x.1 n_ m1_ m1_2 m1_3 m1_4 m1_5 m1_6 m1_7 m1_8 m1_9 m1_10 m1_11 m9_ m10_ m11_ m12_ m13_ m14_ m15_ m16_)) = Q45.l0 N x.1 N := by funext n_ m1_ m1_2 m1_3 m1_4 m1_5 m1_6 m1_7 m1_8 m1_9 m1_10 m1_11 m9_ m10_ m11_ m12_ m13_ m14_ m15_ m16_; exact (Q45.runs N x.1 N).1 n_ m1_ m1_2 m1_3 m1_4 m1_5 m1_6 m1_7 m1_8 m1_9 m1_10 m1_11 m9_ m10_ m11_ m12_ m13_ m14_ m15_ m16_
 have e1 : (fun (n_ out : Int) (m1_ : ByteArray) (m1_2 m1_3 : Int) (m1_4 m1_5 : Bool) (m1_6 m1_7 m1_8 m1_9 m1_10 m1_11 m9_ : Int) (m10_ : (List TPiece)) (m11_ : LInt) (m12_ : (List TEnd)) (m13_ m14_ m15_ : LInt) (m16_ : (List TUndo)) => run tb (Q45.G N) Q45.A 10 (Q45.fin N) N Q45.k1 (Q45.st1 x.1 n_ out m1_ m1_2 m1_3 m1_4 m1_5 m1_6 m1_7 m1_8 m1_9 m1_10 m1_11 m9_ m10_ m11_ m12_ m13_ m14_ m15_ m16_)) = Q45.l1 N x.1 N := by funext n_ out m1_ m1_2 m1_3 m1_4 m1_5 m1_6 m1_7 m1_8 m1_9 m1_10 m1_11 m9_ m10_ m11_ m12_ m13_ m14_ m15_ m16_; exact (Q45.runs N x.1 N).2 n_ out m1_ m1_2 m1_3 m1_4 m1_5 m1_6 m1_7 m1_8 m1_9 m1_10 m1_11 m9_ m10_ m11_ m12_ m13_ m14_ m15_ m16_
 have h' : (Q45.D N).f x = Q45.e N (Q45.l0 N x.1 N) (Q45.l1 N x.1 N) x.1 := by kernel_rfl
 exact (congr (congrArg (fun r0 r1 => Q45.e N r0 r1 x.1) e0) e1).trans (h'.symm.trans h)
def Q39.as : List MK := [.r (.prod qa (.prod qd (.prod (.int .u64) (.slice 149 qf))))]
def Q39.rs : List (Bool × HT) := [(false, (.d tI))]
def Q39.lc : List AC := []
def Q39.D : DFn := ⟨Q39.as, Q39.rs, Int, fun x => Q39 N x.1, fun r o => r.1, fun b => (b, ()), fun b => (), none⟩
theorem Q39.fit : (Q39.D N).Fit := ⟨fun _ _ => rfl, fun _ _ => rfl, by kernel_rfl, (fun _ _ h => nomatch h), by kernel_rfl⟩
noncomputable def Q39.G (N : Nat) : Gam := gamOf []
def Q39.A : LA := fun _ => none
noncomputable def Q39.fin : St → Option Int := resK tb Try.f39.results.toList (decRes (Q39.D N) Q39.lc)
theorem Q39.entry (rec : RK Int) (x : (argH Q39.as).den) : seg tb (Q39.G N) Q39.A 0 rec (Q39.fin N) segFuel [.code (bodyOf Try.f39)] (initSt Try.f39 (encArgs Q39.as x) (encMem Q39.as x)) = Q39.e N x.1 := by kernel_rfl
theorem Q39.ok : FnOk Try.prog 39 (Q39.D N) := by
 refine fo ⟨Try.f39, Try.func39, by kernel_rfl, by kernel_rfl, fun x y h => ⟨Q39.G N, Q39.A, N, gamOf_ok (fun p hp => nomatch hp), ?_⟩⟩ (Q39.fit N)
 rw [absFn_n (n0 := 0) rfl (by kernel_rfl)]
 exact (Q39.entry N _ x).trans h
def Q49.as : List MK := [.d false tI, .d false tI]
def Q49.rs : List (Bool × HT) := [(false, (.d tI))]
def Q49.lc : List AC := []
def Q49.D : DFn := ⟨Q49.as, Q49.rs, Int, fun x => Q49 N x.1 x.2.1, fun r o => r.1, fun b => (b, ()), fun b => (), none⟩
theorem Q49.fit : (Q49.D N).Fit := ⟨fun _ _ => rfl, fun _ _ => rfl, by kernel_rfl, (fun _ _ h => nomatch h), by kernel_rfl⟩
noncomputable def Q49.G (N : Nat) : Gam := gamOf []
def Q49.A : LA := fun _ => none
noncomputable def Q49.fin : St → Option Int := resK tb Try.f49.results.toList (decRes (Q49.D N) Q49.lc)
theorem Q49.entry (rec : RK Int) (x : (argH Q49.as).den) : seg tb (Q49.G N) Q49.A 0 rec (Q49.fin N) segFuel [.code (bodyOf Try.f49)] (initSt Try.f49 (encArgs Q49.as x) (encMem Q49.as x)) = Q49.e N x.1 x.2.1 := by kernel_rfl
theorem Q49.ok : FnOk Try.prog 49 (Q49.D N) := by
 refine fo ⟨Try.f49, Try.func49, by kernel_rfl, by kernel_rfl, fun x y h => ⟨Q49.G N, Q49.A, N, gamOf_ok (fun p hp => nomatch hp), ?_⟩⟩ (Q49.fit N)
 rw [absFn_n (n0 := 0) rfl (by kernel_rfl)]
 exact (Q49.entry N _ x).trans h
def Q72.as : List MK := [.d false tI]
def Q72.rs : List (Bool × HT) := [(false, (.d tI))]
def Q72.lc : List AC := []
def Q72.D : DFn := ⟨Q72.as, Q72.rs, Int, fun x => Q72 N x.1, fun r o => r.1, fun b => (b, ()), fun b => (), none⟩
theorem Q72.fit : (Q72.D N).Fit := ⟨fun _ _ => rfl, fun _ _ => rfl, by kernel_rfl, (fun _ _ h => nomatch h), by kernel_rfl⟩
noncomputable def Q72.G (N : Nat) : Gam := gamOf []
def Q72.A : LA := fun k => bif Nat.beq k 0 then some ⟨[0, 3, 4], [], [], [], [], 0, false⟩ else none
noncomputable def Q72.fin : St → Option Int := resK tb Try.f72.results.toList (decRes (Q72.D N) Q72.lc)
noncomputable def Q72.k0 : List Item := stackAt [.r, .r, .l, .b] (bodyOf Try.f72) []
def Q72.st0 (n_ low high : Int) : St := ⟨[oi n_, oA, oA, oi low, oi high] ++ rA 18, []⟩
theorem Q72.step0 (rec : RK Int) (n_ low high : Int) : seg tb (Q72.G N) Q72.A 0 rec (Q72.fin N) segFuel (loopBody Q72.k0) (Q72.st0 n_ low high) = Q72.s0 N n_ (fun low high => rec Q72.k0 (Q72.st0 n_ low high)) low high := by kernel_rfl
theorem Q72.entry (rec : RK Int) (x : (argH Q72.as).den) : seg tb (Q72.G N) Q72.A 0 rec (Q72.fin N) segFuel [.code (bodyOf Try.f72)] (initSt Try.f72 (encArgs Q72.as x) (encMem Q72.as x)) = Q72.e N (fun low high => rec Q72.k0 (Q72.st0 x.1 low high)) x.1 := by kernel_rfl
theorem Q72.runs (N : Nat) (n_ : Int) : ∀ n, (∀ (low high : Int), run tb (Q72.G N) Q72.A 0 (Q72.fin N) n Q72.k0 (Q72.st0 n_ low high) = Q72.l0 N n_ n low high)
 | 0 => fun _ _ => rfl
 | n + 1 => by
  have h0 := Q72.runs N n_ n
  have e0 : (fun (low high : Int) => run tb (Q72.G N) Q72.A 0 (Q72.fin N) n Q72.k0 (Q72.st0 n_ low high)) = Q72.l0 N n_ n := by funext low high; exact h0 low high
  have g0 : (∀ (low high : Int), run tb (Q72.G N) Q72.A 0 (Q72.fin N) (n + 1) Q72.k0 (Q72.st0 n_ low high) = Q72.l0 N n_ (n + 1) low high) := by
   intro low high
   exact (run_succ (by kernel_rfl)).trans ((Q72.step0 N _ n_ low high).trans ((congrArg (fun r0 => Q72.s0 N n_ r0 low high) e0).trans (Q72.l0_s N n_ n low high).symm))
  exact g0
theorem Q72.ok : FnOk Try.prog 72 (Q72.D N) := by
 refine fo ⟨Try.f72, Try.func72, by kernel_rfl, by kernel_rfl, fun x y h => ⟨Q72.G N, Q72.A, N, gamOf_ok (fun p hp => nomatch hp), ?_⟩⟩ (Q72.fit N)
 rw [absFn_n (n0 := 0) rfl (by kernel_rfl)]
 refine (Q72.entry N (run tb (Q72.G N) Q72.A 0 (Q72.fin N) N) x).trans ?_
 have e0 : (fun (low high : Int) => run tb (Q72.G N) Q72.A 0 (Q72.fin N) N Q72.k0 (Q72.st0 x.1 low high)) = Q72.l0 N x.1 N := by funext low high; exact (Q72.runs N x.1 N) low high
 have h' : (Q72.D N).f x = Q72.e N (Q72.l0 N x.1 N) x.1 := by kernel_rfl
 exact (congrArg (fun r0 => Q72.e N r0 x.1) e0).trans (h'.symm.trans h)
def Q46.as : List MK := [.o (.nd 75 71 (.slice 37 qc) (.prod tI tI)) true]
def Q46.rs : List (Bool × HT) := [(false, (.d tI))]
def Q46.lc (n_ : ((List TWN) × Int)) : List AC := [.nr n_.2]
def Q46.D : DFn := ⟨Q46.as, Q46.rs, (Int × ((List TWN) × Int)), fun x => Q46 N x.1, fun r o => (r.1, o.1), fun b => (b.1, ()), fun b => (b.2, ()), none⟩
theorem Q46.fit : (Q46.D N).Fit := ⟨fun _ _ => rfl, fun _ _ => rfl, by kernel_rfl, (fun _ _ h => nomatch h), by kernel_rfl⟩
noncomputable def Q46.G : Gam := gamOf [(72, Q72.D N)]
def Q46.A : LA := fun k => bif Nat.beq k 0 then some ⟨[0, 3, 4, 16, 17, 18], [], [], [], [], 1, false⟩ else none
noncomputable def Q46.fin (n_ : ((List TWN) × Int)) : St → Option (Int × ((List TWN) × Int)) := resK tb Try.f46.results.toList (decRes (Q46.D N) (Q46.lc n_))
noncomputable def Q46.k0 : List Item := stackAt [.r, .r, .r, .l, .r, .b] (bodyOf Try.f46) []
def Q46.st0 (n_ : ((List TWN) × Int)) (best bonus t17_ t18_ : Int) : St := ⟨[.one (.nr n_.2), oA, oA, oi best, oi bonus] ++ rA 11 ++ [.one (.kd n_.2 ((gD dW n_.1 n_.2).2.1.length : Int)), oi t17_, oi t18_] ++ rA 54, [.arena 75 71 (.slice 37 qc) (.prod tI tI) n_.1 none]⟩
theorem Q46.step0 (rec : RK (Int × ((List TWN) × Int))) (n_ : ((List TWN) × Int)) (best bonus t17_ t18_ : Int) : seg tb (Q46.G N) Q46.A 1 rec (Q46.fin N n_) segFuel (loopBody Q46.k0) (Q46.st0 n_ best bonus t17_ t18_) = Q46.s0 N n_ (fun best bonus t17_ t18_ => rec Q46.k0 (Q46.st0 n_ best bonus t17_ t18_)) best bonus t17_ t18_ := by kernel_rfl
theorem Q46.entry (rec : RK (Int × ((List TWN) × Int))) (x : (argH Q46.as).den) : seg tb (Q46.G N) Q46.A 1 rec (Q46.fin N x.1) segFuel [.code (bodyOf Try.f46)] (initSt Try.f46 (encArgs Q46.as x) (encMem Q46.as x)) = Q46.e N (fun best bonus t17_ t18_ => rec Q46.k0 (Q46.st0 x.1 best bonus t17_ t18_)) x.1 := by kernel_rfl
theorem Q46.runs (N : Nat) (n_ : ((List TWN) × Int)) : ∀ n, (∀ (best bonus t17_ t18_ : Int), run tb (Q46.G N) Q46.A 1 (Q46.fin N n_) n Q46.k0 (Q46.st0 n_ best bonus t17_ t18_) = Q46.l0 N n_ n best bonus t17_ t18_)
 | 0 => fun _ _ _ _ => rfl
 | n + 1 => by
  have h0 := Q46.runs N n_ n
  have e0 : (fun (best bonus t17_ t18_ : Int) => run tb (Q46.G N) Q46.A 1 (Q46.fin N n_) n Q46.k0 (Q46.st0 n_ best bonus t17_ t18_)) = Q46.l0 N n_ n := by funext best bonus t17_ t18_; exact h0 best bonus t17_ t18_
  have g0 : (∀ (best bonus t17_ t18_ : Int), run tb (Q46.G N) Q46.A 1 (Q46.fin N n_) (n + 1) Q46.k0 (Q46.st0 n_ best bonus t17_ t18_) = Q46.l0 N n_ (n + 1) best bonus t17_ t18_) := by
   intro best bonus t17_ t18_
   exact (run_succ (by kernel_rfl)).trans ((Q46.step0 N _ n_ best bonus t17_ t18_).trans ((congrArg (fun r0 => Q46.s0 N n_ r0 best bonus t17_ t18_) e0).trans (Q46.l0_s N n_ n best bonus t17_ t18_).symm))
  exact g0
theorem Q46.ok : FnOk Try.prog 46 (Q46.D N) := by
 refine fo ⟨Try.f46, Try.func46, by kernel_rfl, by kernel_rfl, fun x y h => ⟨Q46.G N, Q46.A, N, gamOf_ok (gc ⟨Q72.ok N, Q72.fit N⟩ gn), ?_⟩⟩ (Q46.fit N)
 rw [absFn_n (n0 := 1) rfl (by kernel_rfl)]
 refine (Q46.entry N (run tb (Q46.G N) Q46.A 1 (Q46.fin N x.1) N) x).trans ?_
 have e0 : (fun (best bonus t17_ t18_ : Int) => run tb (Q46.G N) Q46.A 1 (Q46.fin N x.1) N Q46.k0 (Q46.st0 x.1 best bonus t17_ t18_)) = Q46.l0 N x.1 N := by funext best bonus t17_ t18_; exact (Q46.runs N x.1 N) best bonus t17_ t18_
 have h' : (Q46.D N).f x = Q46.e N (Q46.l0 N x.1 N) x.1 := by kernel_rfl
 exact (congrArg (fun r0 => Q46.e N r0 x.1) e0).trans (h'.symm.trans h)
def Q23.as : List MK := [.o (.ptr 70 (.prod (.ptr 119 (.prod (.prod (.d .str) (.prod (.d tI) (.prod (.d tI) (.prod (.own 80 qb) (.prod (.own 3 tI) (.prod (.d .bool) (.prod (.d .bool) (.prod (.own 82 qe) (.d qc))))))))) (.prod (.prod (.own 3 tI) (.prod (.prod (.own 3 tI) (.own 3 tI)) (.d (.prod tI tI)))) (.prod (.d (.int .u64)) (.own 149 qf))))) (.ptr 121 (.d tI)))) true, .o (.nd 75 71 (.slice 37 qc) (.prod tI tI)) true]
def Q23.rs : List (Bool × HT) := [(false, (.d tI))]
def Q23.lc (x_ : (TBoard × Int)) (n_ : ((List TWN) × Int)) : List AC := [.ptr 0 0, .nr n_.2]
def Q23.D : DFn := ⟨Q23.as, Q23.rs, (Int × (TBoard × Int) × ((List TWN) × Int)), fun x => Q23 N x.1 x.2.1, fun r o => (r.1, o.1, o.2.1), fun b => (b.1, ()), fun b => (b.2.1, (b.2.2, ())), some [1, 9]⟩
theorem Q23.fit : (Q23.D N).Fit := ⟨fun _ _ => rfl, fun _ _ => rfl, by kernel_rfl, (fun x L h => by cases h; kernel_rfl), by kernel_rfl⟩
noncomputable def Q23.G : Gam := gamOf [(45, Q45.D N), (39, Q39.D N), (49, Q49.D N), (22, Q22.D N), (24, Q24.D N), (46, Q46.D N), (47, Q47.D N), (48, Q48.D N), (23, Q23.D N)]
def Q23.A : LA := fun k => bif Nat.beq k 1 then some ⟨[0, 1, 24, 25], [], [], [(false, 1000000, 0, 12)], [], 13, false⟩ else bif Nat.beq k 3000047 then some ⟨[], [], [], [], [], 0, false⟩ else none
noncomputable def Q23.fin (x_ : (TBoard × Int)) (n_ : ((List TWN) × Int)) : St → Option (Int × (TBoard × Int) × ((List TWN) × Int)) := resK tb Try.f23.results.toList (decRes (Q23.D (N + 1)) (Q23.lc x_ n_))
noncomputable def Q23.k0 : List Item := stackAt [.r, .r, .l, .b, .r, .e, .l, .r, .t, .r, .r, .b] (bodyOf Try.f23) []
def Q23.st0 (x_ : (TBoard × Int)) (n_ : ((List TWN) × Int)) (t24_ t25_ : Int) (nodes : (List TWN)) : St := ⟨[.one (.ptr 0 0), .one (.nr n_.2)] ++ rA 22 ++ [oi t24_, oi t25_] ++ rA 80, [.var 70 [.ptr 1 0, .ptr 9 0], .var 119 [.str x_.1.1.1, .int .i64 x_.1.1.2.1, .int .i64 x_.1.1.2.2.1, .own 2, .own 3, .bool x_.1.1.2.2.2.2.2.1, .bool x_.1.1.2.2.2.2.2.2.1, .own 4, .int .i64 x_.1.1.2.2.2.2.2.2.2.2.1, .int .i64 x_.1.1.2.2.2.2.2.2.2.2.2.1, .int .i64 x_.1.1.2.2.2.2.2.2.2.2.2.2, .own 5, .own 6, .own 7, .int .i64 x_.1.2.1.2.2.1, .int .i64 x_.1.2.1.2.2.2, .int .u64 x_.1.2.2.1, .own 8], .row 80 qb x_.1.1.2.2.2.1, .row 3 tI x_.1.1.2.2.2.2.1, .row 82 qe x_.1.1.2.2.2.2.2.2.2.1, .row 3 tI x_.1.2.1.1, .row 3 tI x_.1.2.1.2.1.1, .row 3 tI x_.1.2.1.2.1.2, .row 149 qf x_.1.2.2.2, .var 121 [.int .i64 x_.2], .gone, .gone, .arena 75 71 (.slice 37 qc) (.prod tI tI) nodes none]⟩
theorem Q23.step0 (rec : RK (Int × (TBoard × Int) × ((List TWN) × Int))) (x_ : (TBoard × Int)) (n_ : ((List TWN) × Int)) (t24_ t25_ : Int) (nodes : (List TWN)) : seg tb (Q23.G N) Q23.A 11 rec (Q23.fin N x_ n_) segFuel (loopBody Q23.k0) (Q23.st0 x_ n_ t24_ t25_ nodes) = Q23.s0 N (Q23 N) x_ n_ (fun t24_ t25_ nodes => rec Q23.k0 (Q23.st0 x_ n_ t24_ t25_ nodes)) t24_ t25_ nodes := by kernel_rfl
theorem Q23.entry (rec : RK (Int × (TBoard × Int) × ((List TWN) × Int))) (x : (argH Q23.as).den) : seg tb (Q23.G N) Q23.A 11 rec (Q23.fin N x.1 x.2.1) segFuel [.code (bodyOf Try.f23)] (initSt Try.f23 (encArgs Q23.as x) (encMem Q23.as x)) = Q23.e N (Q23 N) (fun t24_ t25_ nodes => rec Q23.k0 (Q23.st0 x.1 x.2.1 t24_ t25_ nodes)) x.1 x.2.1 := by kernel_rfl
theorem Q23.runs (N : Nat) (x_ : (TBoard × Int)) (n_ : ((List TWN) × Int)) : ∀ n, (∀ (t24_ t25_ : Int) (nodes : (List TWN)), run tb (Q23.G N) Q23.A 11 (Q23.fin N x_ n_) n Q23.k0 (Q23.st0 x_ n_ t24_ t25_ nodes) = Q23.l0 N (Q23 N) x_ n_ n t24_ t25_ nodes)
 | 0 => fun _ _ _ => rfl
 | n + 1 => by
  have h0 := Q23.runs N x_ n_ n
  have e0 : (fun (t24_ t25_ : Int) (nodes : (List TWN)) => run tb (Q23.G N) Q23.A 11 (Q23.fin N x_ n_) n Q23.k0 (Q23.st0 x_ n_ t24_ t25_ nodes)) = Q23.l0 N (Q23 N) x_ n_ n := by funext t24_ t25_ nodes; exact h0 t24_ t25_ nodes
  have g0 : (∀ (t24_ t25_ : Int) (nodes : (List TWN)), run tb (Q23.G N) Q23.A 11 (Q23.fin N x_ n_) (n + 1) Q23.k0 (Q23.st0 x_ n_ t24_ t25_ nodes) = Q23.l0 N (Q23 N) x_ n_ (n + 1) t24_ t25_ nodes) := by
   intro t24_ t25_ nodes
   exact (run_succ (by kernel_rfl)).trans ((Q23.step0 N _ x_ n_ t24_ t25_ nodes).trans ((congrArg (fun r0 => Q23.s0 N (Q23 N) x_ n_ r0 t24_ t25_ nodes) e0).trans (Q23.l0_s N (Q23 N) x_ n_ n t24_ t25_ nodes).symm))
  exact g0
theorem Q23.ok1 (ih : FnOk Try.prog 23 (Q23.D N)) : FnOk Try.prog 23 (Q23.D (N + 1)) := by
 refine fo ⟨Try.f23, Try.func23, by kernel_rfl, by kernel_rfl, fun x y h => ⟨Q23.G N, Q23.A, N, gamOf_ok (by simp only [List.forall_mem_cons, List.not_mem_nil, false_implies, implies_true, and_true]; exact ⟨⟨Q45.ok N, Q45.fit N⟩, ⟨Q39.ok N, Q39.fit N⟩, ⟨Q49.ok N, Q49.fit N⟩, ⟨Q22.ok N, Q22.fit N⟩, ⟨Q24.ok N, Q24.fit N⟩, ⟨Q46.ok N, Q46.fit N⟩, ⟨Q47.ok N, Q47.fit N⟩, ⟨Q48.ok N, Q48.fit N⟩, ⟨ih, Q23.fit N⟩⟩), ?_⟩⟩ (Q23.fit (N + 1))
 rw [absFn_n (n0 := 11) rfl (by kernel_rfl)]
 refine (Q23.entry N (run tb (Q23.G N) Q23.A 11 (Q23.fin N x.1 x.2.1) N) x).trans ?_
 have e0 : (fun (t24_ t25_ : Int) (nodes : (List TWN)) => run tb (Q23.G N) Q23.A 11 (Q23.fin N x.1 x.2.1) N Q23.k0 (Q23.st0 x.1 x.2.1 t24_ t25_ nodes)) = Q23.l0 N (Q23 N) x.1 x.2.1 N := by funext t24_ t25_ nodes; exact (Q23.runs N x.1 x.2.1 N) t24_ t25_ nodes
 have h' : (Q23.D (N + 1)).f x = Q23.e N (Q23 N) (Q23.l0 N (Q23 N) x.1 x.2.1 N) x.1 x.2.1 := by kernel_rfl
 exact (congrArg (fun r0 => Q23.e N (Q23 N) r0 x.1 x.2.1) e0).trans (h'.symm.trans h)
theorem Q23.ok : ∀ N, FnOk Try.prog 23 (Q23.D N)
 | 0 => FnOk_none Try.func23 (by kernel_rfl) (by kernel_rfl) (fun x => rfl)
 | N + 1 => Q23.ok1 N (Q23.ok N)
def Q5.as : List MK := [.d true qa, .d true qd, .d false tI, .d false tI]
def Q5.rs : List (Bool × HT) := [(false, (.own 39 (.prod qc (.prod tI tI)))), (false, (.d tI))]
def Q5.lc : List AC := []
def Q5.D : DFn := ⟨Q5.as, Q5.rs, ((List (TMv × (Int × Int))) × Int), fun x => Q5 N x.1 x.2.1 x.2.2.1 x.2.2.2.1, fun r o => (r.1, r.2.1), fun b => (b.1, (b.2, ())), fun b => (), none⟩
theorem Q5.fit : (Q5.D N).Fit := ⟨fun _ _ => rfl, fun _ _ => rfl, by kernel_rfl, (fun _ _ h => nomatch h), by kernel_rfl⟩
noncomputable def Q5.G : Gam := gamOf [(20, Q20.D N), (21, Q21.D N), (22, Q22.D N), (23, Q23.D N), (24, Q24.D N)]
def Q5.A : LA := fun k => bif Nat.beq k 1 then some ⟨[10, 13, 14, 54, 55], [], [(12, 0, 0), (12, 1, 0)], [(true, 3, 3, 4), (true, 3, 4, 5), (true, 3, 7, 6), (true, 3, 11, 7), (true, 3, 12, 8), (true, 3, 13, 9), (true, 3, 17, 10), (false, 1000000, 0, 14)], [1, 2], 15, false⟩ else bif Nat.beq k 3 then some ⟨[14, 15, 62, 63, 64], [(15, 39)], [], [(false, 15, 0, 16)], [3, 4, 5, 6, 7, 8, 9, 10, 11, 12], 17, false⟩ else none
noncomputable def Q5.fin : St → Option ((List (TMv × (Int × Int))) × Int) := resK tb Try.f5.results.toList (decRes (Q5.D N) Q5.lc)
noncomputable def Q5.k0 : List Item := stackAt [.r, .r, .r, .r, .r, .r, .r, .l, .r, .b] (bodyOf Try.f5) []
def Q5.st0 (r_ : TRules) (p_ : TPos) (seed steps t55_ : Int) (b_ : ByteArray) (b_2 b_3 : Int) (b_4 b_5 : Bool) (b_6 b_7 b_8 b_9 b_10 b_11 : Int) (m4_ : (List TPiece)) (m5_ : LInt) (m6_ : (List TEnd)) (m7_ m8_ m9_ : LInt) (m10_ : (List TUndo)) (m11_ : Int) (nodes : (List TWN)) : St := ⟨rA 10 ++ [.one (.ptr 3 0), oA, oA, .one (.ptr 12 0), .one (.np 0 0)] ++ rA 39 ++ [oi steps, oi t55_] ++ rA 48, [.gone, .gone, .gone, .var 119 [.str b_, .int .i64 b_2, .int .i64 b_3, .own 4, .own 5, .bool b_4, .bool b_5, .own 6, .int .i64 b_6, .int .i64 b_7, .int .i64 b_8, .own 7, .own 8, .own 9, .int .i64 b_9, .int .i64 b_10, .int .u64 b_11, .own 10], .row 80 qb m4_, .row 3 tI m5_, .row 82 qe m6_, .row 3 tI m7_, .row 3 tI m8_, .row 3 tI m9_, .row 149 qf m10_, .var 121 [.int .i64 m11_], .var 70 [.ptr 3 0, .ptr 11 0], .gone, .arena 75 71 (.slice 37 qc) (.prod tI tI) nodes none]⟩
noncomputable def Q5.k1 : List Item := stackAt [.r, .r, .r, .r, .r, .r, .r, .r, .r, .l, .r, .b] (bodyOf Try.f5) []
def Q5.st1 (r_ : TRules) (p_ : TPos) (seed steps t63_ t64_ : Int) (nodes : (List TWN)) (m15_ : LMv) (out : (List (TMv × (Int × Int)))) : St := ⟨rA 14 ++ [.one (.np 0 0), .one (.own 16)] ++ rA 46 ++ [.one (.own 15), oi t63_, oi t64_] ++ rA 39, [.gone, .gone, .gone, .gone, .gone, .gone, .gone, .gone, .gone, .gone, .gone, .gone, .gone, .gone, .arena 75 71 (.slice 37 qc) (.prod tI tI) nodes none, .row 37 qc m15_, .row 39 (.prod qc (.prod tI tI)) out]⟩
theorem Q5.step0 (rec : RK ((List (TMv × (Int × Int))) × Int)) (r_ : TRules) (p_ : TPos) (seed steps t55_ : Int) (b_ : ByteArray) (b_2 b_3 : Int) (b_4 b_5 : Bool) (b_6 b_7 b_8 b_9 b_10 b_11 : Int) (m4_ : (List TPiece)) (m5_ : LInt) (m6_ : (List TEnd)) (m7_ m8_ m9_ : LInt) (m10_ : (List TUndo)) (m11_ : Int) (nodes : (List TWN)) : seg tb (Q5.G N) Q5.A 1 rec (Q5.fin N) segFuel (loopBody Q5.k0) (Q5.st0 r_ p_ seed steps t55_ b_ b_2 b_3 b_4 b_5 b_6 b_7 b_8 b_9 b_10 b_11 m4_ m5_ m6_ m7_ m8_ m9_ m10_ m11_ nodes) = Q5.s0 N r_ p_ seed steps (fun t55_ b_ b_2 b_3 b_4 b_5 b_6 b_7 b_8 b_9 b_10 b_11 m4_ m5_ m6_ m7_ m8_ m9_ m10_ m11_ nodes => rec Q5.k0 (Q5.st0 r_ p_ seed steps t55_ b_ b_2 b_3 b_4 b_5 b_6 b_7 b_8 b_9 b_10 b_11 m4_ m5_ m6_ m7_ m8_ m9_ m10_ m11_ nodes)) (fun t63_ t64_ nodes m15_ out => rec Q5.k1 (Q5.st1 r_ p_ seed steps t63_ t64_ nodes m15_ out)) t55_ b_ b_2 b_3 b_4 b_5 b_6 b_7 b_8 b_9 b_10 b_11 m4_ m5_ m6_ m7_ m8_ m9_ m10_ m11_ nodes := by kernel_rfl
theorem Q5.step1 (rec : RK ((List (TMv × (Int × Int))) × Int)) (r_ : TRules) (p_ : TPos) (seed steps t63_ t64_ : Int) (nodes : (List TWN)) (m15_ : LMv) (out : (List (TMv × (Int × Int)))) : seg tb (Q5.G N) Q5.A 1 rec (Q5.fin N) segFuel (loopBody Q5.k1) (Q5.st1 r_ p_ seed steps t63_ t64_ nodes m15_ out) = Q5.s1 N r_ p_ seed steps (fun t55_ b_ b_2 b_3 b_4 b_5 b_6 b_7 b_8 b_9 b_10 b_11 m4_ m5_ m6_ m7_ m8_ m9_ m10_ m11_ nodes => rec Q5.k0 (Q5.st0 r_ p_ seed steps t55_ b_ b_2 b_3 b_4 b_5 b_6 b_7 b_8 b_9 b_10 b_11 m4_ m5_ m6_ m7_ m8_ m9_ m10_ m11_ nodes)) (fun t63_ t64_ nodes m15_ out => rec Q5.k1 (Q5.st1 r_ p_ seed steps t63_ t64_ nodes m15_ out)) t63_ t64_ nodes m15_ out := by kernel_rfl
theorem Q5.entry (rec : RK ((List (TMv × (Int × Int))) × Int)) (x : (argH Q5.as).den) : seg tb (Q5.G N) Q5.A 1 rec (Q5.fin N) segFuel [.code (bodyOf Try.f5)] (initSt Try.f5 (encArgs Q5.as x) (encMem Q5.as x ++ [.arena 75 71 (.slice 37 qc) (.prod tI tI) [] none])) = Q5.e N (fun t55_ b_ b_2 b_3 b_4 b_5 b_6 b_7 b_8 b_9 b_10 b_11 m4_ m5_ m6_ m7_ m8_ m9_ m10_ m11_ nodes => rec Q5.k0 (Q5.st0 x.1 x.2.1 x.2.2.1 x.2.2.2.1 t55_ b_ b_2 b_3 b_4 b_5 b_6 b_7 b_8 b_9 b_10 b_11 m4_ m5_ m6_ m7_ m8_ m9_ m10_ m11_ nodes)) (fun t63_ t64_ nodes m15_ out => rec Q5.k1 (Q5.st1 x.1 x.2.1 x.2.2.1 x.2.2.2.1 t63_ t64_ nodes m15_ out)) x.1 x.2.1 x.2.2.1 x.2.2.2.1 := by kernel_rfl
theorem Q5.runs (N : Nat) (r_ : TRules) (p_ : TPos) (seed steps : Int) : ∀ n, (∀ (t55_ : Int) (b_ : ByteArray) (b_2 b_3 : Int) (b_4 b_5 : Bool) (b_6 b_7 b_8 b_9 b_10 b_11 : Int) (m4_ : (List TPiece)) (m5_ : LInt) (m6_ : (List TEnd)) (m7_ m8_ m9_ : LInt) (m10_ : (List TUndo)) (m11_ : Int) (nodes : (List TWN)), run tb (Q5.G N) Q5.A 1 (Q5.fin N) n Q5.k0 (Q5.st0 r_ p_ seed steps t55_ b_ b_2 b_3 b_4 b_5 b_6 b_7 b_8 b_9 b_10 b_11 m4_ m5_ m6_ m7_ m8_ m9_ m10_ m11_ nodes) = Q5.l0 N r_ p_ seed steps n t55_ b_ b_2 b_3 b_4 b_5 b_6 b_7 b_8 b_9 b_10 b_11 m4_ m5_ m6_ m7_ m8_ m9_ m10_ m11_ nodes) ∧ (∀ (t63_ t64_ : Int) (nodes : (List TWN)) (m15_ : LMv) (out : (List (TMv × (Int × Int)))), run tb (Q5.G N) Q5.A 1 (Q5.fin N) n Q5.k1 (Q5.st1 r_ p_ seed steps t63_ t64_ nodes m15_ out) = Q5.l1 N r_ p_ seed steps n t63_ t64_ nodes m15_ out)
 | 0 => ⟨fun _ _ _ _ _ _ _ _ _ _ _ _ _ _ _ _ _ _ _ _ _ => rfl, fun _ _ _ _ _ => rfl⟩
 | n + 1 => by
  obtain ⟨h0, h1⟩ := Q5.runs N r_ p_ seed steps n
  have e0 : (fun (t55_ : Int) (b_ : ByteArray) (b_2 b_3 : Int) (b_4 b_5 : Bool) (b_6 b_7 b_8 b_9 b_10 b_11 : Int) (m4_ : (List TPiece)) (m5_ : LInt) (m6_ : (List TEnd)) (m7_ m8_ m9_ : LInt) (m10_ : (List TUndo)) (m11_ : Int) (nodes : (List TWN)) => run tb (Q5.G N) Q5.A 1 (Q5.fin N) n Q5.k0 (Q5.st0 r_ p_ seed steps t55_ b_ b_2 b_3 b_4 b_5 b_6 b_7 b_8 b_9 b_10 b_11 m4_ m5_ m6_ m7_ m8_ m9_ m10_ m11_ nodes)) = Q5.l0 N r_ p_ seed steps n := by funext t55_ b_ b_2 b_3 b_4 b_5 b_6 b_7 b_8 b_9 b_10 b_11 m4_ m5_ m6_ m7_ m8_ m9_ m10_ m11_ nodes; exact h0 t55_ b_ b_2 b_3 b_4 b_5 b_6 b_7 b_8 b_9 b_10 b_11 m4_ m5_ m6_ m7_ m8_ m9_ m10_ m11_ nodes
  have e1 : (fun (t63_ t64_ : Int) (nodes : (List TWN)) (m15_ : LMv) (out : (List (TMv × (Int × Int)))) => run tb (Q5.G N) Q5.A 1 (Q5.fin N) n Q5.k1 (Q5.st1 r_ p_ seed steps t63_ t64_ nodes m15_ out)) = Q5.l1 N r_ p_ seed steps n := by funext t63_ t64_ nodes m15_ out; exact h1 t63_ t64_ nodes m15_ out
  have g0 : (∀ (t55_ : Int) (b_ : ByteArray) (b_2 b_3 : Int) (b_4 b_5 : Bool) (b_6 b_7 b_8 b_9 b_10 b_11 : Int) (m4_ : (List TPiece)) (m5_ : LInt) (m6_ : (List TEnd)) (m7_ m8_ m9_ : LInt) (m10_ : (List TUndo)) (m11_ : Int) (nodes : (List TWN)), run tb (Q5.G N) Q5.A 1 (Q5.fin N) (n + 1) Q5.k0 (Q5.st0 r_ p_ seed steps t55_ b_ b_2 b_3 b_4 b_5 b_6 b_7 b_8 b_9 b_10 b_11 m4_ m5_ m6_ m7_ m8_ m9_ m10_ m11_ nodes) = Q5.l0 N r_ p_ seed steps (n + 1) t55_ b_ b_2 b_3 b_4 b_5 b_6 b_7 b_8 b_9 b_10 b_11 m4_ m5_ m6_ m7_ m8_ m9_ m10_ m11_ nodes) := by
   intro t55_ b_ b_2 b_3 b_4 b_5 b_6 b_7 b_8 b_9 b_10 b_11 m4_ m5_ m6_ m7_ m8_ m9_ m10_ m11_ nodes
   exact (run_succ (by kernel_rfl)).trans ((Q5.step0 N _ r_ p_ seed steps t55_ b_ b_2 b_3 b_4 b_5 b_6 b_7 b_8 b_9 b_10 b_11 m4_ m5_ m6_ m7_ m8_ m9_ m10_ m11_ nodes).trans ((congr (congrArg (fun r0 r1 => Q5.s0 N r_ p_ seed steps r0 r1 t55_ b_ b_2 b_3 b_4 b_5 b_6 b_7 b_8 b_9 b_10 b_11 m4_ m5_ m6_ m7_ m8_ m9_ m10_ m11_ nodes) e0) e1).trans (Q5.l0_s N r_ p_ seed steps n t55_ b_ b_2 b_3 b_4 b_5 b_6 b_7 b_8 b_9 b_10 b_11 m4_ m5_ m6_ m7_ m8_ m9_ m10_ m11_ nodes).symm))
  have g1 : (∀ (t63_ t64_ : Int) (nodes : (List TWN)) (m15_ : LMv) (out : (List (TMv × (Int × Int)))), run tb (Q5.G N) Q5.A 1 (Q5.fin N) (n + 1) Q5.k1 (Q5.st1 r_ p_ seed steps t63_ t64_ nodes m15_ out) = Q5.l1 N r_ p_ seed steps (n + 1) t63_ t64_ nodes m15_ out) := by
   intro t63_ t64_ nodes m15_ out
   exact (run_succ (by kernel_rfl)).trans ((Q5.step1 N _ r_ p_ seed steps t63_ t64_ nodes m15_ out).trans ((congr (congrArg (fun r0 r1 => Q5.s1 N r_ p_ seed steps r0 r1 t63_ t64_ nodes m15_ out) e0) e1).trans (Q5.l1_s N r_ p_ seed steps n t63_ t64_ nodes m15_ out).symm))
  exact ⟨g0, g1⟩
theorem Q5.ok : FnOk Try.prog 5 (Q5.D N) := by
 refine FnOk_ofA (T := 75) (e := 71) (a := (.slice 37 qc)) (b := (.prod tI tI)) tb_ok (Checked.mixed Try.checked) ⟨⟨by kernel_rfl, by kernel_rfl⟩, Try.f5, Try.func5, by kernel_rfl, by kernel_rfl, fun x y h => ⟨Q5.G N, Q5.A, N, gamOf_ok (gc ⟨Q20.ok N, Q20.fit N⟩ (gc ⟨Q21.ok N, Q21.fit N⟩ (gc ⟨Q22.ok N, Q22.fit N⟩ (gc ⟨Q23.ok N, Q23.fit N⟩ (gc ⟨Q24.ok N, Q24.fit N⟩ gn))))), ?_⟩⟩ (Q5.fit N)
 rw [absFn_n (n0 := 1) rfl (by kernel_rfl)]
 refine (Q5.entry N (run tb (Q5.G N) Q5.A 1 (Q5.fin N) N) x).trans ?_
 have e0 : (fun (t55_ : Int) (b_ : ByteArray) (b_2 b_3 : Int) (b_4 b_5 : Bool) (b_6 b_7 b_8 b_9 b_10 b_11 : Int) (m4_ : (List TPiece)) (m5_ : LInt) (m6_ : (List TEnd)) (m7_ m8_ m9_ : LInt) (m10_ : (List TUndo)) (m11_ : Int) (nodes : (List TWN)) => run tb (Q5.G N) Q5.A 1 (Q5.fin N) N Q5.k0 (Q5.st0 x.1 x.2.1 x.2.2.1 x.2.2.2.1 t55_ b_ b_2 b_3 b_4 b_5 b_6 b_7 b_8 b_9 b_10 b_11 m4_ m5_ m6_ m7_ m8_ m9_ m10_ m11_ nodes)) = Q5.l0 N x.1 x.2.1 x.2.2.1 x.2.2.2.1 N := by funext t55_ b_ b_2 b_3 b_4 b_5 b_6 b_7 b_8 b_9 b_10 b_11 m4_ m5_ m6_ m7_ m8_ m9_ m10_ m11_ nodes; exact (Q5.runs N x.1 x.2.1 x.2.2.1 x.2.2.2.1 N).1 t55_ b_ b_2 b_3 b_4 b_5 b_6 b_7 b_8 b_9 b_10 b_11 m4_ m5_ m6_ m7_ m8_ m9_ m10_ m11_ nodes
 have e1 : (fun (t63_ t64_ : Int) (nodes : (List TWN)) (m15_ : LMv) (out : (List (TMv × (Int × Int)))) => run tb (Q5.G N) Q5.A 1 (Q5.fin N) N Q5.k1 (Q5.st1 x.1 x.2.1 x.2.2.1 x.2.2.2.1 t63_ t64_ nodes m15_ out)) = Q5.l1 N x.1 x.2.1 x.2.2.1 x.2.2.2.1 N := by funext t63_ t64_ nodes m15_ out; exact (Q5.runs N x.1 x.2.1 x.2.2.1 x.2.2.2.1 N).2 t63_ t64_ nodes m15_ out
 have h' : (Q5.D N).f x = Q5.e N (Q5.l0 N x.1 x.2.1 x.2.2.1 x.2.2.2.1 N) (Q5.l1 N x.1 x.2.1 x.2.2.1 x.2.2.2.1 N) x.1 x.2.1 x.2.2.1 x.2.2.2.1 := by kernel_rfl
 exact (congr (congrArg (fun r0 r1 => Q5.e N r0 r1 x.1 x.2.1 x.2.2.1 x.2.2.2.1) e0) e1).trans (h'.symm.trans h)
def Q8.as : List MK := [.d false tI]
def Q8.rs : List (Bool × HT) := [(true, (.d qc))]
def Q8.lc : List AC := []
def Q8.D : DFn := ⟨Q8.as, Q8.rs, TMv, fun x => Q8 N x.1, fun r o => r.1, fun b => (b, ()), fun b => (), none⟩
theorem Q8.fit : (Q8.D N).Fit := ⟨fun _ _ => rfl, fun _ _ => rfl, by kernel_rfl, (fun _ _ h => nomatch h), by kernel_rfl⟩
noncomputable def Q8.G (N : Nat) : Gam := gamOf []
def Q8.A : LA := fun _ => none
noncomputable def Q8.fin : St → Option TMv := resK tb Try.f8.results.toList (decRes (Q8.D N) Q8.lc)
theorem Q8.entry (rec : RK TMv) (x : (argH Q8.as).den) : seg tb (Q8.G N) Q8.A 0 rec (Q8.fin N) segFuel [.code (bodyOf Try.f8)] (initSt Try.f8 (encArgs Q8.as x) (encMem Q8.as x)) = Q8.e N x.1 := by kernel_rfl
theorem Q8.ok : FnOk Try.prog 8 (Q8.D N) := by
 refine fo ⟨Try.f8, Try.func8, by kernel_rfl, by kernel_rfl, fun x y h => ⟨Q8.G N, Q8.A, N, gamOf_ok (fun p hp => nomatch hp), ?_⟩⟩ (Q8.fit N)
 rw [absFn_n (n0 := 0) rfl (by kernel_rfl)]
 exact (Q8.entry N _ x).trans h
def Q51.as : List MK := [.d true qa, .d true qd, .d false tI]
def Q51.rs : List (Bool × HT) := [(false, (.opt 119 (.prod (.prod (.d .str) (.prod (.d tI) (.prod (.d tI) (.prod (.own 80 qb) (.prod (.own 3 tI) (.prod (.d .bool) (.prod (.d .bool) (.prod (.own 82 qe) (.d qc))))))))) (.prod (.prod (.own 3 tI) (.prod (.prod (.own 3 tI) (.own 3 tI)) (.d (.prod tI tI)))) (.prod (.d (.int .u64)) (.own 149 qf)))))), (false, (.d tI))]
def Q51.lc : List AC := []
def Q51.D : DFn := ⟨Q51.as, Q51.rs, ((Option TBoard) × Int), fun x => Q51 N x.1 x.2.1 x.2.2.1, fun r o => (r.1, r.2.1), fun b => (b.1, (b.2, ())), fun b => (), none⟩
theorem Q51.fit : (Q51.D N).Fit := ⟨fun _ _ => rfl, fun _ _ => rfl, by kernel_rfl, (fun _ _ h => nomatch h), by kernel_rfl⟩
noncomputable def Q51.G : Gam := gamOf [(20, Q20.D N)]
def Q51.A : LA := fun _ => none
noncomputable def Q51.fin : St → Option ((Option TBoard) × Int) := resK tb Try.f51.results.toList (decRes (Q51.D N) Q51.lc)
theorem Q51.entry (rec : RK ((Option TBoard) × Int)) (x : (argH Q51.as).den) : seg tb (Q51.G N) Q51.A 0 rec (Q51.fin N) segFuel [.code (bodyOf Try.f51)] (initSt Try.f51 (encArgs Q51.as x) (encMem Q51.as x)) = Q51.e N x.1 x.2.1 x.2.2.1 := by kernel_rfl
theorem Q51.ok : FnOk Try.prog 51 (Q51.D N) := by
 refine fo ⟨Try.f51, Try.func51, by kernel_rfl, by kernel_rfl, fun x y h => ⟨Q51.G N, Q51.A, N, gamOf_ok (gc ⟨Q20.ok N, Q20.fit N⟩ gn), ?_⟩⟩ (Q51.fit N)
 rw [absFn_n (n0 := 0) rfl (by kernel_rfl)]
 exact (Q51.entry N _ x).trans h
def Q52.as : List MK := [.o (.ptr 129 (.d tI)) true, .o (.ptr 119 (.prod (.prod (.d .str) (.prod (.d tI) (.prod (.d tI) (.prod (.own 80 qb) (.prod (.own 3 tI) (.prod (.d .bool) (.prod (.d .bool) (.prod (.own 82 qe) (.d qc))))))))) (.prod (.prod (.own 3 tI) (.prod (.prod (.own 3 tI) (.own 3 tI)) (.d (.prod tI tI)))) (.prod (.d (.int .u64)) (.own 149 qf))))) true, .d false tI]
def Q52.rs : List (Bool × HT) := [(false, (.d tI))]
def Q52.lc : List AC := [.ptr 0 0, .ptr 1 0]
def Q52.D : DFn := ⟨Q52.as, Q52.rs, (Int × Int × TBoard), fun x => Q52 N x.1 x.2.1 x.2.2.1, fun r o => (r.1, o.1, o.2.1), fun b => (b.1, ()), fun b => (b.2.1, (b.2.2, ())), none⟩
theorem Q52.fit : (Q52.D N).Fit := ⟨fun _ _ => rfl, fun _ _ => rfl, by kernel_rfl, (fun _ _ h => nomatch h), by kernel_rfl⟩
noncomputable def Q52.G : Gam := gamOf [(24, Q24.D N), (47, Q47.D N), (48, Q48.D N), (52, Q52.D N)]
def Q52.A : LA := fun k => bif Nat.beq k 0 then some ⟨[0, 1, 2, 7, 27, 28, 29], [], [], [(true, 1, 3, 10), (true, 1, 4, 11), (true, 1, 7, 12), (true, 1, 11, 13), (true, 1, 12, 14), (true, 1, 13, 15), (true, 1, 17, 16)], [], 17, false⟩ else none
noncomputable def Q52.fin : St → Option (Int × Int × TBoard) := resK tb Try.f52.results.toList (decRes (Q52.D (N + 1)) Q52.lc)
noncomputable def Q52.k0 : List Item := stackAt [.r, .r, .r, .l, .r, .b] (bodyOf Try.f52) []
def Q52.st0 (c_ : Int) (b_ : TBoard) (depth n_ t28_ t29_ c_2 : Int) (b_2 : ByteArray) (b_3 b_4 : Int) (b_5 b_6 : Bool) (b_7 b_8 b_9 b_10 b_11 b_12 : Int) (m9_ : LMv) (m10_ : (List TPiece)) (m11_ : LInt) (m12_ : (List TEnd)) (m13_ m14_ m15_ : LInt) (m16_ : (List TUndo)) : St := ⟨[.one (.ptr 0 0), .one (.ptr 1 0), oi depth] ++ rA 4 ++ [oi n_] ++ rA 19 ++ [.one (.own 9), oi t28_, oi t29_] ++ rA 22, [.var 129 [.int .i64 c_2], .var 119 [.str b_2, .int .i64 b_3, .int .i64 b_4, .own 10, .own 11, .bool b_5, .bool b_6, .own 12, .int .i64 b_7, .int .i64 b_8, .int .i64 b_9, .own 13, .own 14, .own 15, .int .i64 b_10, .int .i64 b_11, .int .u64 b_12, .own 16], .gone, .gone, .gone, .gone, .gone, .gone, .gone, .row 37 qc m9_, .row 80 qb m10_, .row 3 tI m11_, .row 82 qe m12_, .row 3 tI m13_, .row 3 tI m14_, .row 3 tI m15_, .row 149 qf m16_]⟩
theorem Q52.step0 (rec : RK (Int × Int × TBoard)) (c_ : Int) (b_ : TBoard) (depth n_ t28_ t29_ c_2 : Int) (b_2 : ByteArray) (b_3 b_4 : Int) (b_5 b_6 : Bool) (b_7 b_8 b_9 b_10 b_11 b_12 : Int) (m9_ : LMv) (m10_ : (List TPiece)) (m11_ : LInt) (m12_ : (List TEnd)) (m13_ m14_ m15_ : LInt) (m16_ : (List TUndo)) : seg tb (Q52.G N) Q52.A 9 rec (Q52.fin N) segFuel (loopBody Q52.k0) (Q52.st0 c_ b_ depth n_ t28_ t29_ c_2 b_2 b_3 b_4 b_5 b_6 b_7 b_8 b_9 b_10 b_11 b_12 m9_ m10_ m11_ m12_ m13_ m14_ m15_ m16_) = Q52.s0 N (Q52 N) c_ b_ depth (fun n_ t28_ t29_ c_2 b_2 b_3 b_4 b_5 b_6 b_7 b_8 b_9 b_10 b_11 b_12 m9_ m10_ m11_ m12_ m13_ m14_ m15_ m16_ => rec Q52.k0 (Q52.st0 c_ b_ depth n_ t28_ t29_ c_2 b_2 b_3 b_4 b_5 b_6 b_7 b_8 b_9 b_10 b_11 b_12 m9_ m10_ m11_ m12_ m13_ m14_ m15_ m16_)) n_ t28_ t29_ c_2 b_2 b_3 b_4 b_5 b_6 b_7 b_8 b_9 b_10 b_11 b_12 m9_ m10_ m11_ m12_ m13_ m14_ m15_ m16_ := by kernel_rfl
theorem Q52.entry (rec : RK (Int × Int × TBoard)) (x : (argH Q52.as).den) : seg tb (Q52.G N) Q52.A 9 rec (Q52.fin N) segFuel [.code (bodyOf Try.f52)] (initSt Try.f52 (encArgs Q52.as x) (encMem Q52.as x)) = Q52.e N (Q52 N) (fun n_ t28_ t29_ c_2 b_2 b_3 b_4 b_5 b_6 b_7 b_8 b_9 b_10 b_11 b_12 m9_ m10_ m11_ m12_ m13_ m14_ m15_ m16_ => rec Q52.k0 (Q52.st0 x.1 x.2.1 x.2.2.1 n_ t28_ t29_ c_2 b_2 b_3 b_4 b_5 b_6 b_7 b_8 b_9 b_10 b_11 b_12 m9_ m10_ m11_ m12_ m13_ m14_ m15_ m16_)) x.1 x.2.1 x.2.2.1 := by kernel_rfl
theorem Q52.runs (N : Nat) (c_ : Int) (b_ : TBoard) (depth : Int) : ∀ n, (∀ (n_ t28_ t29_ c_2 : Int) (b_2 : ByteArray) (b_3 b_4 : Int) (b_5 b_6 : Bool) (b_7 b_8 b_9 b_10 b_11 b_12 : Int) (m9_ : LMv) (m10_ : (List TPiece)) (m11_ : LInt) (m12_ : (List TEnd)) (m13_ m14_ m15_ : LInt) (m16_ : (List TUndo)), run tb (Q52.G N) Q52.A 9 (Q52.fin N) n Q52.k0 (Q52.st0 c_ b_ depth n_ t28_ t29_ c_2 b_2 b_3 b_4 b_5 b_6 b_7 b_8 b_9 b_10 b_11 b_12 m9_ m10_ m11_ m12_ m13_ m14_ m15_ m16_) = Q52.l0 N (Q52 N) c_ b_ depth n n_ t28_ t29_ c_2 b_2 b_3 b_4 b_5 b_6 b_7 b_8 b_9 b_10 b_11 b_12 m9_ m10_ m11_ m12_ m13_ m14_ m15_ m16_)
 | 0 => fun _ _ _ _ _ _ _ _ _ _ _ _ _ _ _ _ _ _ _ _ _ _ _ => rfl
 | n + 1 => by
  have h0 := Q52.runs N c_ b_ depth n
  have e0 : (fun (n_ t28_ t29_ c_2 : Int) (b_2 : ByteArray) (b_3 b_4 : Int) (b_5 b_6 : Bool) (b_7 b_8 b_9 b_10 b_11 b_12 : Int) (m9_ : LMv) (m10_ : (List TPiece)) (m11_ : LInt) (m12_ : (List TEnd)) (m13_ m14_ m15_ : LInt) (m16_ : (List TUndo)) => run tb (Q52.G N) Q52.A 9 (Q52.fin N) n Q52.k0 (Q52.st0 c_ b_ depth n_ t28_ t29_ c_2 b_2 b_3 b_4 b_5 b_6 b_7 b_8 b_9 b_10 b_11 b_12 m9_ m10_ m11_ m12_ m13_ m14_ m15_ m16_)) = Q52.l0 N (Q52 N) c_ b_ depth n := by funext n_ t28_ t29_ c_2 b_2 b_3 b_4 b_5 b_6 b_7 b_8 b_9 b_10 b_11 b_12 m9_ m10_ m11_ m12_ m13_ m14_ m15_ m16_; exact h0 n_ t28_ t29_ c_2 b_2 b_3 b_4 b_5 b_6 b_7 b_8 b_9 b_10 b_11 b_12 m9_ m10_ m11_ m12_ m13_ m14_ m15_ m16_
  have g0 : (∀ (n_ t28_ t29_ c_2 : Int) (b_2 : ByteArray) (b_3 b_4 : Int) (b_5 b_6 : Bool) (b_7 b_8 b_9 b_10 b_11 b_12 : Int) (m9_ : LMv) (m10_ : (List TPiece)) (m11_ : LInt) (m12_ : (List TEnd)) (m13_ m14_ m15_ : LInt) (m16_ : (List TUndo)), run tb (Q52.G N) Q52.A 9 (Q52.fin N) (n + 1) Q52.k0 (Q52.st0 c_ b_ depth n_ t28_ t29_ c_2 b_2 b_3 b_4 b_5 b_6 b_7 b_8 b_9 b_10 b_11 b_12 m9_ m10_ m11_ m12_ m13_ m14_ m15_ m16_) = Q52.l0 N (Q52 N) c_ b_ depth (n + 1) n_ t28_ t29_ c_2 b_2 b_3 b_4 b_5 b_6 b_7 b_8 b_9 b_10 b_11 b_12 m9_ m10_ m11_ m12_ m13_ m14_ m15_ m16_) := by
   intro n_ t28_ t29_ c_2 b_2 b_3 b_4 b_5 b_6 b_7 b_8 b_9 b_10 b_11 b_12 m9_ m10_ m11_ m12_ m13_ m14_ m15_ m16_
   exact (run_succ (by kernel_rfl)).trans ((Q52.step0 N _ c_ b_ depth n_ t28_ t29_ c_2 b_2 b_3 b_4 b_5 b_6 b_7 b_8 b_9 b_10 b_11 b_12 m9_ m10_ m11_ m12_ m13_ m14_ m15_ m16_).trans ((congrArg (fun r0 => Q52.s0 N (Q52 N) c_ b_ depth r0 n_ t28_ t29_ c_2 b_2 b_3 b_4 b_5 b_6 b_7 b_8 b_9 b_10 b_11 b_12 m9_ m10_ m11_ m12_ m13_ m14_ m15_ m16_) e0).trans (Q52.l0_s N (Q52 N) c_ b_ depth n n_ t28_ t29_ c_2 b_2 b_3 b_4 b_5 b_6 b_7 b_8 b_9 b_10 b_11 b_12 m9_ m10_ m11_ m12_ m13_ m14_ m15_ m16_).symm))
  exact g0
theorem Q52.ok1 (ih : FnOk Try.prog 52 (Q52.D N)) : FnOk Try.prog 52 (Q52.D (N + 1)) := by
 refine fo ⟨Try.f52, Try.func52, by kernel_rfl, by kernel_rfl, fun x y h => ⟨Q52.G N, Q52.A, N, gamOf_ok (by simp only [List.forall_mem_cons, List.not_mem_nil, false_implies, implies_true, and_true]; exact ⟨⟨Q24.ok N, Q24.fit N⟩, ⟨Q47.ok N, Q47.fit N⟩, ⟨Q48.ok N, Q48.fit N⟩, ⟨ih, Q52.fit N⟩⟩), ?_⟩⟩ (Q52.fit (N + 1))
 rw [absFn_n (n0 := 9) rfl (by kernel_rfl)]
 refine (Q52.entry N (run tb (Q52.G N) Q52.A 9 (Q52.fin N) N) x).trans ?_
 have e0 : (fun (n_ t28_ t29_ c_2 : Int) (b_2 : ByteArray) (b_3 b_4 : Int) (b_5 b_6 : Bool) (b_7 b_8 b_9 b_10 b_11 b_12 : Int) (m9_ : LMv) (m10_ : (List TPiece)) (m11_ : LInt) (m12_ : (List TEnd)) (m13_ m14_ m15_ : LInt) (m16_ : (List TUndo)) => run tb (Q52.G N) Q52.A 9 (Q52.fin N) N Q52.k0 (Q52.st0 x.1 x.2.1 x.2.2.1 n_ t28_ t29_ c_2 b_2 b_3 b_4 b_5 b_6 b_7 b_8 b_9 b_10 b_11 b_12 m9_ m10_ m11_ m12_ m13_ m14_ m15_ m16_)) = Q52.l0 N (Q52 N) x.1 x.2.1 x.2.2.1 N := by funext n_ t28_ t29_ c_2 b_2 b_3 b_4 b_5 b_6 b_7 b_8 b_9 b_10 b_11 b_12 m9_ m10_ m11_ m12_ m13_ m14_ m15_ m16_; exact (Q52.runs N x.1 x.2.1 x.2.2.1 N) n_ t28_ t29_ c_2 b_2 b_3 b_4 b_5 b_6 b_7 b_8 b_9 b_10 b_11 b_12 m9_ m10_ m11_ m12_ m13_ m14_ m15_ m16_
 have h' : (Q52.D (N + 1)).f x = Q52.e N (Q52 N) (Q52.l0 N (Q52 N) x.1 x.2.1 x.2.2.1 N) x.1 x.2.1 x.2.2.1 := by kernel_rfl
 exact (congrArg (fun r0 => Q52.e N (Q52 N) r0 x.1 x.2.1 x.2.2.1) e0).trans (h'.symm.trans h)
theorem Q52.ok : ∀ N, FnOk Try.prog 52 (Q52.D N)
 | 0 => FnOk_none Try.func52 (by kernel_rfl) (by kernel_rfl) (fun x => rfl)
 | N + 1 => Q52.ok1 N (Q52.ok N)
def Q25.as : List MK := [.d true qa, .d true qd, .d false tI]
def Q25.rs : List (Bool × HT) := [(false, (.d tI)), (false, (.d tI))]
def Q25.lc : List AC := []
def Q25.D : DFn := ⟨Q25.as, Q25.rs, (Int × Int), fun x => Q25 N x.1 x.2.1 x.2.2.1, fun r o => (r.1, r.2.1), fun b => (b.1, (b.2, ())), fun b => (), none⟩
theorem Q25.fit : (Q25.D N).Fit := ⟨fun _ _ => rfl, fun _ _ => rfl, by kernel_rfl, (fun _ _ h => nomatch h), by kernel_rfl⟩
noncomputable def Q25.G : Gam := gamOf [(51, Q51.D N), (52, Q52.D N)]
def Q25.A : LA := fun _ => none
noncomputable def Q25.fin : St → Option (Int × Int) := resK tb Try.f25.results.toList (decRes (Q25.D N) Q25.lc)
theorem Q25.entry (rec : RK (Int × Int)) (x : (argH Q25.as).den) : seg tb (Q25.G N) Q25.A 0 rec (Q25.fin N) segFuel [.code (bodyOf Try.f25)] (initSt Try.f25 (encArgs Q25.as x) (encMem Q25.as x)) = Q25.e N x.1 x.2.1 x.2.2.1 := by kernel_rfl
theorem Q25.ok : FnOk Try.prog 25 (Q25.D N) := by
 refine fo ⟨Try.f25, Try.func25, by kernel_rfl, by kernel_rfl, fun x y h => ⟨Q25.G N, Q25.A, N, gamOf_ok (gc ⟨Q51.ok N, Q51.fit N⟩ (gc ⟨Q52.ok N, Q52.fit N⟩ gn)), ?_⟩⟩ (Q25.fit N)
 rw [absFn_n (n0 := 0) rfl (by kernel_rfl)]
 exact (Q25.entry N _ x).trans h
def Q29.as : List MK := [.d true qa, .d true qd, .d false tI]
def Q29.rs : List (Bool × HT) := [(false, (.d tI))]
def Q29.lc : List AC := []
def Q29.D : DFn := ⟨Q29.as, Q29.rs, Int, fun x => Q29 N x.1 x.2.1 x.2.2.1, fun r o => r.1, fun b => (b, ()), fun b => (), none⟩
theorem Q29.fit : (Q29.D N).Fit := ⟨fun _ _ => rfl, fun _ _ => rfl, by kernel_rfl, (fun _ _ h => nomatch h), by kernel_rfl⟩
noncomputable def Q29.G : Gam := gamOf [(25, Q25.D N)]
def Q29.A : LA := fun _ => none
noncomputable def Q29.fin : St → Option Int := resK tb Try.f29.results.toList (decRes (Q29.D N) Q29.lc)
theorem Q29.entry (rec : RK Int) (x : (argH Q29.as).den) : seg tb (Q29.G N) Q29.A 0 rec (Q29.fin N) segFuel [.code (bodyOf Try.f29)] (initSt Try.f29 (encArgs Q29.as x) (encMem Q29.as x)) = Q29.e N x.1 x.2.1 x.2.2.1 := by kernel_rfl
theorem Q29.ok : FnOk Try.prog 29 (Q29.D N) := by
 refine fo ⟨Try.f29, Try.func29, by kernel_rfl, by kernel_rfl, fun x y h => ⟨Q29.G N, Q29.A, N, gamOf_ok (gc ⟨Q25.ok N, Q25.fit N⟩ gn), ?_⟩⟩ (Q29.fit N)
 rw [absFn_n (n0 := 0) rfl (by kernel_rfl)]
 exact (Q29.entry N _ x).trans h
def Q57.as : List MK := [.d false tI, .d false tI]
def Q57.rs : List (Bool × HT) := [(false, (.d tI))]
def Q57.lc : List AC := []
def Q57.D : DFn := ⟨Q57.as, Q57.rs, Int, fun x => Q57 N x.1 x.2.1, fun r o => r.1, fun b => (b, ()), fun b => (), none⟩
theorem Q57.fit : (Q57.D N).Fit := ⟨fun _ _ => rfl, fun _ _ => rfl, by kernel_rfl, (fun _ _ h => nomatch h), by kernel_rfl⟩
noncomputable def Q57.G : Gam := gamOf [(61, Q61.D N)]
def Q57.A : LA := fun _ => none
noncomputable def Q57.fin : St → Option Int := resK tb Try.f57.results.toList (decRes (Q57.D N) Q57.lc)
theorem Q57.entry (rec : RK Int) (x : (argH Q57.as).den) : seg tb (Q57.G N) Q57.A 0 rec (Q57.fin N) segFuel [.code (bodyOf Try.f57)] (initSt Try.f57 (encArgs Q57.as x) (encMem Q57.as x)) = Q57.e N x.1 x.2.1 := by kernel_rfl
theorem Q57.ok : FnOk Try.prog 57 (Q57.D N) := by
 refine fo ⟨Try.f57, Try.func57, by kernel_rfl, by kernel_rfl, fun x y h => ⟨Q57.G N, Q57.A, N, gamOf_ok (gc ⟨Q61.ok N, Q61.fit N⟩ gn), ?_⟩⟩ (Q57.fit N)
 rw [absFn_n (n0 := 0) rfl (by kernel_rfl)]
 exact (Q57.entry N _ x).trans h
def Q58.as : List MK := [.d false tI]
def Q58.rs : List (Bool × HT) := [(false, (.d tI))]
def Q58.lc : List AC := []
def Q58.D : DFn := ⟨Q58.as, Q58.rs, Int, fun x => Q58 N x.1, fun r o => r.1, fun b => (b, ()), fun b => (), none⟩
theorem Q58.fit : (Q58.D N).Fit := ⟨fun _ _ => rfl, fun _ _ => rfl, by kernel_rfl, (fun _ _ h => nomatch h), by kernel_rfl⟩
noncomputable def Q58.G (N : Nat) : Gam := gamOf []
def Q58.A : LA := fun _ => none
noncomputable def Q58.fin : St → Option Int := resK tb Try.f58.results.toList (decRes (Q58.D N) Q58.lc)
theorem Q58.entry (rec : RK Int) (x : (argH Q58.as).den) : seg tb (Q58.G N) Q58.A 0 rec (Q58.fin N) segFuel [.code (bodyOf Try.f58)] (initSt Try.f58 (encArgs Q58.as x) (encMem Q58.as x)) = Q58.e N x.1 := by kernel_rfl
theorem Q58.ok : FnOk Try.prog 58 (Q58.D N) := by
 refine fo ⟨Try.f58, Try.func58, by kernel_rfl, by kernel_rfl, fun x y h => ⟨Q58.G N, Q58.A, N, gamOf_ok (fun p hp => nomatch hp), ?_⟩⟩ (Q58.fit N)
 rw [absFn_n (n0 := 0) rfl (by kernel_rfl)]
 exact (Q58.entry N _ x).trans h
def Q30.as : List MK := [.o (.ptr 119 (.prod (.prod (.d .str) (.prod (.d tI) (.prod (.d tI) (.prod (.own 80 qb) (.prod (.own 3 tI) (.prod (.d .bool) (.prod (.d .bool) (.prod (.own 82 qe) (.d qc))))))))) (.prod (.prod (.own 3 tI) (.prod (.prod (.own 3 tI) (.own 3 tI)) (.d (.prod tI tI)))) (.prod (.d (.int .u64)) (.own 149 qf))))) true, .d false tI]
def Q30.rs : List (Bool × HT) := [(false, (.d tI))]
def Q30.lc : List AC := [.ptr 0 0]
def Q30.D : DFn := ⟨Q30.as, Q30.rs, (Int × TBoard), fun x => Q30 N x.1 x.2.1, fun r o => (r.1, o.1), fun b => (b.1, ()), fun b => (b.2, ()), none⟩
theorem Q30.fit : (Q30.D N).Fit := ⟨fun _ _ => rfl, fun _ _ => rfl, by kernel_rfl, (fun _ _ h => nomatch h), by kernel_rfl⟩
noncomputable def Q30.G : Gam := gamOf [(22, Q22.D N), (39, Q39.D N), (57, Q57.D N), (24, Q24.D N), (47, Q47.D N), (58, Q58.D N), (48, Q48.D N), (30, Q30.D N)]
def Q30.A : LA := fun k => bif Nat.beq k 0 then some ⟨[0, 1, 6, 20, 21, 22], [], [], [(true, 0, 3, 9), (true, 0, 4, 10), (true, 0, 7, 11), (true, 0, 11, 12), (true, 0, 12, 13), (true, 0, 13, 14), (true, 0, 17, 15)], [], 16, false⟩ else none
noncomputable def Q30.fin : St → Option (Int × TBoard) := resK tb Try.f30.results.toList (decRes (Q30.D (N + 1)) Q30.lc)
noncomputable def Q30.k0 : List Item := stackAt [.r, .r, .r, .r, .l, .r, .b] (bodyOf Try.f30) []
def Q30.st0 (b_ : TBoard) (depth best t21_ t22_ : Int) (b_2 : ByteArray) (b_3 b_4 : Int) (b_5 b_6 : Bool) (b_7 b_8 b_9 b_10 b_11 b_12 : Int) (m8_ : LMv) (m9_ : (List TPiece)) (m10_ : LInt) (m11_ : (List TEnd)) (m12_ m13_ m14_ : LInt) (m15_ : (List TUndo)) : St := ⟨[.one (.ptr 0 0), oi depth] ++ rA 4 ++ [oi best] ++ rA 13 ++ [.one (.own 8), oi t21_, oi t22_] ++ rA 18, [.var 119 [.str b_2, .int .i64 b_3, .int .i64 b_4, .own 9, .own 10, .bool b_5, .bool b_6, .own 11, .int .i64 b_7, .int .i64 b_8, .int .i64 b_9, .own 12, .own 13, .own 14, .int .i64 b_10, .int .i64 b_11, .int .u64 b_12, .own 15], .gone, .gone, .gone, .gone, .gone, .gone, .gone, .row 37 qc m8_, .row 80 qb m9_, .row 3 tI m10_, .row 82 qe m11_, .row 3 tI m12_, .row 3 tI m13_, .row 3 tI m14_, .row 149 qf m15_]⟩
theorem Q30.step0 (rec : RK (Int × TBoard)) (b_ : TBoard) (depth best t21_ t22_ : Int) (b_2 : ByteArray) (b_3 b_4 : Int) (b_5 b_6 : Bool) (b_7 b_8 b_9 b_10 b_11 b_12 : Int) (m8_ : LMv) (m9_ : (List TPiece)) (m10_ : LInt) (m11_ : (List TEnd)) (m12_ m13_ m14_ : LInt) (m15_ : (List TUndo)) : seg tb (Q30.G N) Q30.A 8 rec (Q30.fin N) segFuel (loopBody Q30.k0) (Q30.st0 b_ depth best t21_ t22_ b_2 b_3 b_4 b_5 b_6 b_7 b_8 b_9 b_10 b_11 b_12 m8_ m9_ m10_ m11_ m12_ m13_ m14_ m15_) = Q30.s0 N (Q30 N) b_ depth (fun best t21_ t22_ b_2 b_3 b_4 b_5 b_6 b_7 b_8 b_9 b_10 b_11 b_12 m8_ m9_ m10_ m11_ m12_ m13_ m14_ m15_ => rec Q30.k0 (Q30.st0 b_ depth best t21_ t22_ b_2 b_3 b_4 b_5 b_6 b_7 b_8 b_9 b_10 b_11 b_12 m8_ m9_ m10_ m11_ m12_ m13_ m14_ m15_)) best t21_ t22_ b_2 b_3 b_4 b_5 b_6 b_7 b_8 b_9 b_10 b_11 b_12 m8_ m9_ m10_ m11_ m12_ m13_ m14_ m15_ := by kernel_rfl
theorem Q30.entry (rec : RK (Int × TBoard)) (x : (argH Q30.as).den) : seg tb (Q30.G N) Q30.A 8 rec (Q30.fin N) segFuel [.code (bodyOf Try.f30)] (initSt Try.f30 (encArgs Q30.as x) (encMem Q30.as x)) = Q30.e N (Q30 N) (fun best t21_ t22_ b_2 b_3 b_4 b_5 b_6 b_7 b_8 b_9 b_10 b_11 b_12 m8_ m9_ m10_ m11_ m12_ m13_ m14_ m15_ => rec Q30.k0 (Q30.st0 x.1 x.2.1 best t21_ t22_ b_2 b_3 b_4 b_5 b_6 b_7 b_8 b_9 b_10 b_11 b_12 m8_ m9_ m10_ m11_ m12_ m13_ m14_ m15_)) x.1 x.2.1 := by kernel_rfl
theorem Q30.runs (N : Nat) (b_ : TBoard) (depth : Int) : ∀ n, (∀ (best t21_ t22_ : Int) (b_2 : ByteArray) (b_3 b_4 : Int) (b_5 b_6 : Bool) (b_7 b_8 b_9 b_10 b_11 b_12 : Int) (m8_ : LMv) (m9_ : (List TPiece)) (m10_ : LInt) (m11_ : (List TEnd)) (m12_ m13_ m14_ : LInt) (m15_ : (List TUndo)), run tb (Q30.G N) Q30.A 8 (Q30.fin N) n Q30.k0 (Q30.st0 b_ depth best t21_ t22_ b_2 b_3 b_4 b_5 b_6 b_7 b_8 b_9 b_10 b_11 b_12 m8_ m9_ m10_ m11_ m12_ m13_ m14_ m15_) = Q30.l0 N (Q30 N) b_ depth n best t21_ t22_ b_2 b_3 b_4 b_5 b_6 b_7 b_8 b_9 b_10 b_11 b_12 m8_ m9_ m10_ m11_ m12_ m13_ m14_ m15_)
 | 0 => fun _ _ _ _ _ _ _ _ _ _ _ _ _ _ _ _ _ _ _ _ _ _ => rfl
 | n + 1 => by
  have h0 := Q30.runs N b_ depth n
  have e0 : (fun (best t21_ t22_ : Int) (b_2 : ByteArray) (b_3 b_4 : Int) (b_5 b_6 : Bool) (b_7 b_8 b_9 b_10 b_11 b_12 : Int) (m8_ : LMv) (m9_ : (List TPiece)) (m10_ : LInt) (m11_ : (List TEnd)) (m12_ m13_ m14_ : LInt) (m15_ : (List TUndo)) => run tb (Q30.G N) Q30.A 8 (Q30.fin N) n Q30.k0 (Q30.st0 b_ depth best t21_ t22_ b_2 b_3 b_4 b_5 b_6 b_7 b_8 b_9 b_10 b_11 b_12 m8_ m9_ m10_ m11_ m12_ m13_ m14_ m15_)) = Q30.l0 N (Q30 N) b_ depth n := by funext best t21_ t22_ b_2 b_3 b_4 b_5 b_6 b_7 b_8 b_9 b_10 b_11 b_12 m8_ m9_ m10_ m11_ m12_ m13_ m14_ m15_; exact h0 best t21_ t22_ b_2 b_3 b_4 b_5 b_6 b_7 b_8 b_9 b_10 b_11 b_12 m8_ m9_ m10_ m11_ m12_ m13_ m14_ m15_
  have g0 : (∀ (best t21_ t22_ : Int) (b_2 : ByteArray) (b_3 b_4 : Int) (b_5 b_6 : Bool) (b_7 b_8 b_9 b_10 b_11 b_12 : Int) (m8_ : LMv) (m9_ : (List TPiece)) (m10_ : LInt) (m11_ : (List TEnd)) (m12_ m13_ m14_ : LInt) (m15_ : (List TUndo)), run tb (Q30.G N) Q30.A 8 (Q30.fin N) (n + 1) Q30.k0 (Q30.st0 b_ depth best t21_ t22_ b_2 b_3 b_4 b_5 b_6 b_7 b_8 b_9 b_10 b_11 b_12 m8_ m9_ m10_ m11_ m12_ m13_ m14_ m15_) = Q30.l0 N (Q30 N) b_ depth (n + 1) best t21_ t22_ b_2 b_3 b_4 b_5 b_6 b_7 b_8 b_9 b_10 b_11 b_12 m8_ m9_ m10_ m11_ m12_ m13_ m14_ m15_) := by
   intro best t21_ t22_ b_2 b_3 b_4 b_5 b_6 b_7 b_8 b_9 b_10 b_11 b_12 m8_ m9_ m10_ m11_ m12_ m13_ m14_ m15_
   exact (run_succ (by kernel_rfl)).trans ((Q30.step0 N _ b_ depth best t21_ t22_ b_2 b_3 b_4 b_5 b_6 b_7 b_8 b_9 b_10 b_11 b_12 m8_ m9_ m10_ m11_ m12_ m13_ m14_ m15_).trans ((congrArg (fun r0 => Q30.s0 N (Q30 N) b_ depth r0 best t21_ t22_ b_2 b_3 b_4 b_5 b_6 b_7 b_8 b_9 b_10 b_11 b_12 m8_ m9_ m10_ m11_ m12_ m13_ m14_ m15_) e0).trans (Q30.l0_s N (Q30 N) b_ depth n best t21_ t22_ b_2 b_3 b_4 b_5 b_6 b_7 b_8 b_9 b_10 b_11 b_12 m8_ m9_ m10_ m11_ m12_ m13_ m14_ m15_).symm))
  exact g0
theorem Q30.ok1 (ih : FnOk Try.prog 30 (Q30.D N)) : FnOk Try.prog 30 (Q30.D (N + 1)) := by
 refine fo ⟨Try.f30, Try.func30, by kernel_rfl, by kernel_rfl, fun x y h => ⟨Q30.G N, Q30.A, N, gamOf_ok (by simp only [List.forall_mem_cons, List.not_mem_nil, false_implies, implies_true, and_true]; exact ⟨⟨Q22.ok N, Q22.fit N⟩, ⟨Q39.ok N, Q39.fit N⟩, ⟨Q57.ok N, Q57.fit N⟩, ⟨Q24.ok N, Q24.fit N⟩, ⟨Q47.ok N, Q47.fit N⟩, ⟨Q58.ok N, Q58.fit N⟩, ⟨Q48.ok N, Q48.fit N⟩, ⟨ih, Q30.fit N⟩⟩), ?_⟩⟩ (Q30.fit (N + 1))
 rw [absFn_n (n0 := 8) rfl (by kernel_rfl)]
 refine (Q30.entry N (run tb (Q30.G N) Q30.A 8 (Q30.fin N) N) x).trans ?_
 have e0 : (fun (best t21_ t22_ : Int) (b_2 : ByteArray) (b_3 b_4 : Int) (b_5 b_6 : Bool) (b_7 b_8 b_9 b_10 b_11 b_12 : Int) (m8_ : LMv) (m9_ : (List TPiece)) (m10_ : LInt) (m11_ : (List TEnd)) (m12_ m13_ m14_ : LInt) (m15_ : (List TUndo)) => run tb (Q30.G N) Q30.A 8 (Q30.fin N) N Q30.k0 (Q30.st0 x.1 x.2.1 best t21_ t22_ b_2 b_3 b_4 b_5 b_6 b_7 b_8 b_9 b_10 b_11 b_12 m8_ m9_ m10_ m11_ m12_ m13_ m14_ m15_)) = Q30.l0 N (Q30 N) x.1 x.2.1 N := by funext best t21_ t22_ b_2 b_3 b_4 b_5 b_6 b_7 b_8 b_9 b_10 b_11 b_12 m8_ m9_ m10_ m11_ m12_ m13_ m14_ m15_; exact (Q30.runs N x.1 x.2.1 N) best t21_ t22_ b_2 b_3 b_4 b_5 b_6 b_7 b_8 b_9 b_10 b_11 b_12 m8_ m9_ m10_ m11_ m12_ m13_ m14_ m15_
 have h' : (Q30.D (N + 1)).f x = Q30.e N (Q30 N) (Q30.l0 N (Q30 N) x.1 x.2.1 N) x.1 x.2.1 := by kernel_rfl
 exact (congrArg (fun r0 => Q30.e N (Q30 N) r0 x.1 x.2.1) e0).trans (h'.symm.trans h)
theorem Q30.ok : ∀ N, FnOk Try.prog 30 (Q30.D N)
 | 0 => FnOk_none Try.func30 (by kernel_rfl) (by kernel_rfl) (fun x => rfl)
 | N + 1 => Q30.ok1 N (Q30.ok N)
def Q13.as : List MK := [.d true qa, .d true qd, .d false tI]
def Q13.rs : List (Bool × HT) := [(false, (.d tI)), (false, (.d tI))]
def Q13.lc : List AC := []
def Q13.D : DFn := ⟨Q13.as, Q13.rs, (Int × Int), fun x => Q13 N x.1 x.2.1 x.2.2.1, fun r o => (r.1, r.2.1), fun b => (b.1, (b.2, ())), fun b => (), none⟩
theorem Q13.fit : (Q13.D N).Fit := ⟨fun _ _ => rfl, fun _ _ => rfl, by kernel_rfl, (fun _ _ h => nomatch h), by kernel_rfl⟩
noncomputable def Q13.G : Gam := gamOf [(29, Q29.D N), (20, Q20.D N), (30, Q30.D N)]
def Q13.A : LA := fun _ => none
noncomputable def Q13.fin : St → Option (Int × Int) := resK tb Try.f13.results.toList (decRes (Q13.D N) Q13.lc)
theorem Q13.entry (rec : RK (Int × Int)) (x : (argH Q13.as).den) : seg tb (Q13.G N) Q13.A 0 rec (Q13.fin N) segFuel [.code (bodyOf Try.f13)] (initSt Try.f13 (encArgs Q13.as x) (encMem Q13.as x)) = Q13.e N x.1 x.2.1 x.2.2.1 := by kernel_rfl
theorem Q13.ok : FnOk Try.prog 13 (Q13.D N) := by
 refine fo ⟨Try.f13, Try.func13, by kernel_rfl, by kernel_rfl, fun x y h => ⟨Q13.G N, Q13.A, N, gamOf_ok (gc ⟨Q29.ok N, Q29.fit N⟩ (gc ⟨Q20.ok N, Q20.fit N⟩ (gc ⟨Q30.ok N, Q30.fit N⟩ gn))), ?_⟩⟩ (Q13.fit N)
 rw [absFn_n (n0 := 0) rfl (by kernel_rfl)]
 exact (Q13.entry N _ x).trans h
def Q32.as : List MK := [.d false tI]
def Q32.rs : List (Bool × HT) := [(false, (.d .bool))]
def Q32.lc : List AC := []
def Q32.D : DFn := ⟨Q32.as, Q32.rs, Bool, fun x => Q32 N x.1, fun r o => r.1, fun b => (b, ()), fun b => (), none⟩
theorem Q32.fit : (Q32.D N).Fit := ⟨fun _ _ => rfl, fun _ _ => rfl, by kernel_rfl, (fun _ _ h => nomatch h), by kernel_rfl⟩
noncomputable def Q32.G (N : Nat) : Gam := gamOf []
def Q32.A : LA := fun _ => none
noncomputable def Q32.fin : St → Option Bool := resK tb Try.f32.results.toList (decRes (Q32.D N) Q32.lc)
theorem Q32.entry (rec : RK Bool) (x : (argH Q32.as).den) : seg tb (Q32.G N) Q32.A 0 rec (Q32.fin N) segFuel [.code (bodyOf Try.f32)] (initSt Try.f32 (encArgs Q32.as x) (encMem Q32.as x)) = Q32.e N x.1 := by kernel_rfl
theorem Q32.ok : FnOk Try.prog 32 (Q32.D N) := by
 refine fo ⟨Try.f32, Try.func32, by kernel_rfl, by kernel_rfl, fun x y h => ⟨Q32.G N, Q32.A, N, gamOf_ok (fun p hp => nomatch hp), ?_⟩⟩ (Q32.fit N)
 rw [absFn_n (n0 := 0) rfl (by kernel_rfl)]
 exact (Q32.entry N _ x).trans h
def Q59.as : List MK := [.d false (.slice 31 tI), .f 32]
def Q59.rs : List (Bool × HT) := [(false, (.d tI))]
def Q59.lc : List AC := []
def Q59.D : DFn := ⟨Q59.as, Q59.rs, Int, fun x => Q59 N x.1, fun r o => r.1, fun b => (b, ()), fun b => (), none⟩
theorem Q59.fit : (Q59.D N).Fit := ⟨fun _ _ => rfl, fun _ _ => rfl, by kernel_rfl, (fun _ _ h => nomatch h), by kernel_rfl⟩
noncomputable def Q59.G : Gam := gamOf [(32, Q32.D N)]
def Q59.A : LA := fun k => bif Nat.beq k 0 then some ⟨[0, 1, 7, 8], [], [], [], [], 0, false⟩ else none
noncomputable def Q59.fin : St → Option Int := resK tb Try.f59.results.toList (decRes (Q59.D N) Q59.lc)
noncomputable def Q59.k0 : List Item := stackAt [.r, .l, .r, .b] (bodyOf Try.f59) []
def Q59.st0 (s_ : LInt) (t8_ : Int) : St := ⟨[.one (.fro 31 tI s_), .one (.fn 32)] ++ rA 5 ++ [oi (s_.length : Int), oi t8_] ++ rA 10, []⟩
theorem Q59.step0 (rec : RK Int) (s_ : LInt) (t8_ : Int) : seg tb (Q59.G N) Q59.A 0 rec (Q59.fin N) segFuel (loopBody Q59.k0) (Q59.st0 s_ t8_) = Q59.s0 N s_ (fun t8_ => rec Q59.k0 (Q59.st0 s_ t8_)) t8_ := by kernel_rfl
theorem Q59.entry (rec : RK Int) (x : (argH Q59.as).den) : seg tb (Q59.G N) Q59.A 0 rec (Q59.fin N) segFuel [.code (bodyOf Try.f59)] (initSt Try.f59 (encArgs Q59.as x) (encMem Q59.as x)) = Q59.e N (fun t8_ => rec Q59.k0 (Q59.st0 x.1 t8_)) x.1 := by kernel_rfl
theorem Q59.runs (N : Nat) (s_ : LInt) : ∀ n, (∀ (t8_ : Int), run tb (Q59.G N) Q59.A 0 (Q59.fin N) n Q59.k0 (Q59.st0 s_ t8_) = Q59.l0 N s_ n t8_)
 | 0 => fun _ => rfl
 | n + 1 => by
  have h0 := Q59.runs N s_ n
  have e0 : (fun (t8_ : Int) => run tb (Q59.G N) Q59.A 0 (Q59.fin N) n Q59.k0 (Q59.st0 s_ t8_)) = Q59.l0 N s_ n := by funext t8_; exact h0 t8_
  have g0 : (∀ (t8_ : Int), run tb (Q59.G N) Q59.A 0 (Q59.fin N) (n + 1) Q59.k0 (Q59.st0 s_ t8_) = Q59.l0 N s_ (n + 1) t8_) := by
   intro t8_
   exact (run_succ (by kernel_rfl)).trans ((Q59.step0 N _ s_ t8_).trans ((congrArg (fun r0 => Q59.s0 N s_ r0 t8_) e0).trans (Q59.l0_s N s_ n t8_).symm))
  exact g0
theorem Q59.ok : FnOk Try.prog 59 (Q59.D N) := by
 refine fo ⟨Try.f59, Try.func59, by kernel_rfl, by kernel_rfl, fun x y h => ⟨Q59.G N, Q59.A, N, gamOf_ok (gc ⟨Q32.ok N, Q32.fit N⟩ gn), ?_⟩⟩ (Q59.fit N)
 rw [absFn_n (n0 := 0) rfl (by kernel_rfl)]
 refine (Q59.entry N (run tb (Q59.G N) Q59.A 0 (Q59.fin N) N) x).trans ?_
 have e0 : (fun (t8_ : Int) => run tb (Q59.G N) Q59.A 0 (Q59.fin N) N Q59.k0 (Q59.st0 x.1 t8_)) = Q59.l0 N x.1 N := by funext t8_; exact (Q59.runs N x.1 N) t8_
 have h' : (Q59.D N).f x = Q59.e N (Q59.l0 N x.1 N) x.1 := by kernel_rfl
 exact (congrArg (fun r0 => Q59.e N r0 x.1) e0).trans (h'.symm.trans h)
def Q31.as : List MK := [.d false (.slice 31 tI), .f 32]
def Q31.rs : List (Bool × HT) := [(false, (.d .bool))]
def Q31.lc : List AC := []
def Q31.D : DFn := ⟨Q31.as, Q31.rs, Bool, fun x => Q31 N x.1, fun r o => r.1, fun b => (b, ()), fun b => (), none⟩
theorem Q31.fit : (Q31.D N).Fit := ⟨fun _ _ => rfl, fun _ _ => rfl, by kernel_rfl, (fun _ _ h => nomatch h), by kernel_rfl⟩
noncomputable def Q31.G : Gam := gamOf [(59, Q59.D N)]
def Q31.A : LA := fun _ => none
noncomputable def Q31.fin : St → Option Bool := resK tb Try.f31.results.toList (decRes (Q31.D N) Q31.lc)
theorem Q31.entry (rec : RK Bool) (x : (argH Q31.as).den) : seg tb (Q31.G N) Q31.A 0 rec (Q31.fin N) segFuel [.code (bodyOf Try.f31)] (initSt Try.f31 (encArgs Q31.as x) (encMem Q31.as x)) = Q31.e N x.1 := by kernel_rfl
theorem Q31.ok : FnOk Try.prog 31 (Q31.D N) := by
 refine fo ⟨Try.f31, Try.func31, by kernel_rfl, by kernel_rfl, fun x y h => ⟨Q31.G N, Q31.A, N, gamOf_ok (gc ⟨Q59.ok N, Q59.fit N⟩ gn), ?_⟩⟩ (Q31.fit N)
 rw [absFn_n (n0 := 0) rfl (by kernel_rfl)]
 exact (Q31.entry N _ x).trans h
def Q14.as : List MK := [.d false (.slice 31 tI)]
def Q14.rs : List (Bool × HT) := [(false, (.d .bool))]
def Q14.lc : List AC := []
def Q14.D : DFn := ⟨Q14.as, Q14.rs, Bool, fun x => Q14 N x.1, fun r o => r.1, fun b => (b, ()), fun b => (), none⟩
theorem Q14.fit : (Q14.D N).Fit := ⟨fun _ _ => rfl, fun _ _ => rfl, by kernel_rfl, (fun _ _ h => nomatch h), by kernel_rfl⟩
noncomputable def Q14.G : Gam := gamOf [(31, Q31.D N)]
def Q14.A : LA := fun _ => none
noncomputable def Q14.fin : St → Option Bool := resK tb Try.f14.results.toList (decRes (Q14.D N) Q14.lc)
theorem Q14.entry (rec : RK Bool) (x : (argH Q14.as).den) : seg tb (Q14.G N) Q14.A 0 rec (Q14.fin N) segFuel [.code (bodyOf Try.f14)] (initSt Try.f14 (encArgs Q14.as x) (encMem Q14.as x)) = Q14.e N x.1 := by kernel_rfl
theorem Q14.ok : FnOk Try.prog 14 (Q14.D N) := by
 refine fo ⟨Try.f14, Try.func14, by kernel_rfl, by kernel_rfl, fun x y h => ⟨Q14.G N, Q14.A, N, gamOf_ok (gc ⟨Q31.ok N, Q31.fit N⟩ gn), ?_⟩⟩ (Q14.fit N)
 rw [absFn_n (n0 := 0) rfl (by kernel_rfl)]
 exact (Q14.entry N _ x).trans h
def Q53.as : List MK := [.d false (.slice 3 tI), .d false (.slice 3 tI)]
def Q53.rs : List (Bool × HT) := [(false, (.d .bool))]
def Q53.lc : List AC := []
def Q53.D : DFn := ⟨Q53.as, Q53.rs, Bool, fun x => Q53 N x.1 x.2.1, fun r o => r.1, fun b => (b, ()), fun b => (), none⟩
theorem Q53.fit : (Q53.D N).Fit := ⟨fun _ _ => rfl, fun _ _ => rfl, by kernel_rfl, (fun _ _ h => nomatch h), by kernel_rfl⟩
noncomputable def Q53.G (N : Nat) : Gam := gamOf []
def Q53.A : LA := fun k => bif Nat.beq k 0 then some ⟨[0, 1, 12, 13], [], [], [], [], 0, false⟩ else none
noncomputable def Q53.fin : St → Option Bool := resK tb Try.f53.results.toList (decRes (Q53.D N) Q53.lc)
noncomputable def Q53.k0 : List Item := stackAt [.r, .r, .l, .r, .b] (bodyOf Try.f53) []
def Q53.st0 (s1_ s2_ : LInt) (t13_ : Int) : St := ⟨[.one (.fro 3 tI s1_), .one (.fro 3 tI s2_)] ++ rA 10 ++ [oi (s1_.length : Int), oi t13_] ++ rA 12, []⟩
theorem Q53.step0 (rec : RK Bool) (s1_ s2_ : LInt) (t13_ : Int) : seg tb (Q53.G N) Q53.A 0 rec (Q53.fin N) segFuel (loopBody Q53.k0) (Q53.st0 s1_ s2_ t13_) = Q53.s0 N s1_ s2_ (fun t13_ => rec Q53.k0 (Q53.st0 s1_ s2_ t13_)) t13_ := by kernel_rfl
theorem Q53.entry (rec : RK Bool) (x : (argH Q53.as).den) : seg tb (Q53.G N) Q53.A 0 rec (Q53.fin N) segFuel [.code (bodyOf Try.f53)] (initSt Try.f53 (encArgs Q53.as x) (encMem Q53.as x)) = Q53.e N (fun t13_ => rec Q53.k0 (Q53.st0 x.1 x.2.1 t13_)) x.1 x.2.1 := by kernel_rfl
theorem Q53.runs (N : Nat) (s1_ s2_ : LInt) : ∀ n, (∀ (t13_ : Int), run tb (Q53.G N) Q53.A 0 (Q53.fin N) n Q53.k0 (Q53.st0 s1_ s2_ t13_) = Q53.l0 N s1_ s2_ n t13_)
 | 0 => fun _ => rfl
 | n + 1 => by
  have h0 := Q53.runs N s1_ s2_ n
  have e0 : (fun (t13_ : Int) => run tb (Q53.G N) Q53.A 0 (Q53.fin N) n Q53.k0 (Q53.st0 s1_ s2_ t13_)) = Q53.l0 N s1_ s2_ n := by funext t13_; exact h0 t13_
  have g0 : (∀ (t13_ : Int), run tb (Q53.G N) Q53.A 0 (Q53.fin N) (n + 1) Q53.k0 (Q53.st0 s1_ s2_ t13_) = Q53.l0 N s1_ s2_ (n + 1) t13_) := by
   intro t13_
   exact (run_succ (by kernel_rfl)).trans ((Q53.step0 N _ s1_ s2_ t13_).trans ((congrArg (fun r0 => Q53.s0 N s1_ s2_ r0 t13_) e0).trans (Q53.l0_s N s1_ s2_ n t13_).symm))
  exact g0
theorem Q53.ok : FnOk Try.prog 53 (Q53.D N) := by
 refine fo ⟨Try.f53, Try.func53, by kernel_rfl, by kernel_rfl, fun x y h => ⟨Q53.G N, Q53.A, N, gamOf_ok (fun p hp => nomatch hp), ?_⟩⟩ (Q53.fit N)
 rw [absFn_n (n0 := 0) rfl (by kernel_rfl)]
 refine (Q53.entry N (run tb (Q53.G N) Q53.A 0 (Q53.fin N) N) x).trans ?_
 have e0 : (fun (t13_ : Int) => run tb (Q53.G N) Q53.A 0 (Q53.fin N) N Q53.k0 (Q53.st0 x.1 x.2.1 t13_)) = Q53.l0 N x.1 x.2.1 N := by funext t13_; exact (Q53.runs N x.1 x.2.1 N) t13_
 have h' : (Q53.D N).f x = Q53.e N (Q53.l0 N x.1 x.2.1 N) x.1 x.2.1 := by kernel_rfl
 exact (congrArg (fun r0 => Q53.e N r0 x.1 x.2.1) e0).trans (h'.symm.trans h)
def Q26.as : List MK := [.d true qd, .d true qd]
def Q26.rs : List (Bool × HT) := [(false, (.d .bool))]
def Q26.lc : List AC := []
def Q26.D : DFn := ⟨Q26.as, Q26.rs, Bool, fun x => Q26 N x.1 x.2.1, fun r o => r.1, fun b => (b, ()), fun b => (), none⟩
theorem Q26.fit : (Q26.D N).Fit := ⟨fun _ _ => rfl, fun _ _ => rfl, by kernel_rfl, (fun _ _ h => nomatch h), by kernel_rfl⟩
noncomputable def Q26.G : Gam := gamOf [(53, Q53.D N)]
def Q26.A : LA := fun _ => none
noncomputable def Q26.fin : St → Option Bool := resK tb Try.f26.results.toList (decRes (Q26.D N) Q26.lc)
theorem Q26.entry (rec : RK Bool) (x : (argH Q26.as).den) : seg tb (Q26.G N) Q26.A 0 rec (Q26.fin N) segFuel [.code (bodyOf Try.f26)] (initSt Try.f26 (encArgs Q26.as x) (encMem Q26.as x)) = Q26.e N x.1 x.2.1 := by kernel_rfl
theorem Q26.ok : FnOk Try.prog 26 (Q26.D N) := by
 refine fo ⟨Try.f26, Try.func26, by kernel_rfl, by kernel_rfl, fun x y h => ⟨Q26.G N, Q26.A, N, gamOf_ok (gc ⟨Q53.ok N, Q53.fit N⟩ gn), ?_⟩⟩ (Q26.fit N)
 rw [absFn_n (n0 := 0) rfl (by kernel_rfl)]
 exact (Q26.entry N _ x).trans h
def Q9.as : List MK := []
def Q9.rs : List (Bool × HT) := [(false, (.d .bool))]
def Q9.lc : List AC := []
def Q9.D : DFn := ⟨Q9.as, Q9.rs, Bool, fun x => Q9 N, fun r o => r.1, fun b => (b, ()), fun b => (), none⟩
theorem Q9.fit : (Q9.D N).Fit := ⟨fun _ _ => rfl, fun _ _ => rfl, by kernel_rfl, (fun _ _ h => nomatch h), by kernel_rfl⟩
noncomputable def Q9.G : Gam := gamOf [(6, Q6.D N), (7, Q7.D N), (13, Q13.D N), (25, Q25.D N), (14, Q14.D N), (26, Q26.D N)]
def Q9.A : LA := fun _ => none
noncomputable def Q9.fin : St → Option Bool := resK tb Try.f9.results.toList (decRes (Q9.D N) Q9.lc)
theorem Q9.entry (rec : RK Bool) (x : (argH Q9.as).den) : seg tb (Q9.G N) Q9.A 0 rec (Q9.fin N) segFuel [.code (bodyOf Try.f9)] (initSt Try.f9 (encArgs Q9.as x) (encMem Q9.as x)) = Q9.e N := by kernel_rfl
theorem Q9.ok : FnOk Try.prog 9 (Q9.D N) := by
 refine fo ⟨Try.f9, Try.func9, by kernel_rfl, by kernel_rfl, fun x y h => ⟨Q9.G N, Q9.A, N, gamOf_ok (gc ⟨Q6.ok N, Q6.fit N⟩ (gc ⟨Q7.ok N, Q7.fit N⟩ (gc ⟨Q13.ok N, Q13.fit N⟩ (gc ⟨Q25.ok N, Q25.fit N⟩ (gc ⟨Q14.ok N, Q14.fit N⟩ (gc ⟨Q26.ok N, Q26.fit N⟩ gn)))))), ?_⟩⟩ (Q9.fit N)
 rw [absFn_n (n0 := 0) rfl (by kernel_rfl)]
 exact (Q9.entry N _ x).trans h
def Q10.as : List MK := [.d true qa, .d true qd, .d false tI, .d false tI]
def Q10.rs : List (Bool × HT) := [(true, (.d qc)), (false, (.d tI))]
def Q10.lc : List AC := []
def Q10.D : DFn := ⟨Q10.as, Q10.rs, (TMv × Int), fun x => Q10 N x.1 x.2.1 x.2.2.1 x.2.2.2.1, fun r o => (r.1, r.2.1), fun b => (b.1, (b.2, ())), fun b => (), none⟩
theorem Q10.fit : (Q10.D N).Fit := ⟨fun _ _ => rfl, fun _ _ => rfl, by kernel_rfl, (fun _ _ h => nomatch h), by kernel_rfl⟩
noncomputable def Q10.G : Gam := gamOf [(5, Q5.D N)]
def Q10.A : LA := fun k => bif Nat.beq k 1 then some ⟨[8, 10, 12, 32, 33, 34], [], [], [], [0, 1], 4, false⟩ else none
noncomputable def Q10.fin : St → Option (TMv × Int) := resK tb Try.f10.results.toList (decRes (Q10.D N) Q10.lc)
noncomputable def Q10.k0 : List Item := stackAt [.r, .r, .r, .r, .l, .r, .b] (bodyOf Try.f10) []
def Q10.st0 (r_ : TRules) (p_ : TPos) (seed steps best t33_ t34_ : Int) (l_ : (List (TMv × (Int × Int)))) : St := ⟨rA 8 ++ [.one (.ptr 2 0), oA, .one (.own 3), oA, oi best] ++ rA 19 ++ [.one (.own 3), oi t33_, oi t34_] ++ rA 19, [.gone, .gone, .var 37 [.int .i64 0, .int .i64 0, .int .i64 0], .row 39 (.prod qc (.prod tI tI)) l_]⟩
theorem Q10.step0 (rec : RK (TMv × Int)) (r_ : TRules) (p_ : TPos) (seed steps best t33_ t34_ : Int) (l_ : (List (TMv × (Int × Int)))) : seg tb (Q10.G N) Q10.A 0 rec (Q10.fin N) segFuel (loopBody Q10.k0) (Q10.st0 r_ p_ seed steps best t33_ t34_ l_) = Q10.s0 N r_ p_ seed steps (fun best t33_ t34_ l_ => rec Q10.k0 (Q10.st0 r_ p_ seed steps best t33_ t34_ l_)) best t33_ t34_ l_ := by kernel_rfl
theorem Q10.entry (rec : RK (TMv × Int)) (x : (argH Q10.as).den) : seg tb (Q10.G N) Q10.A 0 rec (Q10.fin N) segFuel [.code (bodyOf Try.f10)] (initSt Try.f10 (encArgs Q10.as x) (encMem Q10.as x)) = Q10.e N (fun best t33_ t34_ l_ => rec Q10.k0 (Q10.st0 x.1 x.2.1 x.2.2.1 x.2.2.2.1 best t33_ t34_ l_)) x.1 x.2.1 x.2.2.1 x.2.2.2.1 := by kernel_rfl
theorem Q10.runs (N : Nat) (r_ : TRules) (p_ : TPos) (seed steps : Int) : ∀ n, (∀ (best t33_ t34_ : Int) (l_ : (List (TMv × (Int × Int)))), run tb (Q10.G N) Q10.A 0 (Q10.fin N) n Q10.k0 (Q10.st0 r_ p_ seed steps best t33_ t34_ l_) = Q10.l0 N r_ p_ seed steps n best t33_ t34_ l_)
 | 0 => fun _ _ _ _ => rfl
 | n + 1 => by
  have h0 := Q10.runs N r_ p_ seed steps n
  have e0 : (fun (best t33_ t34_ : Int) (l_ : (List (TMv × (Int × Int)))) => run tb (Q10.G N) Q10.A 0 (Q10.fin N) n Q10.k0 (Q10.st0 r_ p_ seed steps best t33_ t34_ l_)) = Q10.l0 N r_ p_ seed steps n := by funext best t33_ t34_ l_; exact h0 best t33_ t34_ l_
  have g0 : (∀ (best t33_ t34_ : Int) (l_ : (List (TMv × (Int × Int)))), run tb (Q10.G N) Q10.A 0 (Q10.fin N) (n + 1) Q10.k0 (Q10.st0 r_ p_ seed steps best t33_ t34_ l_) = Q10.l0 N r_ p_ seed steps (n + 1) best t33_ t34_ l_) := by
   intro best t33_ t34_ l_
   exact (run_succ (by kernel_rfl)).trans ((Q10.step0 N _ r_ p_ seed steps best t33_ t34_ l_).trans ((congrArg (fun r0 => Q10.s0 N r_ p_ seed steps r0 best t33_ t34_ l_) e0).trans (Q10.l0_s N r_ p_ seed steps n best t33_ t34_ l_).symm))
  exact g0
theorem Q10.ok : FnOk Try.prog 10 (Q10.D N) := by
 refine fo ⟨Try.f10, Try.func10, by kernel_rfl, by kernel_rfl, fun x y h => ⟨Q10.G N, Q10.A, N, gamOf_ok (gc ⟨Q5.ok N, Q5.fit N⟩ gn), ?_⟩⟩ (Q10.fit N)
 rw [absFn_n (n0 := 0) rfl (by kernel_rfl)]
 refine (Q10.entry N (run tb (Q10.G N) Q10.A 0 (Q10.fin N) N) x).trans ?_
 have e0 : (fun (best t33_ t34_ : Int) (l_ : (List (TMv × (Int × Int)))) => run tb (Q10.G N) Q10.A 0 (Q10.fin N) N Q10.k0 (Q10.st0 x.1 x.2.1 x.2.2.1 x.2.2.2.1 best t33_ t34_ l_)) = Q10.l0 N x.1 x.2.1 x.2.2.1 x.2.2.2.1 N := by funext best t33_ t34_ l_; exact (Q10.runs N x.1 x.2.1 x.2.2.1 x.2.2.2.1 N) best t33_ t34_ l_
 have h' : (Q10.D N).f x = Q10.e N (Q10.l0 N x.1 x.2.1 x.2.2.1 x.2.2.2.1 N) x.1 x.2.1 x.2.2.1 x.2.2.2.1 := by kernel_rfl
 exact (congrArg (fun r0 => Q10.e N r0 x.1 x.2.1 x.2.2.1 x.2.2.2.1) e0).trans (h'.symm.trans h)
def Q11.as : List MK := [.d true qa, .d true qd, .d false tI]
def Q11.rs : List (Bool × HT) := [(false, (.d .bool))]
def Q11.lc : List AC := []
def Q11.D : DFn := ⟨Q11.as, Q11.rs, Bool, fun x => Q11 N x.1 x.2.1 x.2.2.1, fun r o => r.1, fun b => (b, ()), fun b => (), none⟩
theorem Q11.fit : (Q11.D N).Fit := ⟨fun _ _ => rfl, fun _ _ => rfl, by kernel_rfl, (fun _ _ h => nomatch h), by kernel_rfl⟩
noncomputable def Q11.G : Gam := gamOf [(25, Q25.D N)]
def Q11.A : LA := fun _ => none
noncomputable def Q11.fin : St → Option Bool := resK tb Try.f11.results.toList (decRes (Q11.D N) Q11.lc)
theorem Q11.entry (rec : RK Bool) (x : (argH Q11.as).den) : seg tb (Q11.G N) Q11.A 0 rec (Q11.fin N) segFuel [.code (bodyOf Try.f11)] (initSt Try.f11 (encArgs Q11.as x) (encMem Q11.as x)) = Q11.e N x.1 x.2.1 x.2.2.1 := by kernel_rfl
theorem Q11.ok : FnOk Try.prog 11 (Q11.D N) := by
 refine fo ⟨Try.f11, Try.func11, by kernel_rfl, by kernel_rfl, fun x y h => ⟨Q11.G N, Q11.A, N, gamOf_ok (gc ⟨Q25.ok N, Q25.fit N⟩ gn), ?_⟩⟩ (Q11.fit N)
 rw [absFn_n (n0 := 0) rfl (by kernel_rfl)]
 exact (Q11.entry N _ x).trans h
def Q80.as : List MK := [.d false (.slice 37 qc), .d true qc]
def Q80.rs : List (Bool × HT) := [(false, (.d tI))]
def Q80.lc : List AC := []
def Q80.D : DFn := ⟨Q80.as, Q80.rs, Int, fun x => Q80 N x.1 x.2.1, fun r o => r.1, fun b => (b, ()), fun b => (), none⟩
theorem Q80.fit : (Q80.D N).Fit := ⟨fun _ _ => rfl, fun _ _ => rfl, by kernel_rfl, (fun _ _ h => nomatch h), by kernel_rfl⟩
noncomputable def Q80.G (N : Nat) : Gam := gamOf []
def Q80.A : LA := fun k => bif Nat.beq k 0 then some ⟨[0, 3, 7, 8], [], [], [], [], 1, false⟩ else none
noncomputable def Q80.fin : St → Option Int := resK tb Try.f80.results.toList (decRes (Q80.D N) Q80.lc)
noncomputable def Q80.k0 : List Item := stackAt [.r, .l, .r, .b] (bodyOf Try.f80) []
def Q80.st0 (s_ : LMv) (v_ : TMv) (t8_ : Int) : St := ⟨[.one (.fro 37 qc s_), oA, oA, .one (.ptr 0 0)] ++ rA 3 ++ [oi (s_.length : Int), oi t8_] ++ rA 10, [.var 37 [.int .i64 v_.1, .int .i64 v_.2.1, .int .i64 v_.2.2]]⟩
theorem Q80.step0 (rec : RK Int) (s_ : LMv) (v_ : TMv) (t8_ : Int) : seg tb (Q80.G N) Q80.A 0 rec (Q80.fin N) segFuel (loopBody Q80.k0) (Q80.st0 s_ v_ t8_) = Q80.s0 N s_ v_ (fun t8_ => rec Q80.k0 (Q80.st0 s_ v_ t8_)) t8_ := by kernel_rfl
theorem Q80.entry (rec : RK Int) (x : (argH Q80.as).den) : seg tb (Q80.G N) Q80.A 0 rec (Q80.fin N) segFuel [.code (bodyOf Try.f80)] (initSt Try.f80 (encArgs Q80.as x) (encMem Q80.as x)) = Q80.e N (fun t8_ => rec Q80.k0 (Q80.st0 x.1 x.2.1 t8_)) x.1 x.2.1 := by kernel_rfl
theorem Q80.runs (N : Nat) (s_ : LMv) (v_ : TMv) : ∀ n, (∀ (t8_ : Int), run tb (Q80.G N) Q80.A 0 (Q80.fin N) n Q80.k0 (Q80.st0 s_ v_ t8_) = Q80.l0 N s_ v_ n t8_)
 | 0 => fun _ => rfl
 | n + 1 => by
  have h0 := Q80.runs N s_ v_ n
  have e0 : (fun (t8_ : Int) => run tb (Q80.G N) Q80.A 0 (Q80.fin N) n Q80.k0 (Q80.st0 s_ v_ t8_)) = Q80.l0 N s_ v_ n := by funext t8_; exact h0 t8_
  have g0 : (∀ (t8_ : Int), run tb (Q80.G N) Q80.A 0 (Q80.fin N) (n + 1) Q80.k0 (Q80.st0 s_ v_ t8_) = Q80.l0 N s_ v_ (n + 1) t8_) := by
   intro t8_
   exact (run_succ (by kernel_rfl)).trans ((Q80.step0 N _ s_ v_ t8_).trans ((congrArg (fun r0 => Q80.s0 N s_ v_ r0 t8_) e0).trans (Q80.l0_s N s_ v_ n t8_).symm))
  exact g0
theorem Q80.ok : FnOk Try.prog 80 (Q80.D N) := by
 refine fo ⟨Try.f80, Try.func80, by kernel_rfl, by kernel_rfl, fun x y h => ⟨Q80.G N, Q80.A, N, gamOf_ok (fun p hp => nomatch hp), ?_⟩⟩ (Q80.fit N)
 rw [absFn_n (n0 := 0) rfl (by kernel_rfl)]
 refine (Q80.entry N (run tb (Q80.G N) Q80.A 0 (Q80.fin N) N) x).trans ?_
 have e0 : (fun (t8_ : Int) => run tb (Q80.G N) Q80.A 0 (Q80.fin N) N Q80.k0 (Q80.st0 x.1 x.2.1 t8_)) = Q80.l0 N x.1 x.2.1 N := by funext t8_; exact (Q80.runs N x.1 x.2.1 N) t8_
 have h' : (Q80.D N).f x = Q80.e N (Q80.l0 N x.1 x.2.1 N) x.1 x.2.1 := by kernel_rfl
 exact (congrArg (fun r0 => Q80.e N r0 x.1 x.2.1) e0).trans (h'.symm.trans h)
end
end Go.Proofs.Ytnddjmhpofhfjaa.Am
