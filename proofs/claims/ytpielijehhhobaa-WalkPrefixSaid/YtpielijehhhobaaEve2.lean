/- PRINTED by gen.py: the abstract machine evaluates the loaded code to these functions. -/
import Derived.Test.YtpielijehhhobaaEve1
set_option linter.unusedVariables false
set_option linter.unusedSimpArgs false
namespace Go.Proofs.Ytpielijehhhobaa.Am
open Go
noncomputable section
set_option maxRecDepth 100000
def Q14.as : List MK := [.o (.ptr 90 (.d tI)) true, .d false tI]
def Q14.rs : List (Bool × HT) := [(false, (.d tI)), (false, (.d tI))]
def Q14.lc : List AC := [.ptr 0 0]
def Q14.D (N : Nat) : DFn := ⟨Q14.as, Q14.rs, (Int × Int × Int), fun x => Q14 N x.1 x.2.1, fun r o => (r.1, r.2.1, o.1), fun b => (b.1, (b.2.1, ())), fun b => (b.2.2, ()), none⟩
theorem Q14.fit (N : Nat) : (Q14.D N).Fit := ⟨fun _ _ => rfl, fun _ _ => rfl, by kernel_rfl, (fun _ _ h => nomatch h), by kernel_rfl⟩
noncomputable def Q14.G (N : Nat) : Gam := gamOf [(15, Q15.D N)]
def Q14.A : Nat → Option LoopAnn := fun _ => none
noncomputable def Q14.fin (N : Nat) : St → Option (Int × Int × Int) := resK tb Try.f14.results.toList (decRes (Q14.D N) Q14.lc)
theorem Q14.entry (N : Nat) (rec : List Item → St → Option (Int × Int × Int)) (x : (argH Q14.as).den) : seg tb (Q14.G N) Q14.A 1 rec (Q14.fin N) segFuel [.code (bodyOf Try.f14)] (initSt Try.f14 (encArgs Q14.as x) (encMem Q14.as x)) = Q14.e N x.1 x.2.1 := by kernel_rfl
theorem Q14.ok (N : Nat) : FnOk Try.prog 14 (Q14.D N) := by
 refine FnOk_of tb_ok (Checked.mixed Try.checked) ⟨Try.f14, Try.func14, by kernel_rfl, by kernel_rfl, fun x y h => ⟨Q14.G N, Q14.A, N, gamOf_ok (by simp only [List.forall_mem_cons, List.not_mem_nil, false_implies, implies_true, and_true]; exact ⟨Q15.ok N, Q15.fit N⟩), ?_⟩⟩ (Q14.fit N)
 rw [absFn_n (n0 := 1) rfl (by kernel_rfl)]
 exact (Q14.entry N _ x).trans h
def Q79.as : List MK := [.d true (.prod .str (.prod tI (.prod tI (.prod (.slice 107 (.prod (.int .u8) (.prod tI (.prod tI (.slice 127 (.prod tI (.prod tI (.prod tI tI)))))))) (.prod (.slice 3 tI) (.prod .bool (.prod .bool (.prod (.slice 109 (.prod tI (.prod tI (.prod tI .bool)))) (.prod tI (.prod tI tI)))))))))), .d true (.prod (.slice 3 tI) (.prod (.prod (.slice 3 tI) (.slice 3 tI)) (.prod tI tI))), .d true (.prod tI (.prod tI tI)), .d false (.int .u64)]
def Q79.rs : List (Bool × HT) := [(false, (.d (.int .u64)))]
def Q79.lc : List AC := []
def Q79.D (N : Nat) : DFn := ⟨Q79.as, Q79.rs, Int, fun x => Q79 N x.1 x.2.1 x.2.2.1 x.2.2.2.1, fun r o => r.1, fun b => (b, ()), fun b => (), none⟩
theorem Q79.fit (N : Nat) : (Q79.D N).Fit := ⟨fun _ _ => rfl, fun _ _ => rfl, by kernel_rfl, (fun _ _ h => nomatch h), by kernel_rfl⟩
noncomputable def Q79.G (N : Nat) : Gam := gamOf [(76, Q76.D N), (78, Q78.D N), (77, Q77.D N), (63, Q63.D N), (74, Q74.D N)]
def Q79.A : Nat → Option LoopAnn := fun _ => none
noncomputable def Q79.fin (N : Nat) : St → Option Int := resK tb Try.f79.results.toList (decRes (Q79.D N) Q79.lc)
theorem Q79.entry (N : Nat) (rec : List Item → St → Option Int) (x : (argH Q79.as).den) : seg tb (Q79.G N) Q79.A 0 rec (Q79.fin N) segFuel [.code (bodyOf Try.f79)] (initSt Try.f79 (encArgs Q79.as x) (encMem Q79.as x)) = Q79.e N x.1 x.2.1 x.2.2.1 x.2.2.2.1 := by kernel_rfl
theorem Q79.ok (N : Nat) : FnOk Try.prog 79 (Q79.D N) := by
 refine FnOk_of tb_ok (Checked.mixed Try.checked) ⟨Try.f79, Try.func79, by kernel_rfl, by kernel_rfl, fun x y h => ⟨Q79.G N, Q79.A, N, gamOf_ok (by simp only [List.forall_mem_cons, List.not_mem_nil, false_implies, implies_true, and_true]; exact ⟨⟨Q76.ok N, Q76.fit N⟩, ⟨Q78.ok N, Q78.fit N⟩, ⟨Q77.ok N, Q77.fit N⟩, ⟨Q63.ok N, Q63.fit N⟩, ⟨Q74.ok N, Q74.fit N⟩⟩), ?_⟩⟩ (Q79.fit N)
 rw [absFn_n (n0 := 0) rfl (by kernel_rfl)]
 exact (Q79.entry N _ x).trans h
def Q50.as : List MK := [.o (.ptr 115 (.prod (.prod (.d .str) (.prod (.d tI) (.prod (.d tI) (.prod (.own 107 (.prod (.int .u8) (.prod tI (.prod tI (.slice 127 (.prod tI (.prod tI (.prod tI tI)))))))) (.prod (.own 3 tI) (.prod (.d .bool) (.prod (.d .bool) (.prod (.own 109 (.prod tI (.prod tI (.prod tI .bool)))) (.d (.prod tI (.prod tI tI))))))))))) (.prod (.prod (.own 3 tI) (.prod (.prod (.own 3 tI) (.own 3 tI)) (.d (.prod tI tI)))) (.prod (.d (.int .u64)) (.own 144 (.prod (.prod tI (.prod tI tI)) (.prod tI (.prod tI (.prod .bool (.prod tI (.int .u64))))))))))) true, .d true (.prod tI (.prod tI tI))]
def Q50.rs : List (Bool × HT) := []
def Q50.lc : List AC := [.ptr 0 0]
def Q50.D (N : Nat) : DFn := ⟨Q50.as, Q50.rs, TBoard, fun x => Q50 N x.1 x.2.1, fun r o => o.1, fun b => (), fun b => (b, ()), none⟩
theorem Q50.fit (N : Nat) : (Q50.D N).Fit := ⟨fun _ _ => rfl, fun _ _ => rfl, by kernel_rfl, (fun _ _ h => nomatch h), by kernel_rfl⟩
noncomputable def Q50.G (N : Nat) : Gam := gamOf [(79, Q79.D N), (63, Q63.D N), (74, Q74.D N)]
def Q50.A : Nat → Option LoopAnn := fun _ => none
noncomputable def Q50.fin (N : Nat) : St → Option TBoard := resK tb Try.f50.results.toList (decRes (Q50.D N) Q50.lc)
theorem Q50.entry (N : Nat) (rec : List Item → St → Option TBoard) (x : (argH Q50.as).den) : seg tb (Q50.G N) Q50.A 8 rec (Q50.fin N) segFuel [.code (bodyOf Try.f50)] (initSt Try.f50 (encArgs Q50.as x) (encMem Q50.as x)) = Q50.e N x.1 x.2.1 := by kernel_rfl
theorem Q50.ok (N : Nat) : FnOk Try.prog 50 (Q50.D N) := by
 refine FnOk_of tb_ok (Checked.mixed Try.checked) ⟨Try.f50, Try.func50, by kernel_rfl, by kernel_rfl, fun x y h => ⟨Q50.G N, Q50.A, N, gamOf_ok (by simp only [List.forall_mem_cons, List.not_mem_nil, false_implies, implies_true, and_true]; exact ⟨⟨Q79.ok N, Q79.fit N⟩, ⟨Q63.ok N, Q63.fit N⟩, ⟨Q74.ok N, Q74.fit N⟩⟩), ?_⟩⟩ (Q50.fit N)
 rw [absFn_n (n0 := 8) rfl (by kernel_rfl)]
 exact (Q50.entry N _ x).trans h
def Q51.as : List MK := [.o (.ptr 115 (.prod (.prod (.d .str) (.prod (.d tI) (.prod (.d tI) (.prod (.own 107 (.prod (.int .u8) (.prod tI (.prod tI (.slice 127 (.prod tI (.prod tI (.prod tI tI)))))))) (.prod (.own 3 tI) (.prod (.d .bool) (.prod (.d .bool) (.prod (.own 109 (.prod tI (.prod tI (.prod tI .bool)))) (.d (.prod tI (.prod tI tI))))))))))) (.prod (.prod (.own 3 tI) (.prod (.prod (.own 3 tI) (.own 3 tI)) (.d (.prod tI tI)))) (.prod (.d (.int .u64)) (.own 144 (.prod (.prod tI (.prod tI tI)) (.prod tI (.prod tI (.prod .bool (.prod tI (.int .u64))))))))))) true]
def Q51.rs : List (Bool × HT) := [(false, (.d tI))]
def Q51.lc : List AC := [.ptr 0 0]
def Q51.D (N : Nat) : DFn := ⟨Q51.as, Q51.rs, (Int × TBoard), fun x => Q51 N x.1, fun r o => (r.1, o.1), fun b => (b.1, ()), fun b => (b.2, ()), none⟩
theorem Q51.fit (N : Nat) : (Q51.D N).Fit := ⟨fun _ _ => rfl, fun _ _ => rfl, by kernel_rfl, (fun _ _ h => nomatch h), by kernel_rfl⟩
noncomputable def Q51.G (N : Nat) : Gam := gamOf [(63, Q63.D N)]
def Q51.A : Nat → Option LoopAnn := fun _ => none
noncomputable def Q51.fin (N : Nat) : St → Option (Int × TBoard) := resK tb Try.f51.results.toList (decRes (Q51.D N) Q51.lc)
theorem Q51.entry (N : Nat) (rec : List Item → St → Option (Int × TBoard)) (x : (argH Q51.as).den) : seg tb (Q51.G N) Q51.A 8 rec (Q51.fin N) segFuel [.code (bodyOf Try.f51)] (initSt Try.f51 (encArgs Q51.as x) (encMem Q51.as x)) = Q51.e N x.1 := by kernel_rfl
theorem Q51.ok (N : Nat) : FnOk Try.prog 51 (Q51.D N) := by
 refine FnOk_of tb_ok (Checked.mixed Try.checked) ⟨Try.f51, Try.func51, by kernel_rfl, by kernel_rfl, fun x y h => ⟨Q51.G N, Q51.A, N, gamOf_ok (by simp only [List.forall_mem_cons, List.not_mem_nil, false_implies, implies_true, and_true]; exact ⟨Q63.ok N, Q63.fit N⟩), ?_⟩⟩ (Q51.fit N)
 rw [absFn_n (n0 := 8) rfl (by kernel_rfl)]
 exact (Q51.entry N _ x).trans h
def Q55.as : List MK := [.o (.ptr 82 (.prod (.ptr 115 (.prod (.prod (.d .str) (.prod (.d tI) (.prod (.d tI) (.prod (.own 107 (.prod (.int .u8) (.prod tI (.prod tI (.slice 127 (.prod tI (.prod tI (.prod tI tI)))))))) (.prod (.own 3 tI) (.prod (.d .bool) (.prod (.d .bool) (.prod (.own 109 (.prod tI (.prod tI (.prod tI .bool)))) (.d (.prod tI (.prod tI tI))))))))))) (.prod (.prod (.own 3 tI) (.prod (.prod (.own 3 tI) (.own 3 tI)) (.d (.prod tI tI)))) (.prod (.d (.int .u64)) (.own 144 (.prod (.prod tI (.prod tI tI)) (.prod tI (.prod tI (.prod .bool (.prod tI (.int .u64))))))))))) (.ptr 90 (.d tI)))) true]
def Q55.rs : List (Bool × HT) := [(false, (.d tI))]
def Q55.lc : List AC := [.ptr 0 0]
def Q55.D (N : Nat) : DFn := ⟨Q55.as, Q55.rs, (Int × (TBoard × Int)), fun x => Q55 N x.1, fun r o => (r.1, o.1), fun b => (b.1, ()), fun b => (b.2, ()), some [1, 9]⟩
theorem Q55.fit (N : Nat) : (Q55.D N).Fit := ⟨fun _ _ => rfl, fun _ _ => rfl, by kernel_rfl, (fun x L h => by cases h; kernel_rfl), by kernel_rfl⟩
noncomputable def Q55.G (N : Nat) : Gam := gamOf [(34, Q34.D N), (32, Q32.D N), (14, Q14.D N), (50, Q50.D N), (51, Q51.D N)]
def Q55.A : Nat → Option LoopAnn := fun k => bif Nat.beq k 0 then some ⟨[0, 3], [], [], [(true, 1, 3, 10), (true, 1, 4, 11), (true, 1, 7, 12), (true, 1, 11, 13), (true, 1, 12, 14), (true, 1, 13, 15), (true, 1, 17, 16)], [], 17, false⟩ else bif Nat.beq k 2 then some ⟨[0, 3, 7], [], [], [(true, 1, 3, 10), (true, 1, 4, 11), (true, 1, 7, 12), (true, 1, 11, 13), (true, 1, 12, 14), (true, 1, 13, 15), (true, 1, 17, 16)], [], 17, false⟩ else bif Nat.beq k 3000050 then some ⟨[], [], [], [], [], 0, false⟩ else none
noncomputable def Q55.fin (N : Nat) : St → Option (Int × (TBoard × Int)) := resK tb Try.f55.results.toList (decRes (Q55.D N) Q55.lc)
noncomputable def Q55.k0 : List Item := stackAt [.r, .r, .l, .b] (bodyOf Try.f55) []
def Q55.st0 (x_ : (TBoard × Int)) (n_ : Int) (m1_ : ByteArray) (m1_2 m1_3 : Int) (m1_4 m1_5 : Bool) (m1_6 m1_7 m1_8 m1_9 m1_10 m1_11 m9_ : Int) (m10_ : (List TPiece)) (m11_ : LInt) (m12_ : (List TEnd)) (m13_ m14_ m15_ : LInt) (m16_ : (List TUndo)) : St := ⟨[.one (.ptr 0 0), .one .any, .one .any, .one (.int .i64 n_)] ++ List.replicate 50 (.one .any), [.var 82 [.ptr 1 0, .ptr 9 0], .var 115 [.str m1_, .int .i64 m1_2, .int .i64 m1_3, .own 10, .own 11, .bool m1_4, .bool m1_5, .own 12, .int .i64 m1_6, .int .i64 m1_7, .int .i64 m1_8, .own 13, .own 14, .own 15, .int .i64 m1_9, .int .i64 m1_10, .int .u64 m1_11, .own 16], .gone, .gone, .gone, .gone, .gone, .gone, .gone, .var 90 [.int .i64 m9_], .row 107 (.prod (.int .u8) (.prod tI (.prod tI (.slice 127 (.prod tI (.prod tI (.prod tI tI))))))) m10_, .row 3 tI m11_, .row 109 (.prod tI (.prod tI (.prod tI .bool))) m12_, .row 3 tI m13_, .row 3 tI m14_, .row 3 tI m15_, .row 144 (.prod (.prod tI (.prod tI tI)) (.prod tI (.prod tI (.prod .bool (.prod tI (.int .u64)))))) m16_]⟩
noncomputable def Q55.k1 : List Item := stackAt [.r, .r, .r, .r, .l, .b] (bodyOf Try.f55) []
def Q55.st1 (x_ : (TBoard × Int)) (n_ out : Int) (m1_ : ByteArray) (m1_2 m1_3 : Int) (m1_4 m1_5 : Bool) (m1_6 m1_7 m1_8 m1_9 m1_10 m1_11 m9_ : Int) (m10_ : (List TPiece)) (m11_ : LInt) (m12_ : (List TEnd)) (m13_ m14_ m15_ : LInt) (m16_ : (List TUndo)) : St := ⟨[.one (.ptr 0 0), .one .any, .one .any, .one (.int .i64 n_)] ++ List.replicate 3 (.one .any) ++ [.one (.int .i64 out)] ++ List.replicate 46 (.one .any), [.var 82 [.ptr 1 0, .ptr 9 0], .var 115 [.str m1_, .int .i64 m1_2, .int .i64 m1_3, .own 10, .own 11, .bool m1_4, .bool m1_5, .own 12, .int .i64 m1_6, .int .i64 m1_7, .int .i64 m1_8, .own 13, .own 14, .own 15, .int .i64 m1_9, .int .i64 m1_10, .int .u64 m1_11, .own 16], .gone, .gone, .gone, .gone, .gone, .gone, .gone, .var 90 [.int .i64 m9_], .row 107 (.prod (.int .u8) (.prod tI (.prod tI (.slice 127 (.prod tI (.prod tI (.prod tI tI))))))) m10_, .row 3 tI m11_, .row 109 (.prod tI (.prod tI (.prod tI .bool))) m12_, .row 3 tI m13_, .row 3 tI m14_, .row 3 tI m15_, .row 144 (.prod (.prod tI (.prod tI tI)) (.prod tI (.prod tI (.prod .bool (.prod tI (.int .u64)))))) m16_]⟩
theorem Q55.step0 (N : Nat) (rec : List Item → St → Option (Int × (TBoard × Int))) (x_ : (TBoard × Int)) (n_ : Int) (m1_ : ByteArray) (m1_2 m1_3 : Int) (m1_4 m1_5 : Bool) (m1_6 m1_7 m1_8 m1_9 m1_10 m1_11 m9_ : Int) (m10_ : (List TPiece)) (m11_ : LInt) (m12_ : (List TEnd)) (m13_ m14_ m15_ : LInt) (m16_ : (List TUndo)) : seg tb (Q55.G N) Q55.A 10 rec (Q55.fin N) segFuel (loopBody Q55.k0) (Q55.st0 x_ n_ m1_ m1_2 m1_3 m1_4 m1_5 m1_6 m1_7 m1_8 m1_9 m1_10 m1_11 m9_ m10_ m11_ m12_ m13_ m14_ m15_ m16_) = Q55.s0 N x_ (fun n_ m1_ m1_2 m1_3 m1_4 m1_5 m1_6 m1_7 m1_8 m1_9 m1_10 m1_11 m9_ m10_ m11_ m12_ m13_ m14_ m15_ m16_ => rec Q55.k0 (Q55.st0 x_ n_ m1_ m1_2 m1_3 m1_4 m1_5 m1_6 m1_7 m1_8 m1_9 m1_10 m1_11 m9_ m10_ m11_ m12_ m13_ m14_ m15_ m16_)) (fun n_ out m1_ m1_2 m1_3 m1_4 m1_5 m1_6 m1_7 m1_8 m1_9 m1_10 m1_11 m9_ m10_ m11_ m12_ m13_ m14_ m15_ m16_ => rec Q55.k1 (Q55.st1 x_ n_ out m1_ m1_2 m1_3 m1_4 m1_5 m1_6 m1_7 m1_8 m1_9 m1_10 m1_11 m9_ m10_ m11_ m12_ m13_ m14_ m15_ m16_)) n_ m1_ m1_2 m1_3 m1_4 m1_5 m1_6 m1_7 m1_8 m1_9 m1_10 m1_11 m9_ m10_ m11_ m12_ m13_ m14_ m15_ m16_ := by kernel_rfl
theorem Q55.step1 (N : Nat) (rec : List Item → St → Option (Int × (TBoard × Int))) (x_ : (TBoard × Int)) (n_ out : Int) (m1_ : ByteArray) (m1_2 m1_3 : Int) (m1_4 m1_5 : Bool) (m1_6 m1_7 m1_8 m1_9 m1_10 m1_11 m9_ : Int) (m10_ : (List TPiece)) (m11_ : LInt) (m12_ : (List TEnd)) (m13_ m14_ m15_ : LInt) (m16_ : (List TUndo)) : seg tb (Q55.G N) Q55.A 10 rec (Q55.fin N) segFuel (loopBody Q55.k1) (Q55.st1 x_ n_ out m1_ m1_2 m1_3 m1_4 m1_5 m1_6 m1_7 m1_8 m1_9 m1_10 m1_11 m9_ m10_ m11_ m12_ m13_ m14_ m15_ m16_) = Q55.s1 N x_ (fun n_ m1_ m1_2 m1_3 m1_4 m1_5 m1_6 m1_7 m1_8 m1_9 m1_10 m1_11 m9_ m10_ m11_ m12_ m13_ m14_ m15_ m16_ => rec Q55.k0 (Q55.st0 x_ n_ m1_ m1_2 m1_3 m1_4 m1_5 m1_6 m1_7 m1_8 m1_9 m1_10 m1_11 m9_ m10_ m11_ m12_ m13_ m14_ m15_ m16_)) (fun n_ out m1_ m1_2 m1_3 m1_4 m1_5 m1_6 m1_7 m1_8 m1_9 m1_10 m1_11 m9_ m10_ m11_ m12_ m13_ m14_ m15_ m16_ => rec Q55.k1 (Q55.st1 x_ n_ out m1_ m1_2 m1_3 m1_4 m1_5 m1_6 m1_7 m1_8 m1_9 m1_10 m1_11 m9_ m10_ m11_ m12_ m13_ m14_ m15_ m16_)) n_ out m1_ m1_2 m1_3 m1_4 m1_5 m1_6 m1_7 m1_8 m1_9 m1_10 m1_11 m9_ m10_ m11_ m12_ m13_ m14_ m15_ m16_ := by kernel_rfl
theorem Q55.entry (N : Nat) (rec : List Item → St → Option (Int × (TBoard × Int))) (x : (argH Q55.as).den) : seg tb (Q55.G N) Q55.A 10 rec (Q55.fin N) segFuel [.code (bodyOf Try.f55)] (initSt Try.f55 (encArgs Q55.as x) (encMem Q55.as x)) = Q55.e N (fun n_ m1_ m1_2 m1_3 m1_4 m1_5 m1_6 m1_7 m1_8 m1_9 m1_10 m1_11 m9_ m10_ m11_ m12_ m13_ m14_ m15_ m16_ => rec Q55.k0 (Q55.st0 x.1 n_ m1_ m1_2 m1_3 m1_4 m1_5 m1_6 m1_7 m1_8 m1_9 m1_10 m1_11 m9_ m10_ m11_ m12_ m13_ m14_ m15_ m16_)) (fun n_ out m1_ m1_2 m1_3 m1_4 m1_5 m1_6 m1_7 m1_8 m1_9 m1_10 m1_11 m9_ m10_ m11_ m12_ m13_ m14_ m15_ m16_ => rec Q55.k1 (Q55.st1 x.1 n_ out m1_ m1_2 m1_3 m1_4 m1_5 m1_6 m1_7 m1_8 m1_9 m1_10 m1_11 m9_ m10_ m11_ m12_ m13_ m14_ m15_ m16_)) x.1 := by kernel_rfl
theorem Q55.runs (N : Nat) (x_ : (TBoard × Int)) : ∀ n, (∀ (n_ : Int) (m1_ : ByteArray) (m1_2 m1_3 : Int) (m1_4 m1_5 : Bool) (m1_6 m1_7 m1_8 m1_9 m1_10 m1_11 m9_ : Int) (m10_ : (List TPiece)) (m11_ : LInt) (m12_ : (List TEnd)) (m13_ m14_ m15_ : LInt) (m16_ : (List TUndo)), run tb (Q55.G N) Q55.A 10 (Q55.fin N) n Q55.k0 (Q55.st0 x_ n_ m1_ m1_2 m1_3 m1_4 m1_5 m1_6 m1_7 m1_8 m1_9 m1_10 m1_11 m9_ m10_ m11_ m12_ m13_ m14_ m15_ m16_) = Q55.l0 N x_ n n_ m1_ m1_2 m1_3 m1_4 m1_5 m1_6 m1_7 m1_8 m1_9 m1_10 m1_11 m9_ m10_ m11_ m12_ m13_ m14_ m15_ m16_) ∧ (∀ (n_ out : Int) (m1_ : ByteArray) (m1_2 m1_3 : Int) (m1_4 m1_5 : Bool) (m1_6 m1_7 m1_8 m1_9 m1_10 m1_11 m9_ : Int) (m10_ : (List TPiece)) (m11_ : LInt) (m12_ : (List TEnd)) (m13_ m14_ m15_ : LInt) (m16_ : (List TUndo)), run tb (Q55.G N) Q55.A 10 (Q55.fin N) n Q55.k1 (Q55.st1 x_ n_ out m1_ m1_2 m1_3 m1_4 m1_5 m1_6 m1_7 m1_8 m1_9 m1_10 m1_11 m9_ m10_ m11_ m12_ m13_ m14_ m15_ m16_) = Q55.l1 N x_ n n_ out m1_ m1_2 m1_3 m1_4 m1_5 m1_6 m1_7 m1_8 m1_9 m1_10 m1_11 m9_ m10_ m11_ m12_ m13_ m14_ m15_ m16_)
 | 0 => ⟨fun _ _ _ _ _ _ _ _ _ _ _ _ _ _ _ _ _ _ _ _ => rfl, fun _ _ _ _ _ _ _ _ _ _ _ _ _ _ _ _ _ _ _ _ _ => rfl⟩
 | n + 1 => by
  obtain ⟨h0, h1⟩ := Q55.runs N x_ n
  have e0 : (fun (n_ : Int) (m1_ : ByteArray) (m1_2 m1_3 : Int) (m1_4 m1_5 : Bool) (m1_6 m1_7 m1_8 m1_9 m1_10 m1_11 m9_ : Int) (m10_ : (List TPiece)) (m11_ : LInt) (m12_ : (List TEnd)) (m13_ m14_ m15_ : LInt) (m16_ : (List TUndo)) => run tb (Q55.G N) Q55.A 10 (Q55.fin N) n Q55.k0 (Q55.st0 x_ n_ m1_ m1_2 m1_3 m1_4 m1_5 m1_6 m1_7 m1_8 m1_9 m1_10 m1_11 m9_ m10_ m11_ m12_ m13_ m14_ m15_ m16_)) = Q55.l0 N x_ n := by funext n_ m1_ m1_2 m1_3 m1_4 m1_5 m1_6 m1_7 m1_8 m1_9 m1_10 m1_11 m9_ m10_ m11_ m12_ m13_ m14_ m15_ m16_; exact h0 n_ m1_ m1_2 m1_3 m1_4 m1_5 m1_6 m1_7 m1_8 m1_9 m1_10 m1_11 m9_ m10_ m11_ m12_ m13_ m14_ m15_ m16_
  have e1 : (fun (n_ out : Int) (m1_ : ByteArray) (m1_2 m1_3 : Int) (m1_4 m1_5 : Bool) (m1_6 m1_7 m1_8 m1_9 m1_10 m1_11 m9_ : Int) (m10_ : (List TPiece)) (m11_ : LInt) (m12_ : (List TEnd)) (m13_ m14_ m15_ : LInt) (m16_ : (List TUndo)) => run tb (Q55.G N) Q55.A 10 (Q55.fin N) n Q55.k1 (Q55.st1 x_ n_ out m1_ m1_2 m1_3 m1_4 m1_5 m1_6 m1_7 m1_8 m1_9 m1_10 m1_11 m9_ m10_ m11_ m12_ m13_ m14_ m15_ m16_)) = Q55.l1 N x_ n := by funext n_ out m1_ m1_2 m1_3 m1_4 m1_5 m1_6 m1_7 m1_8 m1_9 m1_10 m1_11 m9_ m10_ m11_ m12_ m13_ m14_ m15_ m16_; exact h1 n_ out m1_ m1_2 m1_3 m1_4 m1_5 m1_6 m1_7 m1_8 m1_9 m1_10 m1_11 m9_ m10_ m11_ m12_ m13_ m14_ m15_ m16_
  have g0 : (∀ (n_ : Int) (m1_ : ByteArray) (m1_2 m1_3 : Int) (m1_4 m1_5 : Bool) (m1_6 m1_7 m1_8 m1_9 m1_10 m1_11 m9_ : Int) (m10_ : (List TPiece)) (m11_ : LInt) (m12_ : (List TEnd)) (m13_ m14_ m15_ : LInt) (m16_ : (List TUndo)), run tb (Q55.G N) Q55.A 10 (Q55.fin N) (n + 1) Q55.k0 (Q55.st0 x_ n_ m1_ m1_2 m1_3 m1_4 m1_5 m1_6 m1_7 m1_8 m1_9 m1_10 m1_11 m9_ m10_ m11_ m12_ m13_ m14_ m15_ m16_) = Q55.l0 N x_ (n + 1) n_ m1_ m1_2 m1_3 m1_4 m1_5 m1_6 m1_7 m1_8 m1_9 m1_10 m1_11 m9_ m10_ m11_ m12_ m13_ m14_ m15_ m16_) := by
   intro n_ m1_ m1_2 m1_3 m1_4 m1_5 m1_6 m1_7 m1_8 m1_9 m1_10 m1_11 m9_ m10_ m11_ m12_ m13_ m14_ m15_ m16_
   exact (run_succ (by kernel_rfl)).trans ((Q55.step0 N _ x_ n_ m1_ m1_2 m1_3 m1_4 m1_5 m1_6 m1_7 m1_8 m1_9 m1_10 m1_11 m9_ m10_ m11_ m12_ m13_ m14_ m15_ m16_).trans ((congr (congrArg (fun r0 r1 => Q55.s0 N x_ r0 r1 n_ m1_ m1_2 m1_3 m1_4 m1_5 m1_6 m1_7 m1_8 m1_9 m1_10 m1_11 m9_ m10_ m11_ m12_ m13_ m14_ m15_ m16_) e0) e1).trans (Q55.l0_s N x_ n n_ m1_ m1_2 m1_3 m1_4 m1_5 m1_6 m1_7 m1_8 m1_9 m1_10 m1_11 m9_ m10_ m11_ m12_ m13_ m14_ m15_ m16_).symm))
  have g1 : (∀ (n_ out : Int) (m1_ : ByteArray) (m1_2 m1_3 : Int) (m1_4 m1_5 : Bool) (m1_6 m1_7 m1_8 m1_9 m1_10 m1_11 m9_ : Int) (m10_ : (List TPiece)) (m11_ : LInt) (m12_ : (List TEnd)) (m13_ m14_ m15_ : LInt) (m16_ : (List TUndo)), run tb (Q55.G N) Q55.A 10 (Q55.fin N) (n + 1) Q55.k1 (Q55.st1 x_ n_ out m1_ m1_2 m1_3 m1_4 m1_5 m1_6 m1_7 m1_8 m1_9 m1_10 m1_11 m9_ m10_ m11_ m12_ m13_ m14_ m15_ m16_) = Q55.l1 N x_ (n + 1) n_ out m1_ m1_2 m1_3 m1_4 m1_5 m1_6 m1_7 m1_8 m1_9 m1_10 m1_11 m9_ m10_ m11_ m12_ m13_ m14_ m15_ m16_) := by
   intro n_ out m1_ m1_2 m1_3 m1_4 m1_5 m1_6 m1_7 m1_8 m1_9 m1_10 m1_11 m9_ m10_ m11_ m12_ m13_ m14_ m15_ m16_
   exact (run_succ (by kernel_rfl)).trans ((Q55.step1 N _ x_ n_ out m1_ m1_2 m1_3 m1_4 m1_5 m1_6 m1_7 m1_8 m1_9 m1_10 m1_11 m9_ m10_ m11_ m12_ m13_ m14_ m15_ m16_).trans ((congr (congrArg (fun r0 r1 => Q55.s1 N x_ r0 r1 n_ out m1_ m1_2 m1_3 m1_4 m1_5 m1_6 m1_7 m1_8 m1_9 m1_10 m1_11 m9_ m10_ m11_ m12_ m13_ m14_ m15_ m16_) e0) e1).trans (Q55.l1_s N x_ n n_ out m1_ m1_2 m1_3 m1_4 m1_5 m1_6 m1_7 m1_8 m1_9 m1_10 m1_11 m9_ m10_ m11_ m12_ m13_ m14_ m15_ m16_).symm))
  exact ⟨g0, g1⟩
theorem Q55.ok (N : Nat) : FnOk Try.prog 55 (Q55.D N) := by
 refine FnOk_of tb_ok (Checked.mixed Try.checked) ⟨Try.f55, Try.func55, by kernel_rfl, by kernel_rfl, fun x y h => ⟨Q55.G N, Q55.A, N, gamOf_ok (by simp only [List.forall_mem_cons, List.not_mem_nil, false_implies, implies_true, and_true]; exact ⟨⟨Q34.ok N, Q34.fit N⟩, ⟨Q32.ok N, Q32.fit N⟩, ⟨Q14.ok N, Q14.fit N⟩, ⟨Q50.ok N, Q50.fit N⟩, ⟨Q51.ok N, Q51.fit N⟩⟩), ?_⟩⟩ (Q55.fit N)
 rw [absFn_n (n0 := 10) rfl (by kernel_rfl)]
 refine (Q55.entry N (run tb (Q55.G N) Q55.A 10 (Q55.fin N) N) x).trans ?_
 have e0 : (fun (n_ : Int) (m1_ : ByteArray) (m1_2 m1_3 : Int) (m1_4 m1_5 : Bool) (m1_6 m1_7 m1_8 m1_9 m1_10 m1_11 m9_ : Int) (m10_ : (List TPiece)) (m11_ : LInt) (m12_ : (List TEnd)) (m13_ m14_ m15_ : LInt) (m16_ : (List TUndo)) => run tb (Q55.G N) Q55.A 10 (Q55.fin N) N Q55.k0 (Q55.st0 x.1 n_ m1_ m1_2 m1_3 m1_4 m1_5 m1_6 m1_7 m1_8 m1_9 m1_10 m1_11 m9_ m10_ m11_ m12_ m13_ m14_ m15_ m16_)) = Q55.l0 N x.1 N := by funext n_ m1_ m1_2 m1_3 m1_4 m1_5 m1_6 m1_7 m1_8 m1_9 m1_10 m1_11 m9_ m10_ m11_ m12_ m13_ m14_ m15_ m16_; exact (Q55.runs N x.1 N).1 n_ m1_ m1_2 m1_3 m1_4 m1_5 m1_6 m1_7 m1_8 m1_9 m1_10 m1_11 m9_ m10_ m11_ m12_ m13_ m14_ m15_ m16_
 have e1 : (fun (n_ out : Int) (m1_ : ByteArray) (m1_2 m1_3 : Int) (m1_4 m1_5 : Bool) (m1_6 m1_7 m1_8 m1_9 m1_10 m1_11 m9_ : Int) (m10_ : (List TPiece)) (m11_ : LInt) (m12_ : (List TEnd)) (m13_ m14_ m15_ : LInt) (m16_ : (List TUndo)) => run tb (Q55.G N) Q55.A 10 (Q55.fin N) N Q55.k1 (Q55.st1 x.1 n_ out m1_ m1_2 m1_3 m1_4 m1_5 m1_6 m1_7 m1_8 m1_9 m1_10 m1_11 m9_ m10_ m11_ m12_ m13_ m14_ m15_ m16_)) = Q55.l1 N x.1 N := by funext n_ out m1_ m1_2 m1_3 m1_4 m1_5 m1_6 m1_7 m1_8 m1_9 m1_10 m1_11 m9_ m10_ m11_ m12_ m13_ m14_ m15_ m16_; exact (Q55.runs N x.1 N).2 n_ out m1_ m1_2 m1_3 m1_4 m1_5 m1_6 m1_7 m1_8 m1_9 m1_10 m1_11 m9_ m10_ m11_ m12_ m13_ m14_ m15_ m16_
 have h' : (Q55.D N).f x = Q55.e N (Q55.l0 N x.1 N) (Q55.l1 N x.1 N) x.1 := by kernel_rfl
 exact (congr (congrArg (fun r0 r1 => Q55.e N r0 r1 x.1) e0) e1).trans (h'.symm.trans h)
def Q28.as : List MK := [.r (.prod (.prod .str (.prod tI (.prod tI (.prod (.slice 107 (.prod (.int .u8) (.prod tI (.prod tI (.slice 127 (.prod tI (.prod tI (.prod tI tI)))))))) (.prod (.slice 3 tI) (.prod .bool (.prod .bool (.prod (.slice 109 (.prod tI (.prod tI (.prod tI .bool)))) (.prod tI (.prod tI tI)))))))))) (.prod (.prod (.slice 3 tI) (.prod (.prod (.slice 3 tI) (.slice 3 tI)) (.prod tI tI))) (.prod (.int .u64) (.slice 144 (.prod (.prod tI (.prod tI tI)) (.prod tI (.prod tI (.prod .bool (.prod tI (.int .u64))))))))))]
def Q28.rs : List (Bool × HT) := [(false, (.d tI))]
def Q28.lc : List AC := []
def Q28.D (N : Nat) : DFn := ⟨Q28.as, Q28.rs, Int, fun x => Q28 N x.1, fun r o => r.1, fun b => (b, ()), fun b => (), none⟩
theorem Q28.fit (N : Nat) : (Q28.D N).Fit := ⟨fun _ _ => rfl, fun _ _ => rfl, by kernel_rfl, (fun _ _ h => nomatch h), by kernel_rfl⟩
noncomputable def Q28.G (N : Nat) : Gam := gamOf []
def Q28.A : Nat → Option LoopAnn := fun _ => none
noncomputable def Q28.fin (N : Nat) : St → Option Int := resK tb Try.f28.results.toList (decRes (Q28.D N) Q28.lc)
theorem Q28.entry (N : Nat) (rec : List Item → St → Option Int) (x : (argH Q28.as).den) : seg tb (Q28.G N) Q28.A 0 rec (Q28.fin N) segFuel [.code (bodyOf Try.f28)] (initSt Try.f28 (encArgs Q28.as x) (encMem Q28.as x)) = Q28.e N x.1 := by kernel_rfl
theorem Q28.ok (N : Nat) : FnOk Try.prog 28 (Q28.D N) := by
 refine FnOk_of tb_ok (Checked.mixed Try.checked) ⟨Try.f28, Try.func28, by kernel_rfl, by kernel_rfl, fun x y h => ⟨Q28.G N, Q28.A, N, gamOf_ok (fun p hp => nomatch hp), ?_⟩⟩ (Q28.fit N)
 rw [absFn_n (n0 := 0) rfl (by kernel_rfl)]
 exact (Q28.entry N _ x).trans h
def Q57.as : List MK := [.d false tI, .d false tI]
def Q57.rs : List (Bool × HT) := [(false, (.d tI))]
def Q57.lc : List AC := []
def Q57.D (N : Nat) : DFn := ⟨Q57.as, Q57.rs, Int, fun x => Q57 N x.1 x.2.1, fun r o => r.1, fun b => (b, ()), fun b => (), none⟩
theorem Q57.fit (N : Nat) : (Q57.D N).Fit := ⟨fun _ _ => rfl, fun _ _ => rfl, by kernel_rfl, (fun _ _ h => nomatch h), by kernel_rfl⟩
noncomputable def Q57.G (N : Nat) : Gam := gamOf []
def Q57.A : Nat → Option LoopAnn := fun _ => none
noncomputable def Q57.fin (N : Nat) : St → Option Int := resK tb Try.f57.results.toList (decRes (Q57.D N) Q57.lc)
theorem Q57.entry (N : Nat) (rec : List Item → St → Option Int) (x : (argH Q57.as).den) : seg tb (Q57.G N) Q57.A 0 rec (Q57.fin N) segFuel [.code (bodyOf Try.f57)] (initSt Try.f57 (encArgs Q57.as x) (encMem Q57.as x)) = Q57.e N x.1 x.2.1 := by kernel_rfl
theorem Q57.ok (N : Nat) : FnOk Try.prog 57 (Q57.D N) := by
 refine FnOk_of tb_ok (Checked.mixed Try.checked) ⟨Try.f57, Try.func57, by kernel_rfl, by kernel_rfl, fun x y h => ⟨Q57.G N, Q57.A, N, gamOf_ok (fun p hp => nomatch hp), ?_⟩⟩ (Q57.fit N)
 rw [absFn_n (n0 := 0) rfl (by kernel_rfl)]
 exact (Q57.entry N _ x).trans h
def Q82.as : List MK := [.d false tI]
def Q82.rs : List (Bool × HT) := [(false, (.d tI))]
def Q82.lc : List AC := []
def Q82.D (N : Nat) : DFn := ⟨Q82.as, Q82.rs, Int, fun x => Q82 N x.1, fun r o => r.1, fun b => (b, ()), fun b => (), none⟩
theorem Q82.fit (N : Nat) : (Q82.D N).Fit := ⟨fun _ _ => rfl, fun _ _ => rfl, by kernel_rfl, (fun _ _ h => nomatch h), by kernel_rfl⟩
noncomputable def Q82.G (N : Nat) : Gam := gamOf []
def Q82.A : Nat → Option LoopAnn := fun k => bif Nat.beq k 0 then some ⟨[0, 3, 4], [], [], [], [], 0, false⟩ else none
noncomputable def Q82.fin (N : Nat) : St → Option Int := resK tb Try.f82.results.toList (decRes (Q82.D N) Q82.lc)
noncomputable def Q82.k0 : List Item := stackAt [.r, .r, .l, .b] (bodyOf Try.f82) []
def Q82.st0 (n_ low high : Int) : St := ⟨[.one (.int .i64 n_), .one .any, .one .any, .one (.int .i64 low), .one (.int .i64 high)] ++ List.replicate 18 (.one .any), []⟩
theorem Q82.step0 (N : Nat) (rec : List Item → St → Option Int) (n_ low high : Int) : seg tb (Q82.G N) Q82.A 0 rec (Q82.fin N) segFuel (loopBody Q82.k0) (Q82.st0 n_ low high) = Q82.s0 N n_ (fun low high => rec Q82.k0 (Q82.st0 n_ low high)) low high := by kernel_rfl
theorem Q82.entry (N : Nat) (rec : List Item → St → Option Int) (x : (argH Q82.as).den) : seg tb (Q82.G N) Q82.A 0 rec (Q82.fin N) segFuel [.code (bodyOf Try.f82)] (initSt Try.f82 (encArgs Q82.as x) (encMem Q82.as x)) = Q82.e N (fun low high => rec Q82.k0 (Q82.st0 x.1 low high)) x.1 := by kernel_rfl
theorem Q82.runs (N : Nat) (n_ : Int) : ∀ n, (∀ (low high : Int), run tb (Q82.G N) Q82.A 0 (Q82.fin N) n Q82.k0 (Q82.st0 n_ low high) = Q82.l0 N n_ n low high)
 | 0 => fun _ _ => rfl
 | n + 1 => by
  have h0 := Q82.runs N n_ n
  have e0 : (fun (low high : Int) => run tb (Q82.G N) Q82.A 0 (Q82.fin N) n Q82.k0 (Q82.st0 n_ low high)) = Q82.l0 N n_ n := by funext low high; exact h0 low high
  have g0 : (∀ (low high : Int), run tb (Q82.G N) Q82.A 0 (Q82.fin N) (n + 1) Q82.k0 (Q82.st0 n_ low high) = Q82.l0 N n_ (n + 1) low high) := by
   intro low high
   exact (run_succ (by kernel_rfl)).trans ((Q82.step0 N _ n_ low high).trans ((congrArg (fun r0 => Q82.s0 N n_ r0 low high) e0).trans (Q82.l0_s N n_ n low high).symm))
  exact g0
theorem Q82.ok (N : Nat) : FnOk Try.prog 82 (Q82.D N) := by
 refine FnOk_of tb_ok (Checked.mixed Try.checked) ⟨Try.f82, Try.func82, by kernel_rfl, by kernel_rfl, fun x y h => ⟨Q82.G N, Q82.A, N, gamOf_ok (fun p hp => nomatch hp), ?_⟩⟩ (Q82.fit N)
 rw [absFn_n (n0 := 0) rfl (by kernel_rfl)]
 refine (Q82.entry N (run tb (Q82.G N) Q82.A 0 (Q82.fin N) N) x).trans ?_
 have e0 : (fun (low high : Int) => run tb (Q82.G N) Q82.A 0 (Q82.fin N) N Q82.k0 (Q82.st0 x.1 low high)) = Q82.l0 N x.1 N := by funext low high; exact (Q82.runs N x.1 N) low high
 have h' : (Q82.D N).f x = Q82.e N (Q82.l0 N x.1 N) x.1 := by kernel_rfl
 exact (congrArg (fun r0 => Q82.e N r0 x.1) e0).trans (h'.symm.trans h)
def Q56.as : List MK := [.o (.nd 86 83 (.slice 41 (.prod tI (.prod tI tI))) (.prod tI tI)) true]
def Q56.rs : List (Bool × HT) := [(false, (.d tI))]
def Q56.lc (n_ : ((List (LMv × List Int × (Int × Int))) × Int)) : List AC := [.nr n_.2]
def Q56.D (N : Nat) : DFn := ⟨Q56.as, Q56.rs, (Int × ((List (LMv × List Int × (Int × Int))) × Int)), fun x => Q56 N x.1, fun r o => (r.1, o.1), fun b => (b.1, ()), fun b => (b.2, ()), none⟩
theorem Q56.fit (N : Nat) : (Q56.D N).Fit := ⟨fun _ _ => rfl, fun _ _ => rfl, by kernel_rfl, (fun _ _ h => nomatch h), by kernel_rfl⟩
noncomputable def Q56.G (N : Nat) : Gam := gamOf [(82, Q82.D N)]
def Q56.A : Nat → Option LoopAnn := fun k => bif Nat.beq k 0 then some ⟨[0, 3, 4, 16, 17, 18], [], [], [], [], 1, false⟩ else none
noncomputable def Q56.fin (N : Nat) (n_ : ((List (LMv × List Int × (Int × Int))) × Int)) : St → Option (Int × ((List (LMv × List Int × (Int × Int))) × Int)) := resK tb Try.f56.results.toList (decRes (Q56.D N) (Q56.lc n_))
noncomputable def Q56.k0 : List Item := stackAt [.r, .r, .r, .l, .r, .b] (bodyOf Try.f56) []
def Q56.st0 (n_ : ((List (LMv × List Int × (Int × Int))) × Int)) (best bonus t17_ t18_ : Int) : St := ⟨[.one (.nr n_.2), .one .any, .one .any, .one (.int .i64 best), .one (.int .i64 bonus)] ++ List.replicate 11 (.one .any) ++ [.one (.kd n_.2 ((gD (([] : LMv), ([] : List Int), ((0 : Int), (0 : Int))) n_.1 n_.2).2.1.length : Int)), .one (.int .i64 t17_), .one (.int .i64 t18_)] ++ List.replicate 54 (.one .any), [.arena 86 83 (.slice 41 (.prod tI (.prod tI tI))) (.prod tI tI) n_.1 none]⟩
theorem Q56.step0 (N : Nat) (rec : List Item → St → Option (Int × ((List (LMv × List Int × (Int × Int))) × Int))) (n_ : ((List (LMv × List Int × (Int × Int))) × Int)) (best bonus t17_ t18_ : Int) : seg tb (Q56.G N) Q56.A 1 rec (Q56.fin N n_) segFuel (loopBody Q56.k0) (Q56.st0 n_ best bonus t17_ t18_) = Q56.s0 N n_ (fun best bonus t17_ t18_ => rec Q56.k0 (Q56.st0 n_ best bonus t17_ t18_)) best bonus t17_ t18_ := by kernel_rfl
theorem Q56.entry (N : Nat) (rec : List Item → St → Option (Int × ((List (LMv × List Int × (Int × Int))) × Int))) (x : (argH Q56.as).den) : seg tb (Q56.G N) Q56.A 1 rec (Q56.fin N x.1) segFuel [.code (bodyOf Try.f56)] (initSt Try.f56 (encArgs Q56.as x) (encMem Q56.as x)) = Q56.e N (fun best bonus t17_ t18_ => rec Q56.k0 (Q56.st0 x.1 best bonus t17_ t18_)) x.1 := by kernel_rfl
theorem Q56.runs (N : Nat) (n_ : ((List (LMv × List Int × (Int × Int))) × Int)) : ∀ n, (∀ (best bonus t17_ t18_ : Int), run tb (Q56.G N) Q56.A 1 (Q56.fin N n_) n Q56.k0 (Q56.st0 n_ best bonus t17_ t18_) = Q56.l0 N n_ n best bonus t17_ t18_)
 | 0 => fun _ _ _ _ => rfl
 | n + 1 => by
  have h0 := Q56.runs N n_ n
  have e0 : (fun (best bonus t17_ t18_ : Int) => run tb (Q56.G N) Q56.A 1 (Q56.fin N n_) n Q56.k0 (Q56.st0 n_ best bonus t17_ t18_)) = Q56.l0 N n_ n := by funext best bonus t17_ t18_; exact h0 best bonus t17_ t18_
  have g0 : (∀ (best bonus t17_ t18_ : Int), run tb (Q56.G N) Q56.A 1 (Q56.fin N n_) (n + 1) Q56.k0 (Q56.st0 n_ best bonus t17_ t18_) = Q56.l0 N n_ (n + 1) best bonus t17_ t18_) := by
   intro best bonus t17_ t18_
   exact (run_succ (by kernel_rfl)).trans ((Q56.step0 N _ n_ best bonus t17_ t18_).trans ((congrArg (fun r0 => Q56.s0 N n_ r0 best bonus t17_ t18_) e0).trans (Q56.l0_s N n_ n best bonus t17_ t18_).symm))
  exact g0
theorem Q56.ok (N : Nat) : FnOk Try.prog 56 (Q56.D N) := by
 refine FnOk_of tb_ok (Checked.mixed Try.checked) ⟨Try.f56, Try.func56, by kernel_rfl, by kernel_rfl, fun x y h => ⟨Q56.G N, Q56.A, N, gamOf_ok (by simp only [List.forall_mem_cons, List.not_mem_nil, false_implies, implies_true, and_true]; exact ⟨Q82.ok N, Q82.fit N⟩), ?_⟩⟩ (Q56.fit N)
 rw [absFn_n (n0 := 1) rfl (by kernel_rfl)]
 refine (Q56.entry N (run tb (Q56.G N) Q56.A 1 (Q56.fin N x.1) N) x).trans ?_
 have e0 : (fun (best bonus t17_ t18_ : Int) => run tb (Q56.G N) Q56.A 1 (Q56.fin N x.1) N Q56.k0 (Q56.st0 x.1 best bonus t17_ t18_)) = Q56.l0 N x.1 N := by funext best bonus t17_ t18_; exact (Q56.runs N x.1 N) best bonus t17_ t18_
 have h' : (Q56.D N).f x = Q56.e N (Q56.l0 N x.1 N) x.1 := by kernel_rfl
 exact (congrArg (fun r0 => Q56.e N r0 x.1) e0).trans (h'.symm.trans h)
def Q33.as : List MK := [.o (.ptr 82 (.prod (.ptr 115 (.prod (.prod (.d .str) (.prod (.d tI) (.prod (.d tI) (.prod (.own 107 (.prod (.int .u8) (.prod tI (.prod tI (.slice 127 (.prod tI (.prod tI (.prod tI tI)))))))) (.prod (.own 3 tI) (.prod (.d .bool) (.prod (.d .bool) (.prod (.own 109 (.prod tI (.prod tI (.prod tI .bool)))) (.d (.prod tI (.prod tI tI))))))))))) (.prod (.prod (.own 3 tI) (.prod (.prod (.own 3 tI) (.own 3 tI)) (.d (.prod tI tI)))) (.prod (.d (.int .u64)) (.own 144 (.prod (.prod tI (.prod tI tI)) (.prod tI (.prod tI (.prod .bool (.prod tI (.int .u64))))))))))) (.ptr 90 (.d tI)))) true, .o (.nd 86 83 (.slice 41 (.prod tI (.prod tI tI))) (.prod tI tI)) true]
def Q33.rs : List (Bool × HT) := [(false, (.d tI))]
def Q33.lc (x_ : (TBoard × Int)) (n_ : ((List (LMv × List Int × (Int × Int))) × Int)) : List AC := [.ptr 0 0, .nr n_.2]
def Q33.D (N : Nat) : DFn := ⟨Q33.as, Q33.rs, (Int × (TBoard × Int) × ((List (LMv × List Int × (Int × Int))) × Int)), fun x => Q33 N x.1 x.2.1, fun r o => (r.1, o.1, o.2.1), fun b => (b.1, ()), fun b => (b.2.1, (b.2.2, ())), some [1, 9]⟩
theorem Q33.fit (N : Nat) : (Q33.D N).Fit := ⟨fun _ _ => rfl, fun _ _ => rfl, by kernel_rfl, (fun x L h => by cases h; kernel_rfl), by kernel_rfl⟩
noncomputable def Q33.G (N : Nat) : Gam := gamOf [(55, Q55.D N), (28, Q28.D N), (57, Q57.D N), (32, Q32.D N), (34, Q34.D N), (56, Q56.D N), (50, Q50.D N), (51, Q51.D N), (33, Q33.D N)]
def Q33.A : Nat → Option LoopAnn := fun k => bif Nat.beq k 1 then some ⟨[0, 1, 24, 25], [], [], [(false, 1000000, 0, 12)], [], 13, false⟩ else bif Nat.beq k 3000050 then some ⟨[], [], [], [], [], 0, false⟩ else none
noncomputable def Q33.fin (N : Nat) (x_ : (TBoard × Int)) (n_ : ((List (LMv × List Int × (Int × Int))) × Int)) : St → Option (Int × (TBoard × Int) × ((List (LMv × List Int × (Int × Int))) × Int)) := resK tb Try.f33.results.toList (decRes (Q33.D (N + 1)) (Q33.lc x_ n_))
noncomputable def Q33.k0 : List Item := stackAt [.r, .r, .l, .b, .r, .e, .l, .r, .t, .r, .r, .b] (bodyOf Try.f33) []
def Q33.st0 (x_ : (TBoard × Int)) (n_ : ((List (LMv × List Int × (Int × Int))) × Int)) (t24_ t25_ : Int) (nodes : (List (LMv × List Int × (Int × Int)))) : St := ⟨[.one (.ptr 0 0), .one (.nr n_.2)] ++ List.replicate 22 (.one .any) ++ [.one (.int .i64 t24_), .one (.int .i64 t25_)] ++ List.replicate 80 (.one .any), [.var 82 [.ptr 1 0, .ptr 9 0], .var 115 [.str x_.1.1.1, .int .i64 x_.1.1.2.1, .int .i64 x_.1.1.2.2.1, .own 2, .own 3, .bool x_.1.1.2.2.2.2.2.1, .bool x_.1.1.2.2.2.2.2.2.1, .own 4, .int .i64 x_.1.1.2.2.2.2.2.2.2.2.1, .int .i64 x_.1.1.2.2.2.2.2.2.2.2.2.1, .int .i64 x_.1.1.2.2.2.2.2.2.2.2.2.2, .own 5, .own 6, .own 7, .int .i64 x_.1.2.1.2.2.1, .int .i64 x_.1.2.1.2.2.2, .int .u64 x_.1.2.2.1, .own 8], .row 107 (.prod (.int .u8) (.prod tI (.prod tI (.slice 127 (.prod tI (.prod tI (.prod tI tI))))))) x_.1.1.2.2.2.1, .row 3 tI x_.1.1.2.2.2.2.1, .row 109 (.prod tI (.prod tI (.prod tI .bool))) x_.1.1.2.2.2.2.2.2.2.1, .row 3 tI x_.1.2.1.1, .row 3 tI x_.1.2.1.2.1.1, .row 3 tI x_.1.2.1.2.1.2, .row 144 (.prod (.prod tI (.prod tI tI)) (.prod tI (.prod tI (.prod .bool (.prod tI (.int .u64)))))) x_.1.2.2.2, .var 90 [.int .i64 x_.2], .gone, .gone, .arena 86 83 (.slice 41 (.prod tI (.prod tI tI))) (.prod tI tI) nodes none]⟩
theorem Q33.step0 (N : Nat) (rec : List Item → St → Option (Int × (TBoard × Int) × ((List (LMv × List Int × (Int × Int))) × Int))) (x_ : (TBoard × Int)) (n_ : ((List (LMv × List Int × (Int × Int))) × Int)) (t24_ t25_ : Int) (nodes : (List (LMv × List Int × (Int × Int)))) : seg tb (Q33.G N) Q33.A 11 rec (Q33.fin N x_ n_) segFuel (loopBody Q33.k0) (Q33.st0 x_ n_ t24_ t25_ nodes) = Q33.s0 N (Q33 N) x_ n_ (fun t24_ t25_ nodes => rec Q33.k0 (Q33.st0 x_ n_ t24_ t25_ nodes)) t24_ t25_ nodes := by kernel_rfl
theorem Q33.entry (N : Nat) (rec : List Item → St → Option (Int × (TBoard × Int) × ((List (LMv × List Int × (Int × Int))) × Int))) (x : (argH Q33.as).den) : seg tb (Q33.G N) Q33.A 11 rec (Q33.fin N x.1 x.2.1) segFuel [.code (bodyOf Try.f33)] (initSt Try.f33 (encArgs Q33.as x) (encMem Q33.as x)) = Q33.e N (Q33 N) (fun t24_ t25_ nodes => rec Q33.k0 (Q33.st0 x.1 x.2.1 t24_ t25_ nodes)) x.1 x.2.1 := by kernel_rfl
theorem Q33.runs (N : Nat) (x_ : (TBoard × Int)) (n_ : ((List (LMv × List Int × (Int × Int))) × Int)) : ∀ n, (∀ (t24_ t25_ : Int) (nodes : (List (LMv × List Int × (Int × Int)))), run tb (Q33.G N) Q33.A 11 (Q33.fin N x_ n_) n Q33.k0 (Q33.st0 x_ n_ t24_ t25_ nodes) = Q33.l0 N (Q33 N) x_ n_ n t24_ t25_ nodes)
 | 0 => fun _ _ _ => rfl
 | n + 1 => by
  have h0 := Q33.runs N x_ n_ n
  have e0 : (fun (t24_ t25_ : Int) (nodes : (List (LMv × List Int × (Int × Int)))) => run tb (Q33.G N) Q33.A 11 (Q33.fin N x_ n_) n Q33.k0 (Q33.st0 x_ n_ t24_ t25_ nodes)) = Q33.l0 N (Q33 N) x_ n_ n := by funext t24_ t25_ nodes; exact h0 t24_ t25_ nodes
  have g0 : (∀ (t24_ t25_ : Int) (nodes : (List (LMv × List Int × (Int × Int)))), run tb (Q33.G N) Q33.A 11 (Q33.fin N x_ n_) (n + 1) Q33.k0 (Q33.st0 x_ n_ t24_ t25_ nodes) = Q33.l0 N (Q33 N) x_ n_ (n + 1) t24_ t25_ nodes) := by
   intro t24_ t25_ nodes
   exact (run_succ (by kernel_rfl)).trans ((Q33.step0 N _ x_ n_ t24_ t25_ nodes).trans ((congrArg (fun r0 => Q33.s0 N (Q33 N) x_ n_ r0 t24_ t25_ nodes) e0).trans (Q33.l0_s N (Q33 N) x_ n_ n t24_ t25_ nodes).symm))
  exact g0
theorem Q33.ok1 (N : Nat) (ih : FnOk Try.prog 33 (Q33.D N)) : FnOk Try.prog 33 (Q33.D (N + 1)) := by
 refine FnOk_of tb_ok (Checked.mixed Try.checked) ⟨Try.f33, Try.func33, by kernel_rfl, by kernel_rfl, fun x y h => ⟨Q33.G N, Q33.A, N, gamOf_ok (by simp only [List.forall_mem_cons, List.not_mem_nil, false_implies, implies_true, and_true]; exact ⟨⟨Q55.ok N, Q55.fit N⟩, ⟨Q28.ok N, Q28.fit N⟩, ⟨Q57.ok N, Q57.fit N⟩, ⟨Q32.ok N, Q32.fit N⟩, ⟨Q34.ok N, Q34.fit N⟩, ⟨Q56.ok N, Q56.fit N⟩, ⟨Q50.ok N, Q50.fit N⟩, ⟨Q51.ok N, Q51.fit N⟩, ⟨ih, Q33.fit N⟩⟩), ?_⟩⟩ (Q33.fit (N + 1))
 rw [absFn_n (n0 := 11) rfl (by kernel_rfl)]
 refine (Q33.entry N (run tb (Q33.G N) Q33.A 11 (Q33.fin N x.1 x.2.1) N) x).trans ?_
 have e0 : (fun (t24_ t25_ : Int) (nodes : (List (LMv × List Int × (Int × Int)))) => run tb (Q33.G N) Q33.A 11 (Q33.fin N x.1 x.2.1) N Q33.k0 (Q33.st0 x.1 x.2.1 t24_ t25_ nodes)) = Q33.l0 N (Q33 N) x.1 x.2.1 N := by funext t24_ t25_ nodes; exact (Q33.runs N x.1 x.2.1 N) t24_ t25_ nodes
 have h' : (Q33.D (N + 1)).f x = Q33.e N (Q33 N) (Q33.l0 N (Q33 N) x.1 x.2.1 N) x.1 x.2.1 := by kernel_rfl
 exact (congrArg (fun r0 => Q33.e N (Q33 N) r0 x.1 x.2.1) e0).trans (h'.symm.trans h)
theorem Q33.ok : ∀ N, FnOk Try.prog 33 (Q33.D N)
 | 0 => FnOk_none Try.func33 (by kernel_rfl) (by kernel_rfl) (fun x => rfl)
 | N + 1 => Q33.ok1 N (Q33.ok N)
def Q12.as : List MK := [.d true (.prod .str (.prod tI (.prod tI (.prod (.slice 107 (.prod (.int .u8) (.prod tI (.prod tI (.slice 127 (.prod tI (.prod tI (.prod tI tI)))))))) (.prod (.slice 3 tI) (.prod .bool (.prod .bool (.prod (.slice 109 (.prod tI (.prod tI (.prod tI .bool)))) (.prod tI (.prod tI tI)))))))))), .d true (.prod (.slice 3 tI) (.prod (.prod (.slice 3 tI) (.slice 3 tI)) (.prod tI tI))), .d false tI, .d false tI]
def Q12.rs : List (Bool × HT) := [(false, (.own 43 (.prod (.prod tI (.prod tI tI)) (.prod tI tI)))), (false, (.d tI))]
def Q12.lc : List AC := []
def Q12.D (N : Nat) : DFn := ⟨Q12.as, Q12.rs, ((List (TMv × (Int × Int))) × Int), fun x => Q12 N x.1 x.2.1 x.2.2.1 x.2.2.2.1, fun r o => (r.1, r.2.1), fun b => (b.1, (b.2, ())), fun b => (), none⟩
theorem Q12.fit (N : Nat) : (Q12.D N).Fit := ⟨fun _ _ => rfl, fun _ _ => rfl, by kernel_rfl, (fun _ _ h => nomatch h), by kernel_rfl⟩
noncomputable def Q12.G (N : Nat) : Gam := gamOf [(27, Q27.D N), (13, Q13.D N), (32, Q32.D N), (33, Q33.D N), (34, Q34.D N)]
def Q12.A : Nat → Option LoopAnn := fun k => bif Nat.beq k 1 then some ⟨[10, 13, 14, 54, 55], [], [(12, 0, 0), (12, 1, 0)], [(true, 3, 3, 4), (true, 3, 4, 5), (true, 3, 7, 6), (true, 3, 11, 7), (true, 3, 12, 8), (true, 3, 13, 9), (true, 3, 17, 10), (false, 1000000, 0, 14)], [1, 2], 15, false⟩ else bif Nat.beq k 3 then some ⟨[14, 15, 62, 63, 64], [(15, 43)], [], [(false, 15, 0, 16)], [3, 4, 5, 6, 7, 8, 9, 10, 11, 12], 17, false⟩ else none
noncomputable def Q12.fin (N : Nat) : St → Option ((List (TMv × (Int × Int))) × Int) := resK tb Try.f12.results.toList (decRes (Q12.D N) Q12.lc)
noncomputable def Q12.k0 : List Item := stackAt [.r, .r, .r, .r, .r, .r, .r, .l, .r, .b] (bodyOf Try.f12) []
def Q12.st0 (r_ : TRules) (p_ : TPos) (seed steps t55_ : Int) (b_ : ByteArray) (b_2 b_3 : Int) (b_4 b_5 : Bool) (b_6 b_7 b_8 b_9 b_10 b_11 : Int) (m4_ : (List TPiece)) (m5_ : LInt) (m6_ : (List TEnd)) (m7_ m8_ m9_ : LInt) (m10_ : (List TUndo)) (m11_ : Int) (nodes : (List (LMv × List Int × (Int × Int)))) : St := ⟨List.replicate 10 (.one .any) ++ [.one (.ptr 3 0), .one .any, .one .any, .one (.ptr 12 0), .one (.np 0 0)] ++ List.replicate 39 (.one .any) ++ [.one (.int .i64 steps), .one (.int .i64 t55_)] ++ List.replicate 48 (.one .any), [.gone, .gone, .gone, .var 115 [.str b_, .int .i64 b_2, .int .i64 b_3, .own 4, .own 5, .bool b_4, .bool b_5, .own 6, .int .i64 b_6, .int .i64 b_7, .int .i64 b_8, .own 7, .own 8, .own 9, .int .i64 b_9, .int .i64 b_10, .int .u64 b_11, .own 10], .row 107 (.prod (.int .u8) (.prod tI (.prod tI (.slice 127 (.prod tI (.prod tI (.prod tI tI))))))) m4_, .row 3 tI m5_, .row 109 (.prod tI (.prod tI (.prod tI .bool))) m6_, .row 3 tI m7_, .row 3 tI m8_, .row 3 tI m9_, .row 144 (.prod (.prod tI (.prod tI tI)) (.prod tI (.prod tI (.prod .bool (.prod tI (.int .u64)))))) m10_, .var 90 [.int .i64 m11_], .var 82 [.ptr 3 0, .ptr 11 0], .gone, .arena 86 83 (.slice 41 (.prod tI (.prod tI tI))) (.prod tI tI) nodes none]⟩
noncomputable def Q12.k1 : List Item := stackAt [.r, .r, .r, .r, .r, .r, .r, .r, .r, .l, .r, .b] (bodyOf Try.f12) []
def Q12.st1 (r_ : TRules) (p_ : TPos) (seed steps t63_ t64_ : Int) (nodes : (List (LMv × List Int × (Int × Int)))) (m15_ : LMv) (out : (List (TMv × (Int × Int)))) : St := ⟨List.replicate 14 (.one .any) ++ [.one (.np 0 0), .one (.own 16)] ++ List.replicate 46 (.one .any) ++ [.one (.own 15), .one (.int .i64 t63_), .one (.int .i64 t64_)] ++ List.replicate 39 (.one .any), [.gone, .gone, .gone, .gone, .gone, .gone, .gone, .gone, .gone, .gone, .gone, .gone, .gone, .gone, .arena 86 83 (.slice 41 (.prod tI (.prod tI tI))) (.prod tI tI) nodes none, .row 41 (.prod tI (.prod tI tI)) m15_, .row 43 (.prod (.prod tI (.prod tI tI)) (.prod tI tI)) out]⟩
theorem Q12.step0 (N : Nat) (rec : List Item → St → Option ((List (TMv × (Int × Int))) × Int)) (r_ : TRules) (p_ : TPos) (seed steps t55_ : Int) (b_ : ByteArray) (b_2 b_3 : Int) (b_4 b_5 : Bool) (b_6 b_7 b_8 b_9 b_10 b_11 : Int) (m4_ : (List TPiece)) (m5_ : LInt) (m6_ : (List TEnd)) (m7_ m8_ m9_ : LInt) (m10_ : (List TUndo)) (m11_ : Int) (nodes : (List (LMv × List Int × (Int × Int)))) : seg tb (Q12.G N) Q12.A 1 rec (Q12.fin N) segFuel (loopBody Q12.k0) (Q12.st0 r_ p_ seed steps t55_ b_ b_2 b_3 b_4 b_5 b_6 b_7 b_8 b_9 b_10 b_11 m4_ m5_ m6_ m7_ m8_ m9_ m10_ m11_ nodes) = Q12.s0 N r_ p_ seed steps (fun t55_ b_ b_2 b_3 b_4 b_5 b_6 b_7 b_8 b_9 b_10 b_11 m4_ m5_ m6_ m7_ m8_ m9_ m10_ m11_ nodes => rec Q12.k0 (Q12.st0 r_ p_ seed steps t55_ b_ b_2 b_3 b_4 b_5 b_6 b_7 b_8 b_9 b_10 b_11 m4_ m5_ m6_ m7_ m8_ m9_ m10_ m11_ nodes)) (fun t63_ t64_ nodes m15_ out => rec Q12.k1 (Q12.st1 r_ p_ seed steps t63_ t64_ nodes m15_ out)) t55_ b_ b_2 b_3 b_4 b_5 b_6 b_7 b_8 b_9 b_10 b_11 m4_ m5_ m6_ m7_ m8_ m9_ m10_ m11_ nodes := by kernel_rfl
theorem Q12.step1 (N : Nat) (rec : List Item → St → Option ((List (TMv × (Int × Int))) × Int)) (r_ : TRules) (p_ : TPos) (seed steps t63_ t64_ : Int) (nodes : (List (LMv × List Int × (Int × Int)))) (m15_ : LMv) (out : (List (TMv × (Int × Int)))) : seg tb (Q12.G N) Q12.A 1 rec (Q12.fin N) segFuel (loopBody Q12.k1) (Q12.st1 r_ p_ seed steps t63_ t64_ nodes m15_ out) = Q12.s1 N r_ p_ seed steps (fun t55_ b_ b_2 b_3 b_4 b_5 b_6 b_7 b_8 b_9 b_10 b_11 m4_ m5_ m6_ m7_ m8_ m9_ m10_ m11_ nodes => rec Q12.k0 (Q12.st0 r_ p_ seed steps t55_ b_ b_2 b_3 b_4 b_5 b_6 b_7 b_8 b_9 b_10 b_11 m4_ m5_ m6_ m7_ m8_ m9_ m10_ m11_ nodes)) (fun t63_ t64_ nodes m15_ out => rec Q12.k1 (Q12.st1 r_ p_ seed steps t63_ t64_ nodes m15_ out)) t63_ t64_ nodes m15_ out := by kernel_rfl
theorem Q12.entry (N : Nat) (rec : List Item → St → Option ((List (TMv × (Int × Int))) × Int)) (x : (argH Q12.as).den) : seg tb (Q12.G N) Q12.A 1 rec (Q12.fin N) segFuel [.code (bodyOf Try.f12)] (initSt Try.f12 (encArgs Q12.as x) (encMem Q12.as x ++ [.arena 86 83 (.slice 41 (.prod tI (.prod tI tI))) (.prod tI tI) [] none])) = Q12.e N (fun t55_ b_ b_2 b_3 b_4 b_5 b_6 b_7 b_8 b_9 b_10 b_11 m4_ m5_ m6_ m7_ m8_ m9_ m10_ m11_ nodes => rec Q12.k0 (Q12.st0 x.1 x.2.1 x.2.2.1 x.2.2.2.1 t55_ b_ b_2 b_3 b_4 b_5 b_6 b_7 b_8 b_9 b_10 b_11 m4_ m5_ m6_ m7_ m8_ m9_ m10_ m11_ nodes)) (fun t63_ t64_ nodes m15_ out => rec Q12.k1 (Q12.st1 x.1 x.2.1 x.2.2.1 x.2.2.2.1 t63_ t64_ nodes m15_ out)) x.1 x.2.1 x.2.2.1 x.2.2.2.1 := by kernel_rfl
theorem Q12.runs (N : Nat) (r_ : TRules) (p_ : TPos) (seed steps : Int) : ∀ n, (∀ (t55_ : Int) (b_ : ByteArray) (b_2 b_3 : Int) (b_4 b_5 : Bool) (b_6 b_7 b_8 b_9 b_10 b_11 : Int) (m4_ : (List TPiece)) (m5_ : LInt) (m6_ : (List TEnd)) (m7_ m8_ m9_ : LInt) (m10_ : (List TUndo)) (m11_ : Int) (nodes : (List (LMv × List Int × (Int × Int)))), run tb (Q12.G N) Q12.A 1 (Q12.fin N) n Q12.k0 (Q12.st0 r_ p_ seed steps t55_ b_ b_2 b_3 b_4 b_5 b_6 b_7 b_8 b_9 b_10 b_11 m4_ m5_ m6_ m7_ m8_ m9_ m10_ m11_ nodes) = Q12.l0 N r_ p_ seed steps n t55_ b_ b_2 b_3 b_4 b_5 b_6 b_7 b_8 b_9 b_10 b_11 m4_ m5_ m6_ m7_ m8_ m9_ m10_ m11_ nodes) ∧ (∀ (t63_ t64_ : Int) (nodes : (List (LMv × List Int × (Int × Int)))) (m15_ : LMv) (out : (List (TMv × (Int × Int)))), run tb (Q12.G N) Q12.A 1 (Q12.fin N) n Q12.k1 (Q12.st1 r_ p_ seed steps t63_ t64_ nodes m15_ out) = Q12.l1 N r_ p_ seed steps n t63_ t64_ nodes m15_ out)
 | 0 => ⟨fun _ _ _ _ _ _ _ _ _ _ _ _ _ _ _ _ _ _ _ _ _ => rfl, fun _ _ _ _ _ => rfl⟩
 | n + 1 => by
  obtain ⟨h0, h1⟩ := Q12.runs N r_ p_ seed steps n
  have e0 : (fun (t55_ : Int) (b_ : ByteArray) (b_2 b_3 : Int) (b_4 b_5 : Bool) (b_6 b_7 b_8 b_9 b_10 b_11 : Int) (m4_ : (List TPiece)) (m5_ : LInt) (m6_ : (List TEnd)) (m7_ m8_ m9_ : LInt) (m10_ : (List TUndo)) (m11_ : Int) (nodes : (List (LMv × List Int × (Int × Int)))) => run tb (Q12.G N) Q12.A 1 (Q12.fin N) n Q12.k0 (Q12.st0 r_ p_ seed steps t55_ b_ b_2 b_3 b_4 b_5 b_6 b_7 b_8 b_9 b_10 b_11 m4_ m5_ m6_ m7_ m8_ m9_ m10_ m11_ nodes)) = Q12.l0 N r_ p_ seed steps n := by funext t55_ b_ b_2 b_3 b_4 b_5 b_6 b_7 b_8 b_9 b_10 b_11 m4_ m5_ m6_ m7_ m8_ m9_ m10_ m11_ nodes; exact h0 t55_ b_ b_2 b_3 b_4 b_5 b_6 b_7 b_8 b_9 b_10 b_11 m4_ m5_ m6_ m7_ m8_ m9_ m10_ m11_ nodes
  have e1 : (fun (t63_ t64_ : Int) (nodes : (List (LMv × List Int × (Int × Int)))) (m15_ : LMv) (out : (List (TMv × (Int × Int)))) => run tb (Q12.G N) Q12.A 1 (Q12.fin N) n Q12.k1 (Q12.st1 r_ p_ seed steps t63_ t64_ nodes m15_ out)) = Q12.l1 N r_ p_ seed steps n := by funext t63_ t64_ nodes m15_ out; exact h1 t63_ t64_ nodes m15_ out
  have g0 : (∀ (t55_ : Int) (b_ : ByteArray) (b_2 b_3 : Int) (b_4 b_5 : Bool) (b_6 b_7 b_8 b_9 b_10 b_11 : Int) (m4_ : (List TPiece)) (m5_ : LInt) (m6_ : (List TEnd)) (m7_ m8_ m9_ : LInt) (m10_ : (List TUndo)) (m11_ : Int) (nodes : (List (LMv × List Int × (Int × Int)))), run tb (Q12.G N) Q12.A 1 (Q12.fin N) (n + 1) Q12.k0 (Q12.st0 r_ p_ seed steps t55_ b_ b_2 b_3 b_4 b_5 b_6 b_7 b_8 b_9 b_10 b_11 m4_ m5_ m6_ m7_ m8_ m9_ m10_ m11_ nodes) = Q12.l0 N r_ p_ seed steps (n + 1) t55_ b_ b_2 b_3 b_4 b_5 b_6 b_7 b_8 b_9 b_10 b_11 m4_ m5_ m6_ m7_ m8_ m9_ m10_ m11_ nodes) := by
   intro t55_ b_ b_2 b_3 b_4 b_5 b_6 b_7 b_8 b_9 b_10 b_11 m4_ m5_ m6_ m7_ m8_ m9_ m10_ m11_ nodes
   exact (run_succ (by kernel_rfl)).trans ((Q12.step0 N _ r_ p_ seed steps t55_ b_ b_2 b_3 b_4 b_5 b_6 b_7 b_8 b_9 b_10 b_11 m4_ m5_ m6_ m7_ m8_ m9_ m10_ m11_ nodes).trans ((congr (congrArg (fun r0 r1 => Q12.s0 N r_ p_ seed steps r0 r1 t55_ b_ b_2 b_3 b_4 b_5 b_6 b_7 b_8 b_9 b_10 b_11 m4_ m5_ m6_ m7_ m8_ m9_ m10_ m11_ nodes) e0) e1).trans (Q12.l0_s N r_ p_ seed steps n t55_ b_ b_2 b_3 b_4 b_5 b_6 b_7 b_8 b_9 b_10 b_11 m4_ m5_ m6_ m7_ m8_ m9_ m10_ m11_ nodes).symm))
  have g1 : (∀ (t63_ t64_ : Int) (nodes : (List (LMv × List Int × (Int × Int)))) (m15_ : LMv) (out : (List (TMv × (Int × Int)))), run tb (Q12.G N) Q12.A 1 (Q12.fin N) (n + 1) Q12.k1 (Q12.st1 r_ p_ seed steps t63_ t64_ nodes m15_ out) = Q12.l1 N r_ p_ seed steps (n + 1) t63_ t64_ nodes m15_ out) := by
   intro t63_ t64_ nodes m15_ out
   exact (run_succ (by kernel_rfl)).trans ((Q12.step1 N _ r_ p_ seed steps t63_ t64_ nodes m15_ out).trans ((congr (congrArg (fun r0 r1 => Q12.s1 N r_ p_ seed steps r0 r1 t63_ t64_ nodes m15_ out) e0) e1).trans (Q12.l1_s N r_ p_ seed steps n t63_ t64_ nodes m15_ out).symm))
  exact ⟨g0, g1⟩
theorem Q12.ok (N : Nat) : FnOk Try.prog 12 (Q12.D N) := by
 refine FnOk_ofA (T := 86) (e := 83) (a := (.slice 41 (.prod tI (.prod tI tI)))) (b := (.prod tI tI)) tb_ok (Checked.mixed Try.checked) ⟨⟨by kernel_rfl, by kernel_rfl⟩, Try.f12, Try.func12, by kernel_rfl, by kernel_rfl, fun x y h => ⟨Q12.G N, Q12.A, N, gamOf_ok (by simp only [List.forall_mem_cons, List.not_mem_nil, false_implies, implies_true, and_true]; exact ⟨⟨Q27.ok N, Q27.fit N⟩, ⟨Q13.ok N, Q13.fit N⟩, ⟨Q32.ok N, Q32.fit N⟩, ⟨Q33.ok N, Q33.fit N⟩, ⟨Q34.ok N, Q34.fit N⟩⟩), ?_⟩⟩ (Q12.fit N)
 rw [absFn_n (n0 := 1) rfl (by kernel_rfl)]
 refine (Q12.entry N (run tb (Q12.G N) Q12.A 1 (Q12.fin N) N) x).trans ?_
 have e0 : (fun (t55_ : Int) (b_ : ByteArray) (b_2 b_3 : Int) (b_4 b_5 : Bool) (b_6 b_7 b_8 b_9 b_10 b_11 : Int) (m4_ : (List TPiece)) (m5_ : LInt) (m6_ : (List TEnd)) (m7_ m8_ m9_ : LInt) (m10_ : (List TUndo)) (m11_ : Int) (nodes : (List (LMv × List Int × (Int × Int)))) => run tb (Q12.G N) Q12.A 1 (Q12.fin N) N Q12.k0 (Q12.st0 x.1 x.2.1 x.2.2.1 x.2.2.2.1 t55_ b_ b_2 b_3 b_4 b_5 b_6 b_7 b_8 b_9 b_10 b_11 m4_ m5_ m6_ m7_ m8_ m9_ m10_ m11_ nodes)) = Q12.l0 N x.1 x.2.1 x.2.2.1 x.2.2.2.1 N := by funext t55_ b_ b_2 b_3 b_4 b_5 b_6 b_7 b_8 b_9 b_10 b_11 m4_ m5_ m6_ m7_ m8_ m9_ m10_ m11_ nodes; exact (Q12.runs N x.1 x.2.1 x.2.2.1 x.2.2.2.1 N).1 t55_ b_ b_2 b_3 b_4 b_5 b_6 b_7 b_8 b_9 b_10 b_11 m4_ m5_ m6_ m7_ m8_ m9_ m10_ m11_ nodes
 have e1 : (fun (t63_ t64_ : Int) (nodes : (List (LMv × List Int × (Int × Int)))) (m15_ : LMv) (out : (List (TMv × (Int × Int)))) => run tb (Q12.G N) Q12.A 1 (Q12.fin N) N Q12.k1 (Q12.st1 x.1 x.2.1 x.2.2.1 x.2.2.2.1 t63_ t64_ nodes m15_ out)) = Q12.l1 N x.1 x.2.1 x.2.2.1 x.2.2.2.1 N := by funext t63_ t64_ nodes m15_ out; exact (Q12.runs N x.1 x.2.1 x.2.2.1 x.2.2.2.1 N).2 t63_ t64_ nodes m15_ out
 have h' : (Q12.D N).f x = Q12.e N (Q12.l0 N x.1 x.2.1 x.2.2.1 x.2.2.2.1 N) (Q12.l1 N x.1 x.2.1 x.2.2.1 x.2.2.2.1 N) x.1 x.2.1 x.2.2.1 x.2.2.2.1 := by kernel_rfl
 exact (congr (congrArg (fun r0 r1 => Q12.e N r0 r1 x.1 x.2.1 x.2.2.1 x.2.2.2.1) e0) e1).trans (h'.symm.trans h)
def Q31.as : List MK := [.d true (.prod .str (.prod tI (.prod tI (.prod (.slice 107 (.prod (.int .u8) (.prod tI (.prod tI (.slice 127 (.prod tI (.prod tI (.prod tI tI)))))))) (.prod (.slice 3 tI) (.prod .bool (.prod .bool (.prod (.slice 109 (.prod tI (.prod tI (.prod tI .bool)))) (.prod tI (.prod tI tI)))))))))), .d true (.prod (.slice 3 tI) (.prod (.prod (.slice 3 tI) (.slice 3 tI)) (.prod tI tI))), .d false tI, .d false tI]
def Q31.rs : List (Bool × HT) := [(true, (.d (.prod tI (.prod tI tI)))), (false, (.d tI))]
def Q31.lc : List AC := []
def Q31.D (N : Nat) : DFn := ⟨Q31.as, Q31.rs, (TMv × Int), fun x => Q31 N x.1 x.2.1 x.2.2.1 x.2.2.2.1, fun r o => (r.1, r.2.1), fun b => (b.1, (b.2, ())), fun b => (), none⟩
theorem Q31.fit (N : Nat) : (Q31.D N).Fit := ⟨fun _ _ => rfl, fun _ _ => rfl, by kernel_rfl, (fun _ _ h => nomatch h), by kernel_rfl⟩
noncomputable def Q31.G (N : Nat) : Gam := gamOf [(12, Q12.D N)]
def Q31.A : Nat → Option LoopAnn := fun k => bif Nat.beq k 1 then some ⟨[8, 10, 12, 32, 33, 34], [], [], [], [0, 1], 4, false⟩ else none
noncomputable def Q31.fin (N : Nat) : St → Option (TMv × Int) := resK tb Try.f31.results.toList (decRes (Q31.D N) Q31.lc)
noncomputable def Q31.k0 : List Item := stackAt [.r, .r, .r, .r, .l, .r, .b] (bodyOf Try.f31) []
def Q31.st0 (r_ : TRules) (p_ : TPos) (seed steps best t33_ t34_ : Int) (l_ : (List (TMv × (Int × Int)))) : St := ⟨List.replicate 8 (.one .any) ++ [.one (.ptr 2 0), .one .any, .one (.own 3), .one .any, .one (.int .i64 best)] ++ List.replicate 19 (.one .any) ++ [.one (.own 3), .one (.int .i64 t33_), .one (.int .i64 t34_)] ++ List.replicate 19 (.one .any), [.gone, .gone, .var 41 [.int .i64 0, .int .i64 0, .int .i64 0], .row 43 (.prod (.prod tI (.prod tI tI)) (.prod tI tI)) l_]⟩
theorem Q31.step0 (N : Nat) (rec : List Item → St → Option (TMv × Int)) (r_ : TRules) (p_ : TPos) (seed steps best t33_ t34_ : Int) (l_ : (List (TMv × (Int × Int)))) : seg tb (Q31.G N) Q31.A 0 rec (Q31.fin N) segFuel (loopBody Q31.k0) (Q31.st0 r_ p_ seed steps best t33_ t34_ l_) = Q31.s0 N r_ p_ seed steps (fun best t33_ t34_ l_ => rec Q31.k0 (Q31.st0 r_ p_ seed steps best t33_ t34_ l_)) best t33_ t34_ l_ := by kernel_rfl
theorem Q31.entry (N : Nat) (rec : List Item → St → Option (TMv × Int)) (x : (argH Q31.as).den) : seg tb (Q31.G N) Q31.A 0 rec (Q31.fin N) segFuel [.code (bodyOf Try.f31)] (initSt Try.f31 (encArgs Q31.as x) (encMem Q31.as x)) = Q31.e N (fun best t33_ t34_ l_ => rec Q31.k0 (Q31.st0 x.1 x.2.1 x.2.2.1 x.2.2.2.1 best t33_ t34_ l_)) x.1 x.2.1 x.2.2.1 x.2.2.2.1 := by kernel_rfl
theorem Q31.runs (N : Nat) (r_ : TRules) (p_ : TPos) (seed steps : Int) : ∀ n, (∀ (best t33_ t34_ : Int) (l_ : (List (TMv × (Int × Int)))), run tb (Q31.G N) Q31.A 0 (Q31.fin N) n Q31.k0 (Q31.st0 r_ p_ seed steps best t33_ t34_ l_) = Q31.l0 N r_ p_ seed steps n best t33_ t34_ l_)
 | 0 => fun _ _ _ _ => rfl
 | n + 1 => by
  have h0 := Q31.runs N r_ p_ seed steps n
  have e0 : (fun (best t33_ t34_ : Int) (l_ : (List (TMv × (Int × Int)))) => run tb (Q31.G N) Q31.A 0 (Q31.fin N) n Q31.k0 (Q31.st0 r_ p_ seed steps best t33_ t34_ l_)) = Q31.l0 N r_ p_ seed steps n := by funext best t33_ t34_ l_; exact h0 best t33_ t34_ l_
  have g0 : (∀ (best t33_ t34_ : Int) (l_ : (List (TMv × (Int × Int)))), run tb (Q31.G N) Q31.A 0 (Q31.fin N) (n + 1) Q31.k0 (Q31.st0 r_ p_ seed steps best t33_ t34_ l_) = Q31.l0 N r_ p_ seed steps (n + 1) best t33_ t34_ l_) := by
   intro best t33_ t34_ l_
   exact (run_succ (by kernel_rfl)).trans ((Q31.step0 N _ r_ p_ seed steps best t33_ t34_ l_).trans ((congrArg (fun r0 => Q31.s0 N r_ p_ seed steps r0 best t33_ t34_ l_) e0).trans (Q31.l0_s N r_ p_ seed steps n best t33_ t34_ l_).symm))
  exact g0
theorem Q31.ok (N : Nat) : FnOk Try.prog 31 (Q31.D N) := by
 refine FnOk_of tb_ok (Checked.mixed Try.checked) ⟨Try.f31, Try.func31, by kernel_rfl, by kernel_rfl, fun x y h => ⟨Q31.G N, Q31.A, N, gamOf_ok (by simp only [List.forall_mem_cons, List.not_mem_nil, false_implies, implies_true, and_true]; exact ⟨Q12.ok N, Q12.fit N⟩), ?_⟩⟩ (Q31.fit N)
 rw [absFn_n (n0 := 0) rfl (by kernel_rfl)]
 refine (Q31.entry N (run tb (Q31.G N) Q31.A 0 (Q31.fin N) N) x).trans ?_
 have e0 : (fun (best t33_ t34_ : Int) (l_ : (List (TMv × (Int × Int)))) => run tb (Q31.G N) Q31.A 0 (Q31.fin N) N Q31.k0 (Q31.st0 x.1 x.2.1 x.2.2.1 x.2.2.2.1 best t33_ t34_ l_)) = Q31.l0 N x.1 x.2.1 x.2.2.1 x.2.2.2.1 N := by funext best t33_ t34_ l_; exact (Q31.runs N x.1 x.2.1 x.2.2.1 x.2.2.2.1 N) best t33_ t34_ l_
 have h' : (Q31.D N).f x = Q31.e N (Q31.l0 N x.1 x.2.1 x.2.2.1 x.2.2.2.1 N) x.1 x.2.1 x.2.2.1 x.2.2.2.1 := by kernel_rfl
 exact (congrArg (fun r0 => Q31.e N r0 x.1 x.2.1 x.2.2.1 x.2.2.2.1) e0).trans (h'.symm.trans h)
def Q44.as : List MK := [.d false tI]
def Q44.rs : List (Bool × HT) := [(false, (.d .bool))]
def Q44.lc : List AC := []
def Q44.D (N : Nat) : DFn := ⟨Q44.as, Q44.rs, Bool, fun x => Q44 N x.1, fun r o => r.1, fun b => (b, ()), fun b => (), none⟩
theorem Q44.fit (N : Nat) : (Q44.D N).Fit := ⟨fun _ _ => rfl, fun _ _ => rfl, by kernel_rfl, (fun _ _ h => nomatch h), by kernel_rfl⟩
noncomputable def Q44.G (N : Nat) : Gam := gamOf []
def Q44.A : Nat → Option LoopAnn := fun _ => none
noncomputable def Q44.fin (N : Nat) : St → Option Bool := resK tb Try.f44.results.toList (decRes (Q44.D N) Q44.lc)
theorem Q44.entry (N : Nat) (rec : List Item → St → Option Bool) (x : (argH Q44.as).den) : seg tb (Q44.G N) Q44.A 0 rec (Q44.fin N) segFuel [.code (bodyOf Try.f44)] (initSt Try.f44 (encArgs Q44.as x) (encMem Q44.as x)) = Q44.e N x.1 := by kernel_rfl
theorem Q44.ok (N : Nat) : FnOk Try.prog 44 (Q44.D N) := by
 refine FnOk_of tb_ok (Checked.mixed Try.checked) ⟨Try.f44, Try.func44, by kernel_rfl, by kernel_rfl, fun x y h => ⟨Q44.G N, Q44.A, N, gamOf_ok (fun p hp => nomatch hp), ?_⟩⟩ (Q44.fit N)
 rw [absFn_n (n0 := 0) rfl (by kernel_rfl)]
 exact (Q44.entry N _ x).trans h
def Q73.as : List MK := [.d false (.slice 33 tI), .f 44]
def Q73.rs : List (Bool × HT) := [(false, (.d tI))]
def Q73.lc : List AC := []
def Q73.D (N : Nat) : DFn := ⟨Q73.as, Q73.rs, Int, fun x => Q73 N x.1, fun r o => r.1, fun b => (b, ()), fun b => (), none⟩
theorem Q73.fit (N : Nat) : (Q73.D N).Fit := ⟨fun _ _ => rfl, fun _ _ => rfl, by kernel_rfl, (fun _ _ h => nomatch h), by kernel_rfl⟩
noncomputable def Q73.G (N : Nat) : Gam := gamOf [(44, Q44.D N)]
def Q73.A : Nat → Option LoopAnn := fun k => bif Nat.beq k 0 then some ⟨[0, 1, 7, 8], [], [], [], [], 0, false⟩ else none
noncomputable def Q73.fin (N : Nat) : St → Option Int := resK tb Try.f73.results.toList (decRes (Q73.D N) Q73.lc)
noncomputable def Q73.k0 : List Item := stackAt [.r, .l, .r, .b] (bodyOf Try.f73) []
def Q73.st0 (s_ : LInt) (t8_ : Int) : St := ⟨[.one (.fro 33 tI s_), .one (.fn 44)] ++ List.replicate 5 (.one .any) ++ [.one (.int .i64 (s_.length : Int)), .one (.int .i64 t8_)] ++ List.replicate 10 (.one .any), []⟩
theorem Q73.step0 (N : Nat) (rec : List Item → St → Option Int) (s_ : LInt) (t8_ : Int) : seg tb (Q73.G N) Q73.A 0 rec (Q73.fin N) segFuel (loopBody Q73.k0) (Q73.st0 s_ t8_) = Q73.s0 N s_ (fun t8_ => rec Q73.k0 (Q73.st0 s_ t8_)) t8_ := by kernel_rfl
theorem Q73.entry (N : Nat) (rec : List Item → St → Option Int) (x : (argH Q73.as).den) : seg tb (Q73.G N) Q73.A 0 rec (Q73.fin N) segFuel [.code (bodyOf Try.f73)] (initSt Try.f73 (encArgs Q73.as x) (encMem Q73.as x)) = Q73.e N (fun t8_ => rec Q73.k0 (Q73.st0 x.1 t8_)) x.1 := by kernel_rfl
theorem Q73.runs (N : Nat) (s_ : LInt) : ∀ n, (∀ (t8_ : Int), run tb (Q73.G N) Q73.A 0 (Q73.fin N) n Q73.k0 (Q73.st0 s_ t8_) = Q73.l0 N s_ n t8_)
 | 0 => fun _ => rfl
 | n + 1 => by
  have h0 := Q73.runs N s_ n
  have e0 : (fun (t8_ : Int) => run tb (Q73.G N) Q73.A 0 (Q73.fin N) n Q73.k0 (Q73.st0 s_ t8_)) = Q73.l0 N s_ n := by funext t8_; exact h0 t8_
  have g0 : (∀ (t8_ : Int), run tb (Q73.G N) Q73.A 0 (Q73.fin N) (n + 1) Q73.k0 (Q73.st0 s_ t8_) = Q73.l0 N s_ (n + 1) t8_) := by
   intro t8_
   exact (run_succ (by kernel_rfl)).trans ((Q73.step0 N _ s_ t8_).trans ((congrArg (fun r0 => Q73.s0 N s_ r0 t8_) e0).trans (Q73.l0_s N s_ n t8_).symm))
  exact g0
theorem Q73.ok (N : Nat) : FnOk Try.prog 73 (Q73.D N) := by
 refine FnOk_of tb_ok (Checked.mixed Try.checked) ⟨Try.f73, Try.func73, by kernel_rfl, by kernel_rfl, fun x y h => ⟨Q73.G N, Q73.A, N, gamOf_ok (by simp only [List.forall_mem_cons, List.not_mem_nil, false_implies, implies_true, and_true]; exact ⟨Q44.ok N, Q44.fit N⟩), ?_⟩⟩ (Q73.fit N)
 rw [absFn_n (n0 := 0) rfl (by kernel_rfl)]
 refine (Q73.entry N (run tb (Q73.G N) Q73.A 0 (Q73.fin N) N) x).trans ?_
 have e0 : (fun (t8_ : Int) => run tb (Q73.G N) Q73.A 0 (Q73.fin N) N Q73.k0 (Q73.st0 x.1 t8_)) = Q73.l0 N x.1 N := by funext t8_; exact (Q73.runs N x.1 N) t8_
 have h' : (Q73.D N).f x = Q73.e N (Q73.l0 N x.1 N) x.1 := by kernel_rfl
 exact (congrArg (fun r0 => Q73.e N r0 x.1) e0).trans (h'.symm.trans h)
def Q43.as : List MK := [.d false (.slice 33 tI), .f 44]
def Q43.rs : List (Bool × HT) := [(false, (.d .bool))]
def Q43.lc : List AC := []
def Q43.D (N : Nat) : DFn := ⟨Q43.as, Q43.rs, Bool, fun x => Q43 N x.1, fun r o => r.1, fun b => (b, ()), fun b => (), none⟩
theorem Q43.fit (N : Nat) : (Q43.D N).Fit := ⟨fun _ _ => rfl, fun _ _ => rfl, by kernel_rfl, (fun _ _ h => nomatch h), by kernel_rfl⟩
noncomputable def Q43.G (N : Nat) : Gam := gamOf [(73, Q73.D N)]
def Q43.A : Nat → Option LoopAnn := fun _ => none
noncomputable def Q43.fin (N : Nat) : St → Option Bool := resK tb Try.f43.results.toList (decRes (Q43.D N) Q43.lc)
theorem Q43.entry (N : Nat) (rec : List Item → St → Option Bool) (x : (argH Q43.as).den) : seg tb (Q43.G N) Q43.A 0 rec (Q43.fin N) segFuel [.code (bodyOf Try.f43)] (initSt Try.f43 (encArgs Q43.as x) (encMem Q43.as x)) = Q43.e N x.1 := by kernel_rfl
theorem Q43.ok (N : Nat) : FnOk Try.prog 43 (Q43.D N) := by
 refine FnOk_of tb_ok (Checked.mixed Try.checked) ⟨Try.f43, Try.func43, by kernel_rfl, by kernel_rfl, fun x y h => ⟨Q43.G N, Q43.A, N, gamOf_ok (by simp only [List.forall_mem_cons, List.not_mem_nil, false_implies, implies_true, and_true]; exact ⟨Q73.ok N, Q73.fit N⟩), ?_⟩⟩ (Q43.fit N)
 rw [absFn_n (n0 := 0) rfl (by kernel_rfl)]
 exact (Q43.entry N _ x).trans h
def Q21.as : List MK := [.d false (.slice 33 tI)]
def Q21.rs : List (Bool × HT) := [(false, (.d .bool))]
def Q21.lc : List AC := []
def Q21.D (N : Nat) : DFn := ⟨Q21.as, Q21.rs, Bool, fun x => Q21 N x.1, fun r o => r.1, fun b => (b, ()), fun b => (), none⟩
theorem Q21.fit (N : Nat) : (Q21.D N).Fit := ⟨fun _ _ => rfl, fun _ _ => rfl, by kernel_rfl, (fun _ _ h => nomatch h), by kernel_rfl⟩
noncomputable def Q21.G (N : Nat) : Gam := gamOf [(43, Q43.D N)]
def Q21.A : Nat → Option LoopAnn := fun _ => none
noncomputable def Q21.fin (N : Nat) : St → Option Bool := resK tb Try.f21.results.toList (decRes (Q21.D N) Q21.lc)
theorem Q21.entry (N : Nat) (rec : List Item → St → Option Bool) (x : (argH Q21.as).den) : seg tb (Q21.G N) Q21.A 0 rec (Q21.fin N) segFuel [.code (bodyOf Try.f21)] (initSt Try.f21 (encArgs Q21.as x) (encMem Q21.as x)) = Q21.e N x.1 := by kernel_rfl
theorem Q21.ok (N : Nat) : FnOk Try.prog 21 (Q21.D N) := by
 refine FnOk_of tb_ok (Checked.mixed Try.checked) ⟨Try.f21, Try.func21, by kernel_rfl, by kernel_rfl, fun x y h => ⟨Q21.G N, Q21.A, N, gamOf_ok (by simp only [List.forall_mem_cons, List.not_mem_nil, false_implies, implies_true, and_true]; exact ⟨Q43.ok N, Q43.fit N⟩), ?_⟩⟩ (Q21.fit N)
 rw [absFn_n (n0 := 0) rfl (by kernel_rfl)]
 exact (Q21.entry N _ x).trans h
def Q26.as : List MK := [.d false tI]
def Q26.rs : List (Bool × HT) := [(true, (.d (.prod tI (.prod tI tI))))]
def Q26.lc : List AC := []
def Q26.D (N : Nat) : DFn := ⟨Q26.as, Q26.rs, TMv, fun x => Q26 N x.1, fun r o => r.1, fun b => (b, ()), fun b => (), none⟩
theorem Q26.fit (N : Nat) : (Q26.D N).Fit := ⟨fun _ _ => rfl, fun _ _ => rfl, by kernel_rfl, (fun _ _ h => nomatch h), by kernel_rfl⟩
noncomputable def Q26.G (N : Nat) : Gam := gamOf []
def Q26.A : Nat → Option LoopAnn := fun _ => none
noncomputable def Q26.fin (N : Nat) : St → Option TMv := resK tb Try.f26.results.toList (decRes (Q26.D N) Q26.lc)
theorem Q26.entry (N : Nat) (rec : List Item → St → Option TMv) (x : (argH Q26.as).den) : seg tb (Q26.G N) Q26.A 0 rec (Q26.fin N) segFuel [.code (bodyOf Try.f26)] (initSt Try.f26 (encArgs Q26.as x) (encMem Q26.as x)) = Q26.e N x.1 := by kernel_rfl
theorem Q26.ok (N : Nat) : FnOk Try.prog 26 (Q26.D N) := by
 refine FnOk_of tb_ok (Checked.mixed Try.checked) ⟨Try.f26, Try.func26, by kernel_rfl, by kernel_rfl, fun x y h => ⟨Q26.G N, Q26.A, N, gamOf_ok (fun p hp => nomatch hp), ?_⟩⟩ (Q26.fit N)
 rw [absFn_n (n0 := 0) rfl (by kernel_rfl)]
 exact (Q26.entry N _ x).trans h
def Q11.as : List MK := []
def Q11.rs : List (Bool × HT) := [(false, (.d .bool))]
def Q11.lc : List AC := []
def Q11.D (N : Nat) : DFn := ⟨Q11.as, Q11.rs, Bool, fun x => Q11 N, fun r o => r.1, fun b => (b, ()), fun b => (), none⟩
theorem Q11.fit (N : Nat) : (Q11.D N).Fit := ⟨fun _ _ => rfl, fun _ _ => rfl, by kernel_rfl, (fun _ _ h => nomatch h), by kernel_rfl⟩
noncomputable def Q11.G (N : Nat) : Gam := gamOf [(24, Q24.D N), (25, Q25.D N), (12, Q12.D N), (31, Q31.D N), (13, Q13.D N), (14, Q14.D N), (21, Q21.D N), (26, Q26.D N), (15, Q15.D N)]
def Q11.A : Nat → Option LoopAnn := fun _ => none
noncomputable def Q11.fin (N : Nat) : St → Option Bool := resK tb Try.f11.results.toList (decRes (Q11.D N) Q11.lc)
theorem Q11.entry (N : Nat) (rec : List Item → St → Option Bool) (x : (argH Q11.as).den) : seg tb (Q11.G N) Q11.A 0 rec (Q11.fin N) segFuel [.code (bodyOf Try.f11)] (initSt Try.f11 (encArgs Q11.as x) (encMem Q11.as x)) = Q11.e N := by kernel_rfl
theorem Q11.ok (N : Nat) : FnOk Try.prog 11 (Q11.D N) := by
 refine FnOk_of tb_ok (Checked.mixed Try.checked) ⟨Try.f11, Try.func11, by kernel_rfl, by kernel_rfl, fun x y h => ⟨Q11.G N, Q11.A, N, gamOf_ok (by simp only [List.forall_mem_cons, List.not_mem_nil, false_implies, implies_true, and_true]; exact ⟨⟨Q24.ok N, Q24.fit N⟩, ⟨Q25.ok N, Q25.fit N⟩, ⟨Q12.ok N, Q12.fit N⟩, ⟨Q31.ok N, Q31.fit N⟩, ⟨Q13.ok N, Q13.fit N⟩, ⟨Q14.ok N, Q14.fit N⟩, ⟨Q21.ok N, Q21.fit N⟩, ⟨Q26.ok N, Q26.fit N⟩, ⟨Q15.ok N, Q15.fit N⟩⟩), ?_⟩⟩ (Q11.fit N)
 rw [absFn_n (n0 := 0) rfl (by kernel_rfl)]
 exact (Q11.entry N _ x).trans h
def Q4.as : List MK := [.d true (.prod .str (.prod tI (.prod tI (.prod (.slice 107 (.prod (.int .u8) (.prod tI (.prod tI (.slice 127 (.prod tI (.prod tI (.prod tI tI)))))))) (.prod (.slice 3 tI) (.prod .bool (.prod .bool (.prod (.slice 109 (.prod tI (.prod tI (.prod tI .bool)))) (.prod tI (.prod tI tI)))))))))), .d true (.prod (.slice 3 tI) (.prod (.prod (.slice 3 tI) (.slice 3 tI)) (.prod tI tI))), .d false tI, .d false tI, .d false tI]
def Q4.rs : List (Bool × HT) := [(false, (.d .bool))]
def Q4.lc : List AC := []
def Q4.D (N : Nat) : DFn := ⟨Q4.as, Q4.rs, Bool, fun x => Q4 N x.1 x.2.1 x.2.2.1 x.2.2.2.1 x.2.2.2.2.1, fun r o => r.1, fun b => (b, ()), fun b => (), none⟩
theorem Q4.fit (N : Nat) : (Q4.D N).Fit := ⟨fun _ _ => rfl, fun _ _ => rfl, by kernel_rfl, (fun _ _ h => nomatch h), by kernel_rfl⟩
noncomputable def Q4.G (N : Nat) : Gam := gamOf [(11, Q11.D N), (12, Q12.D N)]
def Q4.A : Nat → Option LoopAnn := fun k => bif Nat.beq k 0 then some ⟨[11, 13, 71, 72], [], [], [], [0, 1], 4, false⟩ else none
noncomputable def Q4.fin (N : Nat) : St → Option Bool := resK tb Try.f4.results.toList (decRes (Q4.D N) Q4.lc)
noncomputable def Q4.k0 : List Item := stackAt [.r, .r, .r, .r, .r, .r, .r, .r, .l, .r, .b] (bodyOf Try.f4) []
def Q4.st0 (r_ : TRules) (p_ : TPos) (seed steps more t71_ t72_ : Int) (a_ : (List (TMv × (Int × Int)))) (b_ : (List (TMv × (Int × Int)))) : St := ⟨List.replicate 11 (.one .any) ++ [.one (.own 2), .one .any, .one (.own 3)] ++ List.replicate 57 (.one .any) ++ [.one (.int .i64 t71_), .one (.int .i64 t72_)] ++ List.replicate 40 (.one .any), [.gone, .gone, .row 43 (.prod (.prod tI (.prod tI tI)) (.prod tI tI)) a_, .row 43 (.prod (.prod tI (.prod tI tI)) (.prod tI tI)) b_]⟩
theorem Q4.step0 (N : Nat) (rec : List Item → St → Option Bool) (r_ : TRules) (p_ : TPos) (seed steps more t71_ t72_ : Int) (a_ : (List (TMv × (Int × Int)))) (b_ : (List (TMv × (Int × Int)))) : seg tb (Q4.G N) Q4.A 0 rec (Q4.fin N) segFuel (loopBody Q4.k0) (Q4.st0 r_ p_ seed steps more t71_ t72_ a_ b_) = Q4.s0 N r_ p_ seed steps more (fun t71_ t72_ a_ b_ => rec Q4.k0 (Q4.st0 r_ p_ seed steps more t71_ t72_ a_ b_)) t71_ t72_ a_ b_ := by kernel_rfl
theorem Q4.entry (N : Nat) (rec : List Item → St → Option Bool) (x : (argH Q4.as).den) : seg tb (Q4.G N) Q4.A 0 rec (Q4.fin N) segFuel [.code (bodyOf Try.f4)] (initSt Try.f4 (encArgs Q4.as x) (encMem Q4.as x)) = Q4.e N (fun t71_ t72_ a_ b_ => rec Q4.k0 (Q4.st0 x.1 x.2.1 x.2.2.1 x.2.2.2.1 x.2.2.2.2.1 t71_ t72_ a_ b_)) x.1 x.2.1 x.2.2.1 x.2.2.2.1 x.2.2.2.2.1 := by kernel_rfl
theorem Q4.runs (N : Nat) (r_ : TRules) (p_ : TPos) (seed steps more : Int) : ∀ n, (∀ (t71_ t72_ : Int) (a_ : (List (TMv × (Int × Int)))) (b_ : (List (TMv × (Int × Int)))), run tb (Q4.G N) Q4.A 0 (Q4.fin N) n Q4.k0 (Q4.st0 r_ p_ seed steps more t71_ t72_ a_ b_) = Q4.l0 N r_ p_ seed steps more n t71_ t72_ a_ b_)
 | 0 => fun _ _ _ _ => rfl
 | n + 1 => by
  have h0 := Q4.runs N r_ p_ seed steps more n
  have e0 : (fun (t71_ t72_ : Int) (a_ : (List (TMv × (Int × Int)))) (b_ : (List (TMv × (Int × Int)))) => run tb (Q4.G N) Q4.A 0 (Q4.fin N) n Q4.k0 (Q4.st0 r_ p_ seed steps more t71_ t72_ a_ b_)) = Q4.l0 N r_ p_ seed steps more n := by funext t71_ t72_ a_ b_; exact h0 t71_ t72_ a_ b_
  have g0 : (∀ (t71_ t72_ : Int) (a_ : (List (TMv × (Int × Int)))) (b_ : (List (TMv × (Int × Int)))), run tb (Q4.G N) Q4.A 0 (Q4.fin N) (n + 1) Q4.k0 (Q4.st0 r_ p_ seed steps more t71_ t72_ a_ b_) = Q4.l0 N r_ p_ seed steps more (n + 1) t71_ t72_ a_ b_) := by
   intro t71_ t72_ a_ b_
   exact (run_succ (by kernel_rfl)).trans ((Q4.step0 N _ r_ p_ seed steps more t71_ t72_ a_ b_).trans ((congrArg (fun r0 => Q4.s0 N r_ p_ seed steps more r0 t71_ t72_ a_ b_) e0).trans (Q4.l0_s N r_ p_ seed steps more n t71_ t72_ a_ b_).symm))
  exact g0
theorem Q4.ok (N : Nat) : FnOk Try.prog 4 (Q4.D N) := by
 refine FnOk_of tb_ok (Checked.mixed Try.checked) ⟨Try.f4, Try.func4, by kernel_rfl, by kernel_rfl, fun x y h => ⟨Q4.G N, Q4.A, N, gamOf_ok (by simp only [List.forall_mem_cons, List.not_mem_nil, false_implies, implies_true, and_true]; exact ⟨⟨Q11.ok N, Q11.fit N⟩, ⟨Q12.ok N, Q12.fit N⟩⟩), ?_⟩⟩ (Q4.fit N)
 rw [absFn_n (n0 := 0) rfl (by kernel_rfl)]
 refine (Q4.entry N (run tb (Q4.G N) Q4.A 0 (Q4.fin N) N) x).trans ?_
 have e0 : (fun (t71_ t72_ : Int) (a_ : (List (TMv × (Int × Int)))) (b_ : (List (TMv × (Int × Int)))) => run tb (Q4.G N) Q4.A 0 (Q4.fin N) N Q4.k0 (Q4.st0 x.1 x.2.1 x.2.2.1 x.2.2.2.1 x.2.2.2.2.1 t71_ t72_ a_ b_)) = Q4.l0 N x.1 x.2.1 x.2.2.1 x.2.2.2.1 x.2.2.2.2.1 N := by funext t71_ t72_ a_ b_; exact (Q4.runs N x.1 x.2.1 x.2.2.1 x.2.2.2.1 x.2.2.2.2.1 N) t71_ t72_ a_ b_
 have h' : (Q4.D N).f x = Q4.e N (Q4.l0 N x.1 x.2.1 x.2.2.1 x.2.2.2.1 x.2.2.2.2.1 N) x.1 x.2.1 x.2.2.1 x.2.2.2.1 x.2.2.2.2.1 := by kernel_rfl
 exact (congrArg (fun r0 => Q4.e N r0 x.1 x.2.1 x.2.2.1 x.2.2.2.1 x.2.2.2.2.1) e0).trans (h'.symm.trans h)
end
end Go.Proofs.Ytpielijehhhobaa.Am
