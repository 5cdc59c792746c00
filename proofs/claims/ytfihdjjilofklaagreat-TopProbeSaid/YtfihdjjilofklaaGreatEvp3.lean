/- PRINTED by gen.py: the abstract machine evaluates the loaded code to these functions. -/
import Derived.Test.YtfihdjjilofklaaGreatEvp2
set_option linter.unusedVariables false
set_option linter.unusedSimpArgs false
namespace Go.Proofs.YtfihdjjilofklaaGreat.Am
open Go
noncomputable section
variable (N : Nat)
set_option maxRecDepth 100000
def Q63.as : List MK := [.d true qa, .d true qc, .d false tI]
def Q63.rs : List (Bool × HT) := [(false, (.d tI)), (false, (.d tI))]
def Q63.lc : List AC := []
def Q63.D : DFn := ⟨Q63.as, Q63.rs, (Int × Int), fun x => Q63 N x.1 x.2.1 x.2.2.1, fun r o => (r.1, r.2.1), fun b => (b.1, (b.2, ())), fun b => (), none⟩
theorem Q63.fit : (Q63.D N).Fit := ⟨fun _ _ => rfl, fun _ _ => rfl, by kernel_rfl, (fun _ _ h => nomatch h), by kernel_rfl⟩
noncomputable def Q63.G : Gam := gamOf [(83, Q83.D N), (84, Q84.D N)]
def Q63.A : LA := fun _ => none
noncomputable def Q63.fin : St → Option (Int × Int) := resK tb Tryz.f63.results.toList (decRes (Q63.D N) Q63.lc)
theorem Q63.entry (rec : RK (Int × Int)) (x : (argH Q63.as).den) : seg tb (Q63.G N) Q63.A 0 rec (Q63.fin N) segFuel [.code (bodyOf Tryz.f63)] (initSt Tryz.f63 (encArgs Q63.as x) (encMem Q63.as x)) = Q63.e N x.1 x.2.1 x.2.2.1 := by kernel_rfl
theorem Q63.ok : FnOk Tryz.prog 63 (Q63.D N) := by
 refine FnOk_of tb_ok (Checked.mixed Tryz.checked) ⟨Tryz.f63, Tryz.func63, by kernel_rfl, by kernel_rfl, fun x y h => ⟨Q63.G N, Q63.A, N, gamOf_ok (gc ⟨Q83.ok N, Q83.fit N⟩ (gc ⟨Q84.ok N, Q84.fit N⟩ gn)), ?_⟩⟩ (Q63.fit N)
 rw [absFn_n (n0 := 0) rfl (by kernel_rfl)]
 exact (Q63.entry N _ x).trans h
def Q35.as : List MK := [.d true qa, .d true qc, .d false tI]
def Q35.rs : List (Bool × HT) := [(false, (.d tI))]
def Q35.lc : List AC := []
def Q35.D : DFn := ⟨Q35.as, Q35.rs, Int, fun x => Q35 N x.1 x.2.1 x.2.2.1, fun r o => r.1, fun b => (b, ()), fun b => (), none⟩
theorem Q35.fit : (Q35.D N).Fit := ⟨fun _ _ => rfl, fun _ _ => rfl, by kernel_rfl, (fun _ _ h => nomatch h), by kernel_rfl⟩
noncomputable def Q35.G : Gam := gamOf [(63, Q63.D N)]
def Q35.A : LA := fun _ => none
noncomputable def Q35.fin : St → Option Int := resK tb Tryz.f35.results.toList (decRes (Q35.D N) Q35.lc)
theorem Q35.entry (rec : RK Int) (x : (argH Q35.as).den) : seg tb (Q35.G N) Q35.A 0 rec (Q35.fin N) segFuel [.code (bodyOf Tryz.f35)] (initSt Tryz.f35 (encArgs Q35.as x) (encMem Q35.as x)) = Q35.e N x.1 x.2.1 x.2.2.1 := by kernel_rfl
theorem Q35.ok : FnOk Tryz.prog 35 (Q35.D N) := by
 refine FnOk_of tb_ok (Checked.mixed Tryz.checked) ⟨Tryz.f35, Tryz.func35, by kernel_rfl, by kernel_rfl, fun x y h => ⟨Q35.G N, Q35.A, N, gamOf_ok (gc ⟨Q63.ok N, Q63.fit N⟩ gn), ?_⟩⟩ (Q35.fit N)
 rw [absFn_n (n0 := 0) rfl (by kernel_rfl)]
 exact (Q35.entry N _ x).trans h
def Q67.as : List MK := [.r (.prod qa (.prod qc (.prod (.int .u64) (.slice 157 qf))))]
def Q67.rs : List (Bool × HT) := [(false, (.d tI))]
def Q67.lc : List AC := []
def Q67.D : DFn := ⟨Q67.as, Q67.rs, Int, fun x => Q67 N x.1, fun r o => r.1, fun b => (b, ()), fun b => (), none⟩
theorem Q67.fit : (Q67.D N).Fit := ⟨fun _ _ => rfl, fun _ _ => rfl, by kernel_rfl, (fun _ _ h => nomatch h), by kernel_rfl⟩
noncomputable def Q67.G (N : Nat) : Gam := gamOf []
def Q67.A : LA := fun _ => none
noncomputable def Q67.fin : St → Option Int := resK tb Tryz.f67.results.toList (decRes (Q67.D N) Q67.lc)
theorem Q67.entry (rec : RK Int) (x : (argH Q67.as).den) : seg tb (Q67.G N) Q67.A 0 rec (Q67.fin N) segFuel [.code (bodyOf Tryz.f67)] (initSt Tryz.f67 (encArgs Q67.as x) (encMem Q67.as x)) = Q67.e N x.1 := by kernel_rfl
theorem Q67.ok : FnOk Tryz.prog 67 (Q67.D N) := by
 refine FnOk_of tb_ok (Checked.mixed Tryz.checked) ⟨Tryz.f67, Tryz.func67, by kernel_rfl, by kernel_rfl, fun x y h => ⟨Q67.G N, Q67.A, N, gamOf_ok (fun p hp => nomatch hp), ?_⟩⟩ (Q67.fit N)
 rw [absFn_n (n0 := 0) rfl (by kernel_rfl)]
 exact (Q67.entry N _ x).trans h
def Q66.as : List MK := [.d false tI, .d false tI]
def Q66.rs : List (Bool × HT) := [(false, (.d tI))]
def Q66.lc : List AC := []
def Q66.D : DFn := ⟨Q66.as, Q66.rs, Int, fun x => Q66 N x.1 x.2.1, fun r o => r.1, fun b => (b, ()), fun b => (), none⟩
theorem Q66.fit : (Q66.D N).Fit := ⟨fun _ _ => rfl, fun _ _ => rfl, by kernel_rfl, (fun _ _ h => nomatch h), by kernel_rfl⟩
noncomputable def Q66.G : Gam := gamOf [(55, Q55.D N)]
def Q66.A : LA := fun _ => none
noncomputable def Q66.fin : St → Option Int := resK tb Tryz.f66.results.toList (decRes (Q66.D N) Q66.lc)
theorem Q66.entry (rec : RK Int) (x : (argH Q66.as).den) : seg tb (Q66.G N) Q66.A 0 rec (Q66.fin N) segFuel [.code (bodyOf Tryz.f66)] (initSt Tryz.f66 (encArgs Q66.as x) (encMem Q66.as x)) = Q66.e N x.1 x.2.1 := by kernel_rfl
theorem Q66.ok : FnOk Tryz.prog 66 (Q66.D N) := by
 refine FnOk_of tb_ok (Checked.mixed Tryz.checked) ⟨Tryz.f66, Tryz.func66, by kernel_rfl, by kernel_rfl, fun x y h => ⟨Q66.G N, Q66.A, N, gamOf_ok (gc ⟨Q55.ok N, Q55.fit N⟩ gn), ?_⟩⟩ (Q66.fit N)
 rw [absFn_n (n0 := 0) rfl (by kernel_rfl)]
 exact (Q66.entry N _ x).trans h
def Q70.as : List MK := [.d false tI]
def Q70.rs : List (Bool × HT) := [(false, (.d tI))]
def Q70.lc : List AC := []
def Q70.D : DFn := ⟨Q70.as, Q70.rs, Int, fun x => Q70 N x.1, fun r o => r.1, fun b => (b, ()), fun b => (), none⟩
theorem Q70.fit : (Q70.D N).Fit := ⟨fun _ _ => rfl, fun _ _ => rfl, by kernel_rfl, (fun _ _ h => nomatch h), by kernel_rfl⟩
noncomputable def Q70.G (N : Nat) : Gam := gamOf []
def Q70.A : LA := fun _ => none
noncomputable def Q70.fin : St → Option Int := resK tb Tryz.f70.results.toList (decRes (Q70.D N) Q70.lc)
theorem Q70.entry (rec : RK Int) (x : (argH Q70.as).den) : seg tb (Q70.G N) Q70.A 0 rec (Q70.fin N) segFuel [.code (bodyOf Tryz.f70)] (initSt Tryz.f70 (encArgs Q70.as x) (encMem Q70.as x)) = Q70.e N x.1 := by kernel_rfl
theorem Q70.ok : FnOk Tryz.prog 70 (Q70.D N) := by
 refine FnOk_of tb_ok (Checked.mixed Tryz.checked) ⟨Tryz.f70, Tryz.func70, by kernel_rfl, by kernel_rfl, fun x y h => ⟨Q70.G N, Q70.A, N, gamOf_ok (fun p hp => nomatch hp), ?_⟩⟩ (Q70.fit N)
 rw [absFn_n (n0 := 0) rfl (by kernel_rfl)]
 exact (Q70.entry N _ x).trans h
def Q37.as : List MK := [.o (.ptr 131 (.prod (.prod (.d .str) (.prod (.d tI) (.prod (.d tI) (.prod (.own 89 qb) (.prod (.own 3 tI) (.prod (.d .bool) (.prod (.d .bool) (.prod (.own 91 qe) (.d qd))))))))) (.prod (.prod (.own 3 tI) (.prod (.prod (.own 3 tI) (.own 3 tI)) (.d (.prod tI tI)))) (.prod (.d (.int .u64)) (.own 157 qf))))) true, .d false tI]
def Q37.rs : List (Bool × HT) := [(false, (.d tI))]
def Q37.lc : List AC := [.ptr 0 0]
def Q37.D : DFn := ⟨Q37.as, Q37.rs, (Int × TBoard), fun x => Q37 N x.1 x.2.1, fun r o => (r.1, o.1), fun b => (b.1, ()), fun b => (b.2, ()), none⟩
theorem Q37.fit : (Q37.D N).Fit := ⟨fun _ _ => rfl, fun _ _ => rfl, by kernel_rfl, (fun _ _ h => nomatch h), by kernel_rfl⟩
noncomputable def Q37.G : Gam := gamOf [(65, Q65.D N), (67, Q67.D N), (66, Q66.D N), (68, Q68.D N), (69, Q69.D N), (70, Q70.D N), (71, Q71.D N), (37, Q37.D N)]
def Q37.A : LA := fun k => bif Nat.beq k 0 then some ⟨[0, 1, 6, 20, 21, 22], [], [], [(true, 0, 3, 9), (true, 0, 4, 10), (true, 0, 7, 11), (true, 0, 11, 12), (true, 0, 12, 13), (true, 0, 13, 14), (true, 0, 17, 15)], [], 16, false⟩ else none
noncomputable def Q37.fin : St → Option (Int × TBoard) := resK tb Tryz.f37.results.toList (decRes (Q37.D (N + 1)) Q37.lc)
noncomputable def Q37.k0 : List Item := stackAt [.r, .r, .r, .r, .l, .r, .b] (bodyOf Tryz.f37) []
def Q37.st0 (b_ : TBoard) (depth best t21_ t22_ : Int) (b_2 : ByteArray) (b_3 b_4 : Int) (b_5 b_6 : Bool) (b_7 b_8 b_9 b_10 b_11 b_12 : Int) (m8_ : LMv) (m9_ : (List TPiece)) (m10_ : LInt) (m11_ : (List TEnd)) (m12_ m13_ m14_ : LInt) (m15_ : (List TUndo)) : St := ⟨[.one (.ptr 0 0), oi depth] ++ rA 4 ++ [oi best] ++ rA 13 ++ [.one (.own 8), oi t21_, oi t22_] ++ rA 18, [.var 131 [.str b_2, .int .i64 b_3, .int .i64 b_4, .own 9, .own 10, .bool b_5, .bool b_6, .own 11, .int .i64 b_7, .int .i64 b_8, .int .i64 b_9, .own 12, .own 13, .own 14, .int .i64 b_10, .int .i64 b_11, .int .u64 b_12, .own 15], .gone, .gone, .gone, .gone, .gone, .gone, .gone, .row 80 qd m8_, .row 89 qb m9_, .row 3 tI m10_, .row 91 qe m11_, .row 3 tI m12_, .row 3 tI m13_, .row 3 tI m14_, .row 157 qf m15_]⟩
theorem Q37.step0 (rec : RK (Int × TBoard)) (b_ : TBoard) (depth best t21_ t22_ : Int) (b_2 : ByteArray) (b_3 b_4 : Int) (b_5 b_6 : Bool) (b_7 b_8 b_9 b_10 b_11 b_12 : Int) (m8_ : LMv) (m9_ : (List TPiece)) (m10_ : LInt) (m11_ : (List TEnd)) (m12_ m13_ m14_ : LInt) (m15_ : (List TUndo)) : seg tb (Q37.G N) Q37.A 8 rec (Q37.fin N) segFuel (loopBody Q37.k0) (Q37.st0 b_ depth best t21_ t22_ b_2 b_3 b_4 b_5 b_6 b_7 b_8 b_9 b_10 b_11 b_12 m8_ m9_ m10_ m11_ m12_ m13_ m14_ m15_) = Q37.s0 N (Q37 N) b_ depth (fun best t21_ t22_ b_2 b_3 b_4 b_5 b_6 b_7 b_8 b_9 b_10 b_11 b_12 m8_ m9_ m10_ m11_ m12_ m13_ m14_ m15_ => rec Q37.k0 (Q37.st0 b_ depth best t21_ t22_ b_2 b_3 b_4 b_5 b_6 b_7 b_8 b_9 b_10 b_11 b_12 m8_ m9_ m10_ m11_ m12_ m13_ m14_ m15_)) best t21_ t22_ b_2 b_3 b_4 b_5 b_6 b_7 b_8 b_9 b_10 b_11 b_12 m8_ m9_ m10_ m11_ m12_ m13_ m14_ m15_ := by kernel_rfl
theorem Q37.entry (rec : RK (Int × TBoard)) (x : (argH Q37.as).den) : seg tb (Q37.G N) Q37.A 8 rec (Q37.fin N) segFuel [.code (bodyOf Tryz.f37)] (initSt Tryz.f37 (encArgs Q37.as x) (encMem Q37.as x)) = Q37.e N (Q37 N) (fun best t21_ t22_ b_2 b_3 b_4 b_5 b_6 b_7 b_8 b_9 b_10 b_11 b_12 m8_ m9_ m10_ m11_ m12_ m13_ m14_ m15_ => rec Q37.k0 (Q37.st0 x.1 x.2.1 best t21_ t22_ b_2 b_3 b_4 b_5 b_6 b_7 b_8 b_9 b_10 b_11 b_12 m8_ m9_ m10_ m11_ m12_ m13_ m14_ m15_)) x.1 x.2.1 := by kernel_rfl
theorem Q37.runs (N : Nat) (b_ : TBoard) (depth : Int) : ∀ n, (∀ (best t21_ t22_ : Int) (b_2 : ByteArray) (b_3 b_4 : Int) (b_5 b_6 : Bool) (b_7 b_8 b_9 b_10 b_11 b_12 : Int) (m8_ : LMv) (m9_ : (List TPiece)) (m10_ : LInt) (m11_ : (List TEnd)) (m12_ m13_ m14_ : LInt) (m15_ : (List TUndo)), run tb (Q37.G N) Q37.A 8 (Q37.fin N) n Q37.k0 (Q37.st0 b_ depth best t21_ t22_ b_2 b_3 b_4 b_5 b_6 b_7 b_8 b_9 b_10 b_11 b_12 m8_ m9_ m10_ m11_ m12_ m13_ m14_ m15_) = Q37.l0 N (Q37 N) b_ depth n best t21_ t22_ b_2 b_3 b_4 b_5 b_6 b_7 b_8 b_9 b_10 b_11 b_12 m8_ m9_ m10_ m11_ m12_ m13_ m14_ m15_)
 | 0 => fun _ _ _ _ _ _ _ _ _ _ _ _ _ _ _ _ _ _ _ _ _ _ => rfl
 | n + 1 => by
  have h0 := Q37.runs N b_ depth n
  have e0 : (fun (best t21_ t22_ : Int) (b_2 : ByteArray) (b_3 b_4 : Int) (b_5 b_6 : Bool) (b_7 b_8 b_9 b_10 b_11 b_12 : Int) (m8_ : LMv) (m9_ : (List TPiece)) (m10_ : LInt) (m11_ : (List TEnd)) (m12_ m13_ m14_ : LInt) (m15_ : (List TUndo)) => run tb (Q37.G N) Q37.A 8 (Q37.fin N) n Q37.k0 (Q37.st0 b_ depth best t21_ t22_ b_2 b_3 b_4 b_5 b_6 b_7 b_8 b_9 b_10 b_11 b_12 m8_ m9_ m10_ m11_ m12_ m13_ m14_ m15_)) = Q37.l0 N (Q37 N) b_ depth n := by funext best t21_ t22_ b_2 b_3 b_4 b_5 b_6 b_7 b_8 b_9 b_10 b_11 b_12 m8_ m9_ m10_ m11_ m12_ m13_ m14_ m15_; exact h0 best t21_ t22_ b_2 b_3 b_4 b_5 b_6 b_7 b_8 b_9 b_10 b_11 b_12 m8_ m9_ m10_ m11_ m12_ m13_ m14_ m15_
  have g0 : (∀ (best t21_ t22_ : Int) (b_2 : ByteArray) (b_3 b_4 : Int) (b_5 b_6 : Bool) (b_7 b_8 b_9 b_10 b_11 b_12 : Int) (m8_ : LMv) (m9_ : (List TPiece)) (m10_ : LInt) (m11_ : (List TEnd)) (m12_ m13_ m14_ : LInt) (m15_ : (List TUndo)), run tb (Q37.G N) Q37.A 8 (Q37.fin N) (n + 1) Q37.k0 (Q37.st0 b_ depth best t21_ t22_ b_2 b_3 b_4 b_5 b_6 b_7 b_8 b_9 b_10 b_11 b_12 m8_ m9_ m10_ m11_ m12_ m13_ m14_ m15_) = Q37.l0 N (Q37 N) b_ depth (n + 1) best t21_ t22_ b_2 b_3 b_4 b_5 b_6 b_7 b_8 b_9 b_10 b_11 b_12 m8_ m9_ m10_ m11_ m12_ m13_ m14_ m15_) := by
   intro best t21_ t22_ b_2 b_3 b_4 b_5 b_6 b_7 b_8 b_9 b_10 b_11 b_12 m8_ m9_ m10_ m11_ m12_ m13_ m14_ m15_
   exact (run_succ (by kernel_rfl)).trans ((Q37.step0 N _ b_ depth best t21_ t22_ b_2 b_3 b_4 b_5 b_6 b_7 b_8 b_9 b_10 b_11 b_12 m8_ m9_ m10_ m11_ m12_ m13_ m14_ m15_).trans ((congrArg (fun r0 => Q37.s0 N (Q37 N) b_ depth r0 best t21_ t22_ b_2 b_3 b_4 b_5 b_6 b_7 b_8 b_9 b_10 b_11 b_12 m8_ m9_ m10_ m11_ m12_ m13_ m14_ m15_) e0).trans (Q37.l0_s N (Q37 N) b_ depth n best t21_ t22_ b_2 b_3 b_4 b_5 b_6 b_7 b_8 b_9 b_10 b_11 b_12 m8_ m9_ m10_ m11_ m12_ m13_ m14_ m15_).symm))
  exact g0
theorem Q37.ok1 (ih : FnOk Tryz.prog 37 (Q37.D N)) : FnOk Tryz.prog 37 (Q37.D (N + 1)) := by
 refine FnOk_of tb_ok (Checked.mixed Tryz.checked) ⟨Tryz.f37, Tryz.func37, by kernel_rfl, by kernel_rfl, fun x y h => ⟨Q37.G N, Q37.A, N, gamOf_ok (by simp only [List.forall_mem_cons, List.not_mem_nil, false_implies, implies_true, and_true]; exact ⟨⟨Q65.ok N, Q65.fit N⟩, ⟨Q67.ok N, Q67.fit N⟩, ⟨Q66.ok N, Q66.fit N⟩, ⟨Q68.ok N, Q68.fit N⟩, ⟨Q69.ok N, Q69.fit N⟩, ⟨Q70.ok N, Q70.fit N⟩, ⟨Q71.ok N, Q71.fit N⟩, ⟨ih, Q37.fit N⟩⟩), ?_⟩⟩ (Q37.fit (N + 1))
 rw [absFn_n (n0 := 8) rfl (by kernel_rfl)]
 refine (Q37.entry N (run tb (Q37.G N) Q37.A 8 (Q37.fin N) N) x).trans ?_
 have e0 : (fun (best t21_ t22_ : Int) (b_2 : ByteArray) (b_3 b_4 : Int) (b_5 b_6 : Bool) (b_7 b_8 b_9 b_10 b_11 b_12 : Int) (m8_ : LMv) (m9_ : (List TPiece)) (m10_ : LInt) (m11_ : (List TEnd)) (m12_ m13_ m14_ : LInt) (m15_ : (List TUndo)) => run tb (Q37.G N) Q37.A 8 (Q37.fin N) N Q37.k0 (Q37.st0 x.1 x.2.1 best t21_ t22_ b_2 b_3 b_4 b_5 b_6 b_7 b_8 b_9 b_10 b_11 b_12 m8_ m9_ m10_ m11_ m12_ m13_ m14_ m15_)) = Q37.l0 N (Q37 N) x.1 x.2.1 N := by funext best t21_ t22_ b_2 b_3 b_4 b_5 b_6 b_7 b_8 b_9 b_10 b_11 b_12 m8_ m9_ m10_ m11_ m12_ m13_ m14_ m15_; exact (Q37.runs N x.1 x.2.1 N) best t21_ t22_ b_2 b_3 b_4 b_5 b_6 b_7 b_8 b_9 b_10 b_11 b_12 m8_ m9_ m10_ m11_ m12_ m13_ m14_ m15_
 have h' : (Q37.D (N + 1)).f x = Q37.e N (Q37 N) (Q37.l0 N (Q37 N) x.1 x.2.1 N) x.1 x.2.1 := by kernel_rfl
 exact (congrArg (fun r0 => Q37.e N (Q37 N) r0 x.1 x.2.1) e0).trans (h'.symm.trans h)
theorem Q37.ok : ∀ N, FnOk Tryz.prog 37 (Q37.D N)
 | 0 => FnOk_none Tryz.func37 (by kernel_rfl) (by kernel_rfl) (fun x => rfl)
 | N + 1 => Q37.ok1 N (Q37.ok N)
def Q13.as : List MK := [.d true qa, .d true qc, .d false tI]
def Q13.rs : List (Bool × HT) := [(false, (.d tI)), (false, (.d tI))]
def Q13.lc : List AC := []
def Q13.D : DFn := ⟨Q13.as, Q13.rs, (Int × Int), fun x => Q13 N x.1 x.2.1 x.2.2.1, fun r o => (r.1, r.2.1), fun b => (b.1, (b.2, ())), fun b => (), none⟩
theorem Q13.fit : (Q13.D N).Fit := ⟨fun _ _ => rfl, fun _ _ => rfl, by kernel_rfl, (fun _ _ h => nomatch h), by kernel_rfl⟩
noncomputable def Q13.G : Gam := gamOf [(35, Q35.D N), (36, Q36.D N), (37, Q37.D N)]
def Q13.A : LA := fun _ => none
noncomputable def Q13.fin : St → Option (Int × Int) := resK tb Tryz.f13.results.toList (decRes (Q13.D N) Q13.lc)
theorem Q13.entry (rec : RK (Int × Int)) (x : (argH Q13.as).den) : seg tb (Q13.G N) Q13.A 0 rec (Q13.fin N) segFuel [.code (bodyOf Tryz.f13)] (initSt Tryz.f13 (encArgs Q13.as x) (encMem Q13.as x)) = Q13.e N x.1 x.2.1 x.2.2.1 := by kernel_rfl
theorem Q13.ok : FnOk Tryz.prog 13 (Q13.D N) := by
 refine FnOk_of tb_ok (Checked.mixed Tryz.checked) ⟨Tryz.f13, Tryz.func13, by kernel_rfl, by kernel_rfl, fun x y h => ⟨Q13.G N, Q13.A, N, gamOf_ok (gc ⟨Q35.ok N, Q35.fit N⟩ (gc ⟨Q36.ok N, Q36.fit N⟩ (gc ⟨Q37.ok N, Q37.fit N⟩ gn))), ?_⟩⟩ (Q13.fit N)
 rw [absFn_n (n0 := 0) rfl (by kernel_rfl)]
 exact (Q13.entry N _ x).trans h
def Q43.as : List MK := [.o (.ptr 63 (.prod (.prod (.d .str) (.prod (.d tI) (.prod (.d tI) (.prod (.own 89 qb) (.prod (.own 3 tI) (.prod (.d .bool) (.prod (.d .bool) (.prod (.own 91 qe) (.d qd))))))))) (.prod (.own 33 qc) (.prod (.own 23 (.slice 3 tI)) (.prod (.own 43 (.slice 80 qd)) (.prod (.own 35 (.prod tI tI)) (.mp false false .str tI))))))) true, .d true qc]
def Q43.rs : List (Bool × HT) := [(false, (.d tI)), (false, (.d tI))]
def Q43.lc : List AC := [.ptr 0 0]
def Q43.D : DFn := ⟨Q43.as, Q43.rs, (Int × Int × TTab), fun x => Q43 N x.1 x.2.1, fun r o => (r.1, r.2.1, o.1), fun b => (b.1, (b.2.1, ())), fun b => (b.2.2, ()), none⟩
theorem Q43.fit : (Q43.D N).Fit := ⟨fun _ _ => rfl, fun _ _ => rfl, by kernel_rfl, (fun _ _ h => nomatch h), by kernel_rfl⟩
noncomputable def Q43.G : Gam := gamOf [(40, Q40.D N), (53, Q53.D N)]
def Q43.A : LA := fun _ => none
noncomputable def Q43.fin : St → Option (Int × Int × TTab) := resK tb Tryz.f43.results.toList (decRes (Q43.D N) Q43.lc)
theorem Q43.entry (rec : RK (Int × Int × TTab)) (x : (argH Q43.as).den) : seg tb (Q43.G N) Q43.A 9 rec (Q43.fin N) segFuel [.code (bodyOf Tryz.f43)] (initSt Tryz.f43 (encArgs Q43.as x) (encMem Q43.as x)) = Q43.e N x.1 x.2.1 := by kernel_rfl
theorem Q43.ok : FnOk Tryz.prog 43 (Q43.D N) := by
 refine FnOk_of tb_ok (Checked.mixed Tryz.checked) ⟨Tryz.f43, Tryz.func43, by kernel_rfl, by kernel_rfl, fun x y h => ⟨Q43.G N, Q43.A, N, gamOf_ok (gc ⟨Q40.ok N, Q40.fit N⟩ (gc ⟨Q53.ok N, Q53.fit N⟩ gn)), ?_⟩⟩ (Q43.fit N)
 rw [absFn_n (n0 := 9) rfl (by kernel_rfl)]
 exact (Q43.entry N _ x).trans h
def Q22.as : List MK := [.o (.ptr 63 (.prod (.prod (.d .str) (.prod (.d tI) (.prod (.d tI) (.prod (.own 89 qb) (.prod (.own 3 tI) (.prod (.d .bool) (.prod (.d .bool) (.prod (.own 91 qe) (.d qd))))))))) (.prod (.own 33 qc) (.prod (.own 23 (.slice 3 tI)) (.prod (.own 43 (.slice 80 qd)) (.prod (.own 35 (.prod tI tI)) (.mp false false .str tI))))))) true, .d true qc]
def Q22.rs : List (Bool × HT) := [(true, (.d (.prod tI tI))), (false, (.d tI))]
def Q22.lc : List AC := [.ptr 0 0]
def Q22.D : DFn := ⟨Q22.as, Q22.rs, ((Int × Int) × Int × TTab), fun x => Q22 N x.1 x.2.1, fun r o => (r.1, r.2.1, o.1), fun b => (b.1, (b.2.1, ())), fun b => (b.2.2, ()), none⟩
theorem Q22.fit : (Q22.D N).Fit := ⟨fun _ _ => rfl, fun _ _ => rfl, by kernel_rfl, (fun _ _ h => nomatch h), by kernel_rfl⟩
noncomputable def Q22.G : Gam := gamOf [(43, Q43.D N)]
def Q22.A : LA := fun _ => none
noncomputable def Q22.fin : St → Option ((Int × Int) × Int × TTab) := resK tb Tryz.f22.results.toList (decRes (Q22.D N) Q22.lc)
theorem Q22.entry (rec : RK ((Int × Int) × Int × TTab)) (x : (argH Q22.as).den) : seg tb (Q22.G N) Q22.A 9 rec (Q22.fin N) segFuel [.code (bodyOf Tryz.f22)] (initSt Tryz.f22 (encArgs Q22.as x) (encMem Q22.as x)) = Q22.e N x.1 x.2.1 := by kernel_rfl
theorem Q22.ok : FnOk Tryz.prog 22 (Q22.D N) := by
 refine FnOk_of tb_ok (Checked.mixed Tryz.checked) ⟨Tryz.f22, Tryz.func22, by kernel_rfl, by kernel_rfl, fun x y h => ⟨Q22.G N, Q22.A, N, gamOf_ok (gc ⟨Q43.ok N, Q43.fit N⟩ gn), ?_⟩⟩ (Q22.fit N)
 rw [absFn_n (n0 := 9) rfl (by kernel_rfl)]
 exact (Q22.entry N _ x).trans h
def Q23.as : List MK := [.o (.ptr 63 (.prod (.prod (.d .str) (.prod (.d tI) (.prod (.d tI) (.prod (.own 89 qb) (.prod (.own 3 tI) (.prod (.d .bool) (.prod (.d .bool) (.prod (.own 91 qe) (.d qd))))))))) (.prod (.own 33 qc) (.prod (.own 23 (.slice 3 tI)) (.prod (.own 43 (.slice 80 qd)) (.prod (.own 35 (.prod tI tI)) (.mp false false .str tI))))))) true, .d true qc]
def Q23.rs : List (Bool × HT) := [(false, (.own 80 qd)), (false, (.d tI))]
def Q23.lc : List AC := [.ptr 0 0]
def Q23.D : DFn := ⟨Q23.as, Q23.rs, (LMv × Int × TTab), fun x => Q23 N x.1 x.2.1, fun r o => (r.1, r.2.1, o.1), fun b => (b.1, (b.2.1, ())), fun b => (b.2.2, ()), none⟩
theorem Q23.fit : (Q23.D N).Fit := ⟨fun _ _ => rfl, fun _ _ => rfl, by kernel_rfl, (fun _ _ h => nomatch h), by kernel_rfl⟩
noncomputable def Q23.G : Gam := gamOf [(43, Q43.D N)]
def Q23.A : LA := fun k => bif Nat.beq k 0 then some ⟨[0, 6, 8, 9, 10, 51, 52, 53], [(10, 80)], [], [(false, 10, 0, 20)], [9], 21, false⟩ else none
noncomputable def Q23.fin : St → Option (LMv × Int × TTab) := resK tb Tryz.f23.results.toList (decRes (Q23.D N) Q23.lc)
noncomputable def Q23.k0 : List Item := stackAt [.r, .r, .r, .r, .r, .r, .r, .l, .r, .b] (bodyOf Tryz.f23) []
def Q23.st0 (t_ : TTab) (p_ : TPos) (i_ : Int) (t51_ : LInt) (t52_ t53_ : Int) (t_2 : ByteArray) (t_3 t_4 : Int) (t_5 t_6 : Bool) (t_7 t_8 t_9 : Int) (m10_ : (List TPiece)) (m11_ : LInt) (m12_ : (List TEnd)) (m13_ : (List TPos)) (m14_ : (List LInt)) (m15_ : (List LMv)) (m16_ : (List (Int × Int))) (m17_ : (List (ByteArray × Int))) (x_ x_2 want want2 : Int) (out : LMv) : St := ⟨[.one (.ptr 0 0)] ++ rA 5 ++ [oi i_, oA, .one (.ptr 18 0), .one (.ptr 19 0), .one (.own 20)] ++ rA 40 ++ [.one (.fro 3 tI t51_), oi t52_, oi t53_] ++ rA 44, [.var 63 [.str t_2, .int .i64 t_3, .int .i64 t_4, .own 10, .own 11, .bool t_5, .bool t_6, .own 12, .int .i64 t_7, .int .i64 t_8, .int .i64 t_9, .own 13, .own 14, .own 15, .own 16, .own 17], .gone, .gone, .gone, .gone, .gone, .gone, .gone, .gone, .gone, .row 89 qb m10_, .row 3 tI m11_, .row 91 qe m12_, .row 33 qc m13_, .row 23 (.slice 3 tI) m14_, .row 43 (.slice 80 qd) m15_, .row 35 (.prod tI tI) m16_, .mapo false false .str tI m17_, .var 35 [.int .i64 x_, .int .i64 x_2], .var 35 [.int .i64 want, .int .i64 want2], .row 80 qd out]⟩
theorem Q23.step0 (rec : RK (LMv × Int × TTab)) (t_ : TTab) (p_ : TPos) (i_ : Int) (t51_ : LInt) (t52_ t53_ : Int) (t_2 : ByteArray) (t_3 t_4 : Int) (t_5 t_6 : Bool) (t_7 t_8 t_9 : Int) (m10_ : (List TPiece)) (m11_ : LInt) (m12_ : (List TEnd)) (m13_ : (List TPos)) (m14_ : (List LInt)) (m15_ : (List LMv)) (m16_ : (List (Int × Int))) (m17_ : (List (ByteArray × Int))) (x_ x_2 want want2 : Int) (out : LMv) : seg tb (Q23.G N) Q23.A 9 rec (Q23.fin N) segFuel (loopBody Q23.k0) (Q23.st0 t_ p_ i_ t51_ t52_ t53_ t_2 t_3 t_4 t_5 t_6 t_7 t_8 t_9 m10_ m11_ m12_ m13_ m14_ m15_ m16_ m17_ x_ x_2 want want2 out) = Q23.s0 N t_ p_ (fun i_ t51_ t52_ t53_ t_2 t_3 t_4 t_5 t_6 t_7 t_8 t_9 m10_ m11_ m12_ m13_ m14_ m15_ m16_ m17_ x_ x_2 want want2 out => rec Q23.k0 (Q23.st0 t_ p_ i_ t51_ t52_ t53_ t_2 t_3 t_4 t_5 t_6 t_7 t_8 t_9 m10_ m11_ m12_ m13_ m14_ m15_ m16_ m17_ x_ x_2 want want2 out)) i_ t51_ t52_ t53_ t_2 t_3 t_4 t_5 t_6 t_7 t_8 t_9 m10_ m11_ m12_ m13_ m14_ m15_ m16_ m17_ x_ x_2 want want2 out := by kernel_rfl
theorem Q23.entry (rec : RK (LMv × Int × TTab)) (x : (argH Q23.as).den) : seg tb (Q23.G N) Q23.A 9 rec (Q23.fin N) segFuel [.code (bodyOf Tryz.f23)] (initSt Tryz.f23 (encArgs Q23.as x) (encMem Q23.as x)) = Q23.e N (fun i_ t51_ t52_ t53_ t_2 t_3 t_4 t_5 t_6 t_7 t_8 t_9 m10_ m11_ m12_ m13_ m14_ m15_ m16_ m17_ x_ x_2 want want2 out => rec Q23.k0 (Q23.st0 x.1 x.2.1 i_ t51_ t52_ t53_ t_2 t_3 t_4 t_5 t_6 t_7 t_8 t_9 m10_ m11_ m12_ m13_ m14_ m15_ m16_ m17_ x_ x_2 want want2 out)) x.1 x.2.1 := by kernel_rfl
theorem Q23.runs (N : Nat) (t_ : TTab) (p_ : TPos) : ∀ n, (∀ (i_ : Int) (t51_ : LInt) (t52_ t53_ : Int) (t_2 : ByteArray) (t_3 t_4 : Int) (t_5 t_6 : Bool) (t_7 t_8 t_9 : Int) (m10_ : (List TPiece)) (m11_ : LInt) (m12_ : (List TEnd)) (m13_ : (List TPos)) (m14_ : (List LInt)) (m15_ : (List LMv)) (m16_ : (List (Int × Int))) (m17_ : (List (ByteArray × Int))) (x_ x_2 want want2 : Int) (out : LMv), run tb (Q23.G N) Q23.A 9 (Q23.fin N) n Q23.k0 (Q23.st0 t_ p_ i_ t51_ t52_ t53_ t_2 t_3 t_4 t_5 t_6 t_7 t_8 t_9 m10_ m11_ m12_ m13_ m14_ m15_ m16_ m17_ x_ x_2 want want2 out) = Q23.l0 N t_ p_ n i_ t51_ t52_ t53_ t_2 t_3 t_4 t_5 t_6 t_7 t_8 t_9 m10_ m11_ m12_ m13_ m14_ m15_ m16_ m17_ x_ x_2 want want2 out)
 | 0 => fun _ _ _ _ _ _ _ _ _ _ _ _ _ _ _ _ _ _ _ _ _ _ _ _ _ => rfl
 | n + 1 => by
  have h0 := Q23.runs N t_ p_ n
  have e0 : (fun (i_ : Int) (t51_ : LInt) (t52_ t53_ : Int) (t_2 : ByteArray) (t_3 t_4 : Int) (t_5 t_6 : Bool) (t_7 t_8 t_9 : Int) (m10_ : (List TPiece)) (m11_ : LInt) (m12_ : (List TEnd)) (m13_ : (List TPos)) (m14_ : (List LInt)) (m15_ : (List LMv)) (m16_ : (List (Int × Int))) (m17_ : (List (ByteArray × Int))) (x_ x_2 want want2 : Int) (out : LMv) => run tb (Q23.G N) Q23.A 9 (Q23.fin N) n Q23.k0 (Q23.st0 t_ p_ i_ t51_ t52_ t53_ t_2 t_3 t_4 t_5 t_6 t_7 t_8 t_9 m10_ m11_ m12_ m13_ m14_ m15_ m16_ m17_ x_ x_2 want want2 out)) = Q23.l0 N t_ p_ n := by funext i_ t51_ t52_ t53_ t_2 t_3 t_4 t_5 t_6 t_7 t_8 t_9 m10_ m11_ m12_ m13_ m14_ m15_ m16_ m17_ x_ x_2 want want2 out; exact h0 i_ t51_ t52_ t53_ t_2 t_3 t_4 t_5 t_6 t_7 t_8 t_9 m10_ m11_ m12_ m13_ m14_ m15_ m16_ m17_ x_ x_2 want want2 out
  have g0 : (∀ (i_ : Int) (t51_ : LInt) (t52_ t53_ : Int) (t_2 : ByteArray) (t_3 t_4 : Int) (t_5 t_6 : Bool) (t_7 t_8 t_9 : Int) (m10_ : (List TPiece)) (m11_ : LInt) (m12_ : (List TEnd)) (m13_ : (List TPos)) (m14_ : (List LInt)) (m15_ : (List LMv)) (m16_ : (List (Int × Int))) (m17_ : (List (ByteArray × Int))) (x_ x_2 want want2 : Int) (out : LMv), run tb (Q23.G N) Q23.A 9 (Q23.fin N) (n + 1) Q23.k0 (Q23.st0 t_ p_ i_ t51_ t52_ t53_ t_2 t_3 t_4 t_5 t_6 t_7 t_8 t_9 m10_ m11_ m12_ m13_ m14_ m15_ m16_ m17_ x_ x_2 want want2 out) = Q23.l0 N t_ p_ (n + 1) i_ t51_ t52_ t53_ t_2 t_3 t_4 t_5 t_6 t_7 t_8 t_9 m10_ m11_ m12_ m13_ m14_ m15_ m16_ m17_ x_ x_2 want want2 out) := by
   intro i_ t51_ t52_ t53_ t_2 t_3 t_4 t_5 t_6 t_7 t_8 t_9 m10_ m11_ m12_ m13_ m14_ m15_ m16_ m17_ x_ x_2 want want2 out
   exact (run_succ (by kernel_rfl)).trans ((Q23.step0 N _ t_ p_ i_ t51_ t52_ t53_ t_2 t_3 t_4 t_5 t_6 t_7 t_8 t_9 m10_ m11_ m12_ m13_ m14_ m15_ m16_ m17_ x_ x_2 want want2 out).trans ((congrArg (fun r0 => Q23.s0 N t_ p_ r0 i_ t51_ t52_ t53_ t_2 t_3 t_4 t_5 t_6 t_7 t_8 t_9 m10_ m11_ m12_ m13_ m14_ m15_ m16_ m17_ x_ x_2 want want2 out) e0).trans (Q23.l0_s N t_ p_ n i_ t51_ t52_ t53_ t_2 t_3 t_4 t_5 t_6 t_7 t_8 t_9 m10_ m11_ m12_ m13_ m14_ m15_ m16_ m17_ x_ x_2 want want2 out).symm))
  exact g0
theorem Q23.ok : FnOk Tryz.prog 23 (Q23.D N) := by
 refine FnOk_of tb_ok (Checked.mixed Tryz.checked) ⟨Tryz.f23, Tryz.func23, by kernel_rfl, by kernel_rfl, fun x y h => ⟨Q23.G N, Q23.A, N, gamOf_ok (gc ⟨Q43.ok N, Q43.fit N⟩ gn), ?_⟩⟩ (Q23.fit N)
 rw [absFn_n (n0 := 9) rfl (by kernel_rfl)]
 refine (Q23.entry N (run tb (Q23.G N) Q23.A 9 (Q23.fin N) N) x).trans ?_
 have e0 : (fun (i_ : Int) (t51_ : LInt) (t52_ t53_ : Int) (t_2 : ByteArray) (t_3 t_4 : Int) (t_5 t_6 : Bool) (t_7 t_8 t_9 : Int) (m10_ : (List TPiece)) (m11_ : LInt) (m12_ : (List TEnd)) (m13_ : (List TPos)) (m14_ : (List LInt)) (m15_ : (List LMv)) (m16_ : (List (Int × Int))) (m17_ : (List (ByteArray × Int))) (x_ x_2 want want2 : Int) (out : LMv) => run tb (Q23.G N) Q23.A 9 (Q23.fin N) N Q23.k0 (Q23.st0 x.1 x.2.1 i_ t51_ t52_ t53_ t_2 t_3 t_4 t_5 t_6 t_7 t_8 t_9 m10_ m11_ m12_ m13_ m14_ m15_ m16_ m17_ x_ x_2 want want2 out)) = Q23.l0 N x.1 x.2.1 N := by funext i_ t51_ t52_ t53_ t_2 t_3 t_4 t_5 t_6 t_7 t_8 t_9 m10_ m11_ m12_ m13_ m14_ m15_ m16_ m17_ x_ x_2 want want2 out; exact (Q23.runs N x.1 x.2.1 N) i_ t51_ t52_ t53_ t_2 t_3 t_4 t_5 t_6 t_7 t_8 t_9 m10_ m11_ m12_ m13_ m14_ m15_ m16_ m17_ x_ x_2 want want2 out
 have h' : (Q23.D N).f x = Q23.e N (Q23.l0 N x.1 x.2.1 N) x.1 x.2.1 := by kernel_rfl
 exact (congrArg (fun r0 => Q23.e N r0 x.1 x.2.1) e0).trans (h'.symm.trans h)
def Q9.as : List MK := [.o (.ptr 72 (.prod (.prod (.d .str) (.prod (.d tI) (.prod (.d tI) (.prod (.own 89 qb) (.prod (.own 3 tI) (.prod (.d .bool) (.prod (.d .bool) (.prod (.own 91 qe) (.d qd))))))))) (.prod (.ptr 63 (.prod (.prod (.d .str) (.prod (.d tI) (.prod (.d tI) (.prod (.own 89 qb) (.prod (.own 3 tI) (.prod (.d .bool) (.prod (.d .bool) (.prod (.own 91 qe) (.d qd))))))))) (.prod (.own 33 qc) (.prod (.own 23 (.slice 3 tI)) (.prod (.own 43 (.slice 80 qd)) (.prod (.own 35 (.prod tI tI)) (.mp false false .str tI))))))) (.d (.prod .unit (.prod .unit tI)))))) true, .d true qc, .d false tI]
def Q9.rs : List (Bool × HT) := [(false, (.own 80 qd)), (false, (.d tI))]
def Q9.lc : List AC := [.ptr 0 0]
def Q9.D : DFn := ⟨Q9.as, Q9.rs, (LMv × Int × (TRules × (TTab × (Unit × (Unit × Int))))), fun x => Q9 N x.1 x.2.1 x.2.2.1, fun r o => (r.1, r.2.1, o.1), fun b => (b.1, (b.2.1, ())), fun b => (b.2.2, ()), some [4]⟩
theorem Q9.fit : (Q9.D N).Fit := ⟨fun _ _ => rfl, fun _ _ => rfl, by kernel_rfl, (fun x L h => by cases h; kernel_rfl), by kernel_rfl⟩
noncomputable def Q9.G : Gam := gamOf [(22, Q22.D N), (23, Q23.D N), (24, Q24.D N)]
def Q9.A : LA := fun k => bif Nat.beq k 0 then some ⟨[0, 4, 10, 31, 32], [(10, 80)], [(13, 0, 5000000), (13, 1, 5000000), (13, 2, 5000000)], [(true, 4, 3, 14), (true, 4, 4, 15), (true, 4, 7, 16), (true, 4, 11, 17), (true, 4, 12, 18), (true, 4, 13, 19), (true, 4, 14, 20), (true, 4, 15, 21), (false, 10, 0, 23)], [22], 24, false⟩ else bif Nat.beq k 3000022 then some ⟨[], [], [], [], [], 0, false⟩ else bif Nat.beq k 3000023 then some ⟨[], [], [], [], [], 0, false⟩ else bif Nat.beq k 3999999 then some ⟨[], [], [], [], [], 0, false⟩ else none
noncomputable def Q9.fin : St → Option (LMv × Int × (TRules × (TTab × (Unit × (Unit × Int))))) := resK tb Tryz.f9.results.toList (decRes (Q9.D N) Q9.lc)
noncomputable def Q9.k0 : List Item := stackAt [.r, .r, .r, .r, .l, .r, .b] (bodyOf Tryz.f9) []
def Q9.st0 (x_ : (TRules × (TTab × (Unit × (Unit × Int))))) (p_ : TPos) (most t32_ : Int) (m4_ : ByteArray) (m4_2 m4_3 : Int) (m4_4 m4_5 : Bool) (m4_6 m4_7 m4_8 : Int) (p_2 p_3 p_4 : LInt) (p_5 p_6 : Int) (m14_ : (List TPiece)) (m15_ : LInt) (m16_ : (List TEnd)) (m17_ : (List TPos)) (m18_ : (List LInt)) (m19_ : (List LMv)) (m20_ : (List (Int × Int))) (m21_ : (List (ByteArray × Int))) (out : LMv) : St := ⟨[.one (.ptr 0 0)] ++ rA 3 ++ [.one (.ptr 13 0)] ++ rA 5 ++ [.one (.own 23)] ++ rA 20 ++ [oi most, oi t32_] ++ rA 29, [.var 72 [.str x_.1.1, .int .i64 x_.1.2.1, .int .i64 x_.1.2.2.1, .own 1, .own 2, .bool x_.1.2.2.2.2.2.1, .bool x_.1.2.2.2.2.2.2.1, .own 3, .int .i64 x_.1.2.2.2.2.2.2.2.2.1, .int .i64 x_.1.2.2.2.2.2.2.2.2.2.1, .int .i64 x_.1.2.2.2.2.2.2.2.2.2.2, .ptr 4 0, .int .i64 x_.2.2.2.2], .row 89 qb x_.1.2.2.2.1, .row 3 tI x_.1.2.2.2.2.1, .row 91 qe x_.1.2.2.2.2.2.2.2.1, .var 63 [.str m4_, .int .i64 m4_2, .int .i64 m4_3, .own 14, .own 15, .bool m4_4, .bool m4_5, .own 16, .int .i64 m4_6, .int .i64 m4_7, .int .i64 m4_8, .own 17, .own 18, .own 19, .own 20, .own 21], .gone, .gone, .gone, .gone, .gone, .gone, .gone, .gone, .var 33 [.fro 3 tI p_2, .fro 3 tI p_3, .fro 3 tI p_4, .int .i64 p_5, .int .i64 p_6], .row 89 qb m14_, .row 3 tI m15_, .row 91 qe m16_, .row 33 qc m17_, .row 23 (.slice 3 tI) m18_, .row 43 (.slice 80 qd) m19_, .row 35 (.prod tI tI) m20_, .mapo false false .str tI m21_, .gone, .row 80 qd out]⟩
theorem Q9.step0 (rec : RK (LMv × Int × (TRules × (TTab × (Unit × (Unit × Int)))))) (x_ : (TRules × (TTab × (Unit × (Unit × Int))))) (p_ : TPos) (most t32_ : Int) (m4_ : ByteArray) (m4_2 m4_3 : Int) (m4_4 m4_5 : Bool) (m4_6 m4_7 m4_8 : Int) (p_2 p_3 p_4 : LInt) (p_5 p_6 : Int) (m14_ : (List TPiece)) (m15_ : LInt) (m16_ : (List TEnd)) (m17_ : (List TPos)) (m18_ : (List LInt)) (m19_ : (List LMv)) (m20_ : (List (Int × Int))) (m21_ : (List (ByteArray × Int))) (out : LMv) : seg tb (Q9.G N) Q9.A 13 rec (Q9.fin N) segFuel (loopBody Q9.k0) (Q9.st0 x_ p_ most t32_ m4_ m4_2 m4_3 m4_4 m4_5 m4_6 m4_7 m4_8 p_2 p_3 p_4 p_5 p_6 m14_ m15_ m16_ m17_ m18_ m19_ m20_ m21_ out) = Q9.s0 N x_ p_ most (fun t32_ m4_ m4_2 m4_3 m4_4 m4_5 m4_6 m4_7 m4_8 p_2 p_3 p_4 p_5 p_6 m14_ m15_ m16_ m17_ m18_ m19_ m20_ m21_ out => rec Q9.k0 (Q9.st0 x_ p_ most t32_ m4_ m4_2 m4_3 m4_4 m4_5 m4_6 m4_7 m4_8 p_2 p_3 p_4 p_5 p_6 m14_ m15_ m16_ m17_ m18_ m19_ m20_ m21_ out)) t32_ m4_ m4_2 m4_3 m4_4 m4_5 m4_6 m4_7 m4_8 p_2 p_3 p_4 p_5 p_6 m14_ m15_ m16_ m17_ m18_ m19_ m20_ m21_ out := by kernel_rfl
theorem Q9.entry (rec : RK (LMv × Int × (TRules × (TTab × (Unit × (Unit × Int)))))) (x : (argH Q9.as).den) : seg tb (Q9.G N) Q9.A 13 rec (Q9.fin N) segFuel [.code (bodyOf Tryz.f9)] (initSt Tryz.f9 (encArgs Q9.as x) (encMem Q9.as x)) = Q9.e N (fun t32_ m4_ m4_2 m4_3 m4_4 m4_5 m4_6 m4_7 m4_8 p_2 p_3 p_4 p_5 p_6 m14_ m15_ m16_ m17_ m18_ m19_ m20_ m21_ out => rec Q9.k0 (Q9.st0 x.1 x.2.1 x.2.2.1 t32_ m4_ m4_2 m4_3 m4_4 m4_5 m4_6 m4_7 m4_8 p_2 p_3 p_4 p_5 p_6 m14_ m15_ m16_ m17_ m18_ m19_ m20_ m21_ out)) x.1 x.2.1 x.2.2.1 := by kernel_rfl
theorem Q9.runs (N : Nat) (x_ : (TRules × (TTab × (Unit × (Unit × Int))))) (p_ : TPos) (most : Int) : ∀ n, (∀ (t32_ : Int) (m4_ : ByteArray) (m4_2 m4_3 : Int) (m4_4 m4_5 : Bool) (m4_6 m4_7 m4_8 : Int) (p_2 p_3 p_4 : LInt) (p_5 p_6 : Int) (m14_ : (List TPiece)) (m15_ : LInt) (m16_ : (List TEnd)) (m17_ : (List TPos)) (m18_ : (List LInt)) (m19_ : (List LMv)) (m20_ : (List (Int × Int))) (m21_ : (List (ByteArray × Int))) (out : LMv), run tb (Q9.G N) Q9.A 13 (Q9.fin N) n Q9.k0 (Q9.st0 x_ p_ most t32_ m4_ m4_2 m4_3 m4_4 m4_5 m4_6 m4_7 m4_8 p_2 p_3 p_4 p_5 p_6 m14_ m15_ m16_ m17_ m18_ m19_ m20_ m21_ out) = Q9.l0 N x_ p_ most n t32_ m4_ m4_2 m4_3 m4_4 m4_5 m4_6 m4_7 m4_8 p_2 p_3 p_4 p_5 p_6 m14_ m15_ m16_ m17_ m18_ m19_ m20_ m21_ out)
 | 0 => fun _ _ _ _ _ _ _ _ _ _ _ _ _ _ _ _ _ _ _ _ _ _ _ => rfl
 | n + 1 => by
  have h0 := Q9.runs N x_ p_ most n
  have e0 : (fun (t32_ : Int) (m4_ : ByteArray) (m4_2 m4_3 : Int) (m4_4 m4_5 : Bool) (m4_6 m4_7 m4_8 : Int) (p_2 p_3 p_4 : LInt) (p_5 p_6 : Int) (m14_ : (List TPiece)) (m15_ : LInt) (m16_ : (List TEnd)) (m17_ : (List TPos)) (m18_ : (List LInt)) (m19_ : (List LMv)) (m20_ : (List (Int × Int))) (m21_ : (List (ByteArray × Int))) (out : LMv) => run tb (Q9.G N) Q9.A 13 (Q9.fin N) n Q9.k0 (Q9.st0 x_ p_ most t32_ m4_ m4_2 m4_3 m4_4 m4_5 m4_6 m4_7 m4_8 p_2 p_3 p_4 p_5 p_6 m14_ m15_ m16_ m17_ m18_ m19_ m20_ m21_ out)) = Q9.l0 N x_ p_ most n := by funext t32_ m4_ m4_2 m4_3 m4_4 m4_5 m4_6 m4_7 m4_8 p_2 p_3 p_4 p_5 p_6 m14_ m15_ m16_ m17_ m18_ m19_ m20_ m21_ out; exact h0 t32_ m4_ m4_2 m4_3 m4_4 m4_5 m4_6 m4_7 m4_8 p_2 p_3 p_4 p_5 p_6 m14_ m15_ m16_ m17_ m18_ m19_ m20_ m21_ out
  have g0 : (∀ (t32_ : Int) (m4_ : ByteArray) (m4_2 m4_3 : Int) (m4_4 m4_5 : Bool) (m4_6 m4_7 m4_8 : Int) (p_2 p_3 p_4 : LInt) (p_5 p_6 : Int) (m14_ : (List TPiece)) (m15_ : LInt) (m16_ : (List TEnd)) (m17_ : (List TPos)) (m18_ : (List LInt)) (m19_ : (List LMv)) (m20_ : (List (Int × Int))) (m21_ : (List (ByteArray × Int))) (out : LMv), run tb (Q9.G N) Q9.A 13 (Q9.fin N) (n + 1) Q9.k0 (Q9.st0 x_ p_ most t32_ m4_ m4_2 m4_3 m4_4 m4_5 m4_6 m4_7 m4_8 p_2 p_3 p_4 p_5 p_6 m14_ m15_ m16_ m17_ m18_ m19_ m20_ m21_ out) = Q9.l0 N x_ p_ most (n + 1) t32_ m4_ m4_2 m4_3 m4_4 m4_5 m4_6 m4_7 m4_8 p_2 p_3 p_4 p_5 p_6 m14_ m15_ m16_ m17_ m18_ m19_ m20_ m21_ out) := by
   intro t32_ m4_ m4_2 m4_3 m4_4 m4_5 m4_6 m4_7 m4_8 p_2 p_3 p_4 p_5 p_6 m14_ m15_ m16_ m17_ m18_ m19_ m20_ m21_ out
   exact (run_succ (by kernel_rfl)).trans ((Q9.step0 N _ x_ p_ most t32_ m4_ m4_2 m4_3 m4_4 m4_5 m4_6 m4_7 m4_8 p_2 p_3 p_4 p_5 p_6 m14_ m15_ m16_ m17_ m18_ m19_ m20_ m21_ out).trans ((congrArg (fun r0 => Q9.s0 N x_ p_ most r0 t32_ m4_ m4_2 m4_3 m4_4 m4_5 m4_6 m4_7 m4_8 p_2 p_3 p_4 p_5 p_6 m14_ m15_ m16_ m17_ m18_ m19_ m20_ m21_ out) e0).trans (Q9.l0_s N x_ p_ most n t32_ m4_ m4_2 m4_3 m4_4 m4_5 m4_6 m4_7 m4_8 p_2 p_3 p_4 p_5 p_6 m14_ m15_ m16_ m17_ m18_ m19_ m20_ m21_ out).symm))
  exact g0
theorem Q9.ok : FnOk Tryz.prog 9 (Q9.D N) := by
 refine FnOk_of tb_ok (Checked.mixed Tryz.checked) ⟨Tryz.f9, Tryz.func9, by kernel_rfl, by kernel_rfl, fun x y h => ⟨Q9.G N, Q9.A, N, gamOf_ok (gc ⟨Q22.ok N, Q22.fit N⟩ (gc ⟨Q23.ok N, Q23.fit N⟩ (gc ⟨Q24.ok N, Q24.fit N⟩ gn))), ?_⟩⟩ (Q9.fit N)
 rw [absFn_n (n0 := 13) rfl (by kernel_rfl)]
 refine (Q9.entry N (run tb (Q9.G N) Q9.A 13 (Q9.fin N) N) x).trans ?_
 have e0 : (fun (t32_ : Int) (m4_ : ByteArray) (m4_2 m4_3 : Int) (m4_4 m4_5 : Bool) (m4_6 m4_7 m4_8 : Int) (p_2 p_3 p_4 : LInt) (p_5 p_6 : Int) (m14_ : (List TPiece)) (m15_ : LInt) (m16_ : (List TEnd)) (m17_ : (List TPos)) (m18_ : (List LInt)) (m19_ : (List LMv)) (m20_ : (List (Int × Int))) (m21_ : (List (ByteArray × Int))) (out : LMv) => run tb (Q9.G N) Q9.A 13 (Q9.fin N) N Q9.k0 (Q9.st0 x.1 x.2.1 x.2.2.1 t32_ m4_ m4_2 m4_3 m4_4 m4_5 m4_6 m4_7 m4_8 p_2 p_3 p_4 p_5 p_6 m14_ m15_ m16_ m17_ m18_ m19_ m20_ m21_ out)) = Q9.l0 N x.1 x.2.1 x.2.2.1 N := by funext t32_ m4_ m4_2 m4_3 m4_4 m4_5 m4_6 m4_7 m4_8 p_2 p_3 p_4 p_5 p_6 m14_ m15_ m16_ m17_ m18_ m19_ m20_ m21_ out; exact (Q9.runs N x.1 x.2.1 x.2.2.1 N) t32_ m4_ m4_2 m4_3 m4_4 m4_5 m4_6 m4_7 m4_8 p_2 p_3 p_4 p_5 p_6 m14_ m15_ m16_ m17_ m18_ m19_ m20_ m21_ out
 have h' : (Q9.D N).f x = Q9.e N (Q9.l0 N x.1 x.2.1 x.2.2.1 N) x.1 x.2.1 x.2.2.1 := by kernel_rfl
 exact (congrArg (fun r0 => Q9.e N r0 x.1 x.2.1 x.2.2.1) e0).trans (h'.symm.trans h)
def Q46.as : List MK := [.d true qa]
def Q46.rs : List (Bool × HT) := [(true, (.prod (.own 3 tI) (.prod (.prod (.own 3 tI) (.own 3 tI)) (.d (.prod tI tI))))), (false, (.d tI))]
def Q46.lc : List AC := []
def Q46.D : DFn := ⟨Q46.as, Q46.rs, (TPos × Int), fun x => Q46 N x.1, fun r o => (r.1, r.2.1), fun b => (b.1, (b.2, ())), fun b => (), none⟩
theorem Q46.fit : (Q46.D N).Fit := ⟨fun _ _ => rfl, fun _ _ => rfl, by kernel_rfl, (fun _ _ h => nomatch h), by kernel_rfl⟩
noncomputable def Q46.G : Gam := gamOf [(29, Q29.D N), (31, Q31.D N)]
def Q46.A : LA := fun _ => none
noncomputable def Q46.fin : St → Option (TPos × Int) := resK tb Tryz.f46.results.toList (decRes (Q46.D N) Q46.lc)
theorem Q46.entry (rec : RK (TPos × Int)) (x : (argH Q46.as).den) : seg tb (Q46.G N) Q46.A 0 rec (Q46.fin N) segFuel [.code (bodyOf Tryz.f46)] (initSt Tryz.f46 (encArgs Q46.as x) (encMem Q46.as x)) = Q46.e N x.1 := by kernel_rfl
theorem Q46.ok : FnOk Tryz.prog 46 (Q46.D N) := by
 refine FnOk_of tb_ok (Checked.mixed Tryz.checked) ⟨Tryz.f46, Tryz.func46, by kernel_rfl, by kernel_rfl, fun x y h => ⟨Q46.G N, Q46.A, N, gamOf_ok (gc ⟨Q29.ok N, Q29.fit N⟩ (gc ⟨Q31.ok N, Q31.fit N⟩ gn)), ?_⟩⟩ (Q46.fit N)
 rw [absFn_n (n0 := 0) rfl (by kernel_rfl)]
 exact (Q46.entry N _ x).trans h
def Q25.as : List MK := [.d true qa]
def Q25.rs : List (Bool × HT) := [(false, (.opt 113 (.prod (.prod (.d .str) (.prod (.d tI) (.prod (.d tI) (.prod (.own 89 qb) (.prod (.own 3 tI) (.prod (.d .bool) (.prod (.d .bool) (.prod (.own 91 qe) (.d qd))))))))) (.prod (.own 33 qc) (.own 80 qd))))), (false, (.d tI))]
def Q25.lc : List AC := []
def Q25.D : DFn := ⟨Q25.as, Q25.rs, ((Option (TRules × ((List TPos) × LMv))) × Int), fun x => Q25 N x.1, fun r o => (r.1, r.2.1), fun b => (b.1, (b.2, ())), fun b => (), none⟩
theorem Q25.fit : (Q25.D N).Fit := ⟨fun _ _ => rfl, fun _ _ => rfl, by kernel_rfl, (fun _ _ h => nomatch h), by kernel_rfl⟩
noncomputable def Q25.G : Gam := gamOf [(46, Q46.D N), (19, Q19.D N)]
def Q25.A : LA := fun _ => none
noncomputable def Q25.fin : St → Option ((Option (TRules × ((List TPos) × LMv))) × Int) := resK tb Tryz.f25.results.toList (decRes (Q25.D N) Q25.lc)
theorem Q25.entry (rec : RK ((Option (TRules × ((List TPos) × LMv))) × Int)) (x : (argH Q25.as).den) : seg tb (Q25.G N) Q25.A 0 rec (Q25.fin N) segFuel [.code (bodyOf Tryz.f25)] (initSt Tryz.f25 (encArgs Q25.as x) (encMem Q25.as x)) = Q25.e N x.1 := by kernel_rfl
theorem Q25.ok : FnOk Tryz.prog 25 (Q25.D N) := by
 refine FnOk_of tb_ok (Checked.mixed Tryz.checked) ⟨Tryz.f25, Tryz.func25, by kernel_rfl, by kernel_rfl, fun x y h => ⟨Q25.G N, Q25.A, N, gamOf_ok (gc ⟨Q46.ok N, Q46.fit N⟩ (gc ⟨Q19.ok N, Q19.fit N⟩ gn)), ?_⟩⟩ (Q25.fit N)
 rw [absFn_n (n0 := 0) rfl (by kernel_rfl)]
 exact (Q25.entry N _ x).trans h
def Q91.as : List MK := [.d false (.slice 3 tI), .d false (.slice 3 tI)]
def Q91.rs : List (Bool × HT) := [(false, (.d .bool))]
def Q91.lc : List AC := []
def Q91.D : DFn := ⟨Q91.as, Q91.rs, Bool, fun x => Q91 N x.1 x.2.1, fun r o => r.1, fun b => (b, ()), fun b => (), none⟩
theorem Q91.fit : (Q91.D N).Fit := ⟨fun _ _ => rfl, fun _ _ => rfl, by kernel_rfl, (fun _ _ h => nomatch h), by kernel_rfl⟩
noncomputable def Q91.G (N : Nat) : Gam := gamOf []
def Q91.A : LA := fun k => bif Nat.beq k 0 then some ⟨[0, 1, 12, 13], [], [], [], [], 0, false⟩ else none
noncomputable def Q91.fin : St → Option Bool := resK tb Tryz.f91.results.toList (decRes (Q91.D N) Q91.lc)
noncomputable def Q91.k0 : List Item := stackAt [.r, .r, .l, .r, .b] (bodyOf Tryz.f91) []
def Q91.st0 (s1_ s2_ : LInt) (t13_ : Int) : St := ⟨[.one (.fro 3 tI s1_), .one (.fro 3 tI s2_)] ++ rA 10 ++ [oi (s1_.length : Int), oi t13_] ++ rA 12, []⟩
theorem Q91.step0 (rec : RK Bool) (s1_ s2_ : LInt) (t13_ : Int) : seg tb (Q91.G N) Q91.A 0 rec (Q91.fin N) segFuel (loopBody Q91.k0) (Q91.st0 s1_ s2_ t13_) = Q91.s0 N s1_ s2_ (fun t13_ => rec Q91.k0 (Q91.st0 s1_ s2_ t13_)) t13_ := by kernel_rfl
theorem Q91.entry (rec : RK Bool) (x : (argH Q91.as).den) : seg tb (Q91.G N) Q91.A 0 rec (Q91.fin N) segFuel [.code (bodyOf Tryz.f91)] (initSt Tryz.f91 (encArgs Q91.as x) (encMem Q91.as x)) = Q91.e N (fun t13_ => rec Q91.k0 (Q91.st0 x.1 x.2.1 t13_)) x.1 x.2.1 := by kernel_rfl
theorem Q91.runs (N : Nat) (s1_ s2_ : LInt) : ∀ n, (∀ (t13_ : Int), run tb (Q91.G N) Q91.A 0 (Q91.fin N) n Q91.k0 (Q91.st0 s1_ s2_ t13_) = Q91.l0 N s1_ s2_ n t13_)
 | 0 => fun _ => rfl
 | n + 1 => by
  have h0 := Q91.runs N s1_ s2_ n
  have e0 : (fun (t13_ : Int) => run tb (Q91.G N) Q91.A 0 (Q91.fin N) n Q91.k0 (Q91.st0 s1_ s2_ t13_)) = Q91.l0 N s1_ s2_ n := by funext t13_; exact h0 t13_
  have g0 : (∀ (t13_ : Int), run tb (Q91.G N) Q91.A 0 (Q91.fin N) (n + 1) Q91.k0 (Q91.st0 s1_ s2_ t13_) = Q91.l0 N s1_ s2_ (n + 1) t13_) := by
   intro t13_
   exact (run_succ (by kernel_rfl)).trans ((Q91.step0 N _ s1_ s2_ t13_).trans ((congrArg (fun r0 => Q91.s0 N s1_ s2_ r0 t13_) e0).trans (Q91.l0_s N s1_ s2_ n t13_).symm))
  exact g0
theorem Q91.ok : FnOk Tryz.prog 91 (Q91.D N) := by
 refine FnOk_of tb_ok (Checked.mixed Tryz.checked) ⟨Tryz.f91, Tryz.func91, by kernel_rfl, by kernel_rfl, fun x y h => ⟨Q91.G N, Q91.A, N, gamOf_ok (fun p hp => nomatch hp), ?_⟩⟩ (Q91.fit N)
 rw [absFn_n (n0 := 0) rfl (by kernel_rfl)]
 refine (Q91.entry N (run tb (Q91.G N) Q91.A 0 (Q91.fin N) N) x).trans ?_
 have e0 : (fun (t13_ : Int) => run tb (Q91.G N) Q91.A 0 (Q91.fin N) N Q91.k0 (Q91.st0 x.1 x.2.1 t13_)) = Q91.l0 N x.1 x.2.1 N := by funext t13_; exact (Q91.runs N x.1 x.2.1 N) t13_
 have h' : (Q91.D N).f x = Q91.e N (Q91.l0 N x.1 x.2.1 N) x.1 x.2.1 := by kernel_rfl
 exact (congrArg (fun r0 => Q91.e N r0 x.1 x.2.1) e0).trans (h'.symm.trans h)
def Q74.as : List MK := [.d true qc, .d true qc]
def Q74.rs : List (Bool × HT) := [(false, (.d .bool))]
def Q74.lc : List AC := []
def Q74.D : DFn := ⟨Q74.as, Q74.rs, Bool, fun x => Q74 N x.1 x.2.1, fun r o => r.1, fun b => (b, ()), fun b => (), none⟩
theorem Q74.fit : (Q74.D N).Fit := ⟨fun _ _ => rfl, fun _ _ => rfl, by kernel_rfl, (fun _ _ h => nomatch h), by kernel_rfl⟩
noncomputable def Q74.G : Gam := gamOf [(91, Q91.D N)]
def Q74.A : LA := fun _ => none
noncomputable def Q74.fin : St → Option Bool := resK tb Tryz.f74.results.toList (decRes (Q74.D N) Q74.lc)
theorem Q74.entry (rec : RK Bool) (x : (argH Q74.as).den) : seg tb (Q74.G N) Q74.A 0 rec (Q74.fin N) segFuel [.code (bodyOf Tryz.f74)] (initSt Tryz.f74 (encArgs Q74.as x) (encMem Q74.as x)) = Q74.e N x.1 x.2.1 := by kernel_rfl
theorem Q74.ok : FnOk Tryz.prog 74 (Q74.D N) := by
 refine FnOk_of tb_ok (Checked.mixed Tryz.checked) ⟨Tryz.f74, Tryz.func74, by kernel_rfl, by kernel_rfl, fun x y h => ⟨Q74.G N, Q74.A, N, gamOf_ok (gc ⟨Q91.ok N, Q91.fit N⟩ gn), ?_⟩⟩ (Q74.fit N)
 rw [absFn_n (n0 := 0) rfl (by kernel_rfl)]
 exact (Q74.entry N _ x).trans h
def Q49.as : List MK := [.r (.prod qa (.prod (.slice 33 qc) (.slice 80 qd)))]
def Q49.rs : List (Bool × HT) := [(false, (.d tI))]
def Q49.lc : List AC := []
def Q49.D : DFn := ⟨Q49.as, Q49.rs, Int, fun x => Q49 N x.1, fun r o => r.1, fun b => (b, ()), fun b => (), none⟩
theorem Q49.fit : (Q49.D N).Fit := ⟨fun _ _ => rfl, fun _ _ => rfl, by kernel_rfl, (fun _ _ h => nomatch h), by kernel_rfl⟩
noncomputable def Q49.G : Gam := gamI tb [(48, (Tryz.f48, fun _ => none, gamOf []))] [(74, Q74.D N)]
def Q49.A : LA := fun k => bif Nat.beq k 0 then some ⟨[0, 3, 9, 10, 11], [], [], [], [], 0, false⟩ else bif Nat.beq k 3000048 then some ⟨[], [], [], [], [], 0, false⟩ else none
noncomputable def Q49.fin : St → Option Int := resK tb Tryz.f49.results.toList (decRes (Q49.D N) Q49.lc)
noncomputable def Q49.k0 : List Item := stackAt [.r, .r, .l, .r, .b] (bodyOf Tryz.f49) []
def Q49.st0 (g_ : (TRules × ((List TPos) × LMv))) (n_ t11_ : Int) : St := ⟨[.one (.fp (.prod qa (.prod (.slice 33 qc) (.slice 80 qd))) g_ 0), oA, oA, oi n_] ++ rA 5 ++ [.one (.fro 33 qc g_.2.1), oi (g_.2.1.length : Int), oi t11_] ++ rA 11, []⟩
theorem Q49.step0 (rec : RK Int) (g_ : (TRules × ((List TPos) × LMv))) (n_ t11_ : Int) : seg tb (Q49.G N) Q49.A 0 rec (Q49.fin N) segFuel (loopBody Q49.k0) (Q49.st0 g_ n_ t11_) = Q49.s0 N g_ (fun n_ t11_ => rec Q49.k0 (Q49.st0 g_ n_ t11_)) n_ t11_ := by kernel_rfl
theorem Q49.entry (rec : RK Int) (x : (argH Q49.as).den) : seg tb (Q49.G N) Q49.A 0 rec (Q49.fin N) segFuel [.code (bodyOf Tryz.f49)] (initSt Tryz.f49 (encArgs Q49.as x) (encMem Q49.as x)) = Q49.e N (fun n_ t11_ => rec Q49.k0 (Q49.st0 x.1 n_ t11_)) x.1 := by kernel_rfl
theorem Q49.runs (N : Nat) (g_ : (TRules × ((List TPos) × LMv))) : ∀ n, (∀ (n_ t11_ : Int), run tb (Q49.G N) Q49.A 0 (Q49.fin N) n Q49.k0 (Q49.st0 g_ n_ t11_) = Q49.l0 N g_ n n_ t11_)
 | 0 => fun _ _ => rfl
 | n + 1 => by
  have h0 := Q49.runs N g_ n
  have e0 : (fun (n_ t11_ : Int) => run tb (Q49.G N) Q49.A 0 (Q49.fin N) n Q49.k0 (Q49.st0 g_ n_ t11_)) = Q49.l0 N g_ n := by funext n_ t11_; exact h0 n_ t11_
  have g0 : (∀ (n_ t11_ : Int), run tb (Q49.G N) Q49.A 0 (Q49.fin N) (n + 1) Q49.k0 (Q49.st0 g_ n_ t11_) = Q49.l0 N g_ (n + 1) n_ t11_) := by
   intro n_ t11_
   exact (run_succ (by kernel_rfl)).trans ((Q49.step0 N _ g_ n_ t11_).trans ((congrArg (fun r0 => Q49.s0 N g_ r0 n_ t11_) e0).trans (Q49.l0_s N g_ n n_ t11_).symm))
  exact g0
theorem Q49.ok : FnOk Tryz.prog 49 (Q49.D N) := by
 refine FnOk_of tb_ok (Checked.mixed Tryz.checked) ⟨Tryz.f49, Tryz.func49, by kernel_rfl, by kernel_rfl, fun x y h => ⟨Q49.G N, Q49.A, N, gamI_ok tb_ok (Checked.mixed Tryz.checked) (by simp only [List.forall_mem_cons, List.not_mem_nil, false_implies, implies_true, and_true]; exact ⟨Tryz.func48, ⟨by kernel_rfl, by kernel_rfl⟩, gamOf_ok (fun p hp => nomatch hp)⟩) (by simp only [List.forall_mem_cons, List.not_mem_nil, false_implies, implies_true, and_true]; exact ⟨Q74.ok N, Q74.fit N⟩), ?_⟩⟩ (Q49.fit N)
 rw [absFn_n (n0 := 0) rfl (by kernel_rfl)]
 refine (Q49.entry N (run tb (Q49.G N) Q49.A 0 (Q49.fin N) N) x).trans ?_
 have e0 : (fun (n_ t11_ : Int) => run tb (Q49.G N) Q49.A 0 (Q49.fin N) N Q49.k0 (Q49.st0 x.1 n_ t11_)) = Q49.l0 N x.1 N := by funext n_ t11_; exact (Q49.runs N x.1 N) n_ t11_
 have h' : (Q49.D N).f x = Q49.e N (Q49.l0 N x.1 N) x.1 := by kernel_rfl
 exact (congrArg (fun r0 => Q49.e N r0 x.1) e0).trans (h'.symm.trans h)
def Q28.as : List MK := [.r (.prod qa (.prod (.slice 33 qc) (.slice 80 qd)))]
def Q28.rs : List (Bool × HT) := [(false, (.d tI))]
def Q28.lc : List AC := []
def Q28.D : DFn := ⟨Q28.as, Q28.rs, Int, fun x => Q28 N x.1, fun r o => r.1, fun b => (b, ()), fun b => (), none⟩
theorem Q28.fit : (Q28.D N).Fit := ⟨fun _ _ => rfl, fun _ _ => rfl, by kernel_rfl, (fun _ _ h => nomatch h), by kernel_rfl⟩
noncomputable def Q28.G : Gam := gamI tb [(48, (Tryz.f48, fun _ => none, gamOf []))] [(32, Q32.D N), (49, Q49.D N)]
def Q28.A : LA := fun k => bif Nat.beq k 3000048 then some ⟨[], [], [], [], [], 0, false⟩ else none
noncomputable def Q28.fin : St → Option Int := resK tb Tryz.f28.results.toList (decRes (Q28.D N) Q28.lc)
theorem Q28.entry (rec : RK Int) (x : (argH Q28.as).den) : seg tb (Q28.G N) Q28.A 0 rec (Q28.fin N) segFuel [.code (bodyOf Tryz.f28)] (initSt Tryz.f28 (encArgs Q28.as x) (encMem Q28.as x)) = Q28.e N x.1 := by kernel_rfl
theorem Q28.ok : FnOk Tryz.prog 28 (Q28.D N) := by
 refine FnOk_of tb_ok (Checked.mixed Tryz.checked) ⟨Tryz.f28, Tryz.func28, by kernel_rfl, by kernel_rfl, fun x y h => ⟨Q28.G N, Q28.A, N, gamI_ok tb_ok (Checked.mixed Tryz.checked) (by simp only [List.forall_mem_cons, List.not_mem_nil, false_implies, implies_true, and_true]; exact ⟨Tryz.func48, ⟨by kernel_rfl, by kernel_rfl⟩, gamOf_ok (fun p hp => nomatch hp)⟩) (by simp only [List.forall_mem_cons, List.not_mem_nil, false_implies, implies_true, and_true]; exact ⟨⟨Q32.ok N, Q32.fit N⟩, ⟨Q49.ok N, Q49.fit N⟩⟩), ?_⟩⟩ (Q28.fit N)
 rw [absFn_n (n0 := 0) rfl (by kernel_rfl)]
 exact (Q28.entry N _ x).trans h
def Q104.as : List MK := [.d false (.slice 80 qd), .d true qd]
def Q104.rs : List (Bool × HT) := [(false, (.d tI))]
def Q104.lc : List AC := []
def Q104.D : DFn := ⟨Q104.as, Q104.rs, Int, fun x => Q104 N x.1 x.2.1, fun r o => r.1, fun b => (b, ()), fun b => (), none⟩
theorem Q104.fit : (Q104.D N).Fit := ⟨fun _ _ => rfl, fun _ _ => rfl, by kernel_rfl, (fun _ _ h => nomatch h), by kernel_rfl⟩
noncomputable def Q104.G (N : Nat) : Gam := gamOf []
def Q104.A : LA := fun k => bif Nat.beq k 0 then some ⟨[0, 3, 7, 8], [], [], [], [], 1, false⟩ else none
noncomputable def Q104.fin : St → Option Int := resK tb Tryz.f104.results.toList (decRes (Q104.D N) Q104.lc)
noncomputable def Q104.k0 : List Item := stackAt [.r, .l, .r, .b] (bodyOf Tryz.f104) []
def Q104.st0 (s_ : LMv) (v_ : TMv) (t8_ : Int) : St := ⟨[.one (.fro 80 qd s_), oA, oA, .one (.ptr 0 0)] ++ rA 3 ++ [oi (s_.length : Int), oi t8_] ++ rA 10, [.var 80 [.int .i64 v_.1, .int .i64 v_.2.1, .int .i64 v_.2.2]]⟩
theorem Q104.step0 (rec : RK Int) (s_ : LMv) (v_ : TMv) (t8_ : Int) : seg tb (Q104.G N) Q104.A 0 rec (Q104.fin N) segFuel (loopBody Q104.k0) (Q104.st0 s_ v_ t8_) = Q104.s0 N s_ v_ (fun t8_ => rec Q104.k0 (Q104.st0 s_ v_ t8_)) t8_ := by kernel_rfl
theorem Q104.entry (rec : RK Int) (x : (argH Q104.as).den) : seg tb (Q104.G N) Q104.A 0 rec (Q104.fin N) segFuel [.code (bodyOf Tryz.f104)] (initSt Tryz.f104 (encArgs Q104.as x) (encMem Q104.as x)) = Q104.e N (fun t8_ => rec Q104.k0 (Q104.st0 x.1 x.2.1 t8_)) x.1 x.2.1 := by kernel_rfl
theorem Q104.runs (N : Nat) (s_ : LMv) (v_ : TMv) : ∀ n, (∀ (t8_ : Int), run tb (Q104.G N) Q104.A 0 (Q104.fin N) n Q104.k0 (Q104.st0 s_ v_ t8_) = Q104.l0 N s_ v_ n t8_)
 | 0 => fun _ => rfl
 | n + 1 => by
  have h0 := Q104.runs N s_ v_ n
  have e0 : (fun (t8_ : Int) => run tb (Q104.G N) Q104.A 0 (Q104.fin N) n Q104.k0 (Q104.st0 s_ v_ t8_)) = Q104.l0 N s_ v_ n := by funext t8_; exact h0 t8_
  have g0 : (∀ (t8_ : Int), run tb (Q104.G N) Q104.A 0 (Q104.fin N) (n + 1) Q104.k0 (Q104.st0 s_ v_ t8_) = Q104.l0 N s_ v_ (n + 1) t8_) := by
   intro t8_
   exact (run_succ (by kernel_rfl)).trans ((Q104.step0 N _ s_ v_ t8_).trans ((congrArg (fun r0 => Q104.s0 N s_ v_ r0 t8_) e0).trans (Q104.l0_s N s_ v_ n t8_).symm))
  exact g0
theorem Q104.ok : FnOk Tryz.prog 104 (Q104.D N) := by
 refine FnOk_of tb_ok (Checked.mixed Tryz.checked) ⟨Tryz.f104, Tryz.func104, by kernel_rfl, by kernel_rfl, fun x y h => ⟨Q104.G N, Q104.A, N, gamOf_ok (fun p hp => nomatch hp), ?_⟩⟩ (Q104.fit N)
 rw [absFn_n (n0 := 0) rfl (by kernel_rfl)]
 refine (Q104.entry N (run tb (Q104.G N) Q104.A 0 (Q104.fin N) N) x).trans ?_
 have e0 : (fun (t8_ : Int) => run tb (Q104.G N) Q104.A 0 (Q104.fin N) N Q104.k0 (Q104.st0 x.1 x.2.1 t8_)) = Q104.l0 N x.1 x.2.1 N := by funext t8_; exact (Q104.runs N x.1 x.2.1 N) t8_
 have h' : (Q104.D N).f x = Q104.e N (Q104.l0 N x.1 x.2.1 N) x.1 x.2.1 := by kernel_rfl
 exact (congrArg (fun r0 => Q104.e N r0 x.1 x.2.1) e0).trans (h'.symm.trans h)
def Q90.as : List MK := [.d false (.slice 80 qd), .d true qd]
def Q90.rs : List (Bool × HT) := [(false, (.d .bool))]
def Q90.lc : List AC := []
def Q90.D : DFn := ⟨Q90.as, Q90.rs, Bool, fun x => Q90 N x.1 x.2.1, fun r o => r.1, fun b => (b, ()), fun b => (), none⟩
theorem Q90.fit : (Q90.D N).Fit := ⟨fun _ _ => rfl, fun _ _ => rfl, by kernel_rfl, (fun _ _ h => nomatch h), by kernel_rfl⟩
noncomputable def Q90.G : Gam := gamOf [(104, Q104.D N)]
def Q90.A : LA := fun _ => none
noncomputable def Q90.fin : St → Option Bool := resK tb Tryz.f90.results.toList (decRes (Q90.D N) Q90.lc)
theorem Q90.entry (rec : RK Bool) (x : (argH Q90.as).den) : seg tb (Q90.G N) Q90.A 0 rec (Q90.fin N) segFuel [.code (bodyOf Tryz.f90)] (initSt Tryz.f90 (encArgs Q90.as x) (encMem Q90.as x)) = Q90.e N x.1 x.2.1 := by kernel_rfl
theorem Q90.ok : FnOk Tryz.prog 90 (Q90.D N) := by
 refine FnOk_of tb_ok (Checked.mixed Tryz.checked) ⟨Tryz.f90, Tryz.func90, by kernel_rfl, by kernel_rfl, fun x y h => ⟨Q90.G N, Q90.A, N, gamOf_ok (gc ⟨Q104.ok N, Q104.fit N⟩ gn), ?_⟩⟩ (Q90.fit N)
 rw [absFn_n (n0 := 0) rfl (by kernel_rfl)]
 exact (Q90.entry N _ x).trans h
def Q73.as : List MK := [.d true qa, .d true qc, .d true qd]
def Q73.rs : List (Bool × HT) := [(false, (.d .bool)), (false, (.d tI))]
def Q73.lc : List AC := []
def Q73.D : DFn := ⟨Q73.as, Q73.rs, (Bool × Int), fun x => Q73 N x.1 x.2.1 x.2.2.1, fun r o => (r.1, r.2.1), fun b => (b.1, (b.2, ())), fun b => (), none⟩
theorem Q73.fit : (Q73.D N).Fit := ⟨fun _ _ => rfl, fun _ _ => rfl, by kernel_rfl, (fun _ _ h => nomatch h), by kernel_rfl⟩
noncomputable def Q73.G : Gam := gamOf [(40, Q40.D N), (33, Q33.D N), (90, Q90.D N)]
def Q73.A : LA := fun _ => none
noncomputable def Q73.fin : St → Option (Bool × Int) := resK tb Tryz.f73.results.toList (decRes (Q73.D N) Q73.lc)
theorem Q73.entry (rec : RK (Bool × Int)) (x : (argH Q73.as).den) : seg tb (Q73.G N) Q73.A 0 rec (Q73.fin N) segFuel [.code (bodyOf Tryz.f73)] (initSt Tryz.f73 (encArgs Q73.as x) (encMem Q73.as x)) = Q73.e N x.1 x.2.1 x.2.2.1 := by kernel_rfl
theorem Q73.ok : FnOk Tryz.prog 73 (Q73.D N) := by
 refine FnOk_of tb_ok (Checked.mixed Tryz.checked) ⟨Tryz.f73, Tryz.func73, by kernel_rfl, by kernel_rfl, fun x y h => ⟨Q73.G N, Q73.A, N, gamOf_ok (gc ⟨Q40.ok N, Q40.fit N⟩ (gc ⟨Q33.ok N, Q33.fit N⟩ (gc ⟨Q90.ok N, Q90.fit N⟩ gn))), ?_⟩⟩ (Q73.fit N)
 rw [absFn_n (n0 := 0) rfl (by kernel_rfl)]
 exact (Q73.entry N _ x).trans h
def Q47.as : List MK := [.d true qa, .d true qc, .d true qd]
def Q47.rs : List (Bool × HT) := [(true, (.prod (.own 3 tI) (.prod (.prod (.own 3 tI) (.own 3 tI)) (.d (.prod tI tI))))), (false, (.d tI))]
def Q47.lc : List AC := []
def Q47.D : DFn := ⟨Q47.as, Q47.rs, (TPos × Int), fun x => Q47 N x.1 x.2.1 x.2.2.1, fun r o => (r.1, r.2.1), fun b => (b.1, (b.2, ())), fun b => (), none⟩
theorem Q47.fit : (Q47.D N).Fit := ⟨fun _ _ => rfl, fun _ _ => rfl, by kernel_rfl, (fun _ _ h => nomatch h), by kernel_rfl⟩
noncomputable def Q47.G : Gam := gamOf [(73, Q73.D N), (24, Q24.D N)]
def Q47.A : LA := fun _ => none
noncomputable def Q47.fin : St → Option (TPos × Int) := resK tb Tryz.f47.results.toList (decRes (Q47.D N) Q47.lc)
theorem Q47.entry (rec : RK (TPos × Int)) (x : (argH Q47.as).den) : seg tb (Q47.G N) Q47.A 0 rec (Q47.fin N) segFuel [.code (bodyOf Tryz.f47)] (initSt Tryz.f47 (encArgs Q47.as x) (encMem Q47.as x)) = Q47.e N x.1 x.2.1 x.2.2.1 := by kernel_rfl
theorem Q47.ok : FnOk Tryz.prog 47 (Q47.D N) := by
 refine FnOk_of tb_ok (Checked.mixed Tryz.checked) ⟨Tryz.f47, Tryz.func47, by kernel_rfl, by kernel_rfl, fun x y h => ⟨Q47.G N, Q47.A, N, gamOf_ok (gc ⟨Q73.ok N, Q73.fit N⟩ (gc ⟨Q24.ok N, Q24.fit N⟩ gn)), ?_⟩⟩ (Q47.fit N)
 rw [absFn_n (n0 := 0) rfl (by kernel_rfl)]
 exact (Q47.entry N _ x).trans h
def Q26.as : List MK := [.o (.ptr 113 (.prod (.prod (.d .str) (.prod (.d tI) (.prod (.d tI) (.prod (.own 89 qb) (.prod (.own 3 tI) (.prod (.d .bool) (.prod (.d .bool) (.prod (.own 91 qe) (.d qd))))))))) (.prod (.own 33 qc) (.own 80 qd)))) true, .d true qd]
def Q26.rs : List (Bool × HT) := [(false, (.d tI))]
def Q26.lc : List AC := [.ptr 0 0]
def Q26.D : DFn := ⟨Q26.as, Q26.rs, (Int × (TRules × ((List TPos) × LMv))), fun x => Q26 N x.1 x.2.1, fun r o => (r.1, o.1), fun b => (b.1, ()), fun b => (b.2, ()), none⟩
theorem Q26.fit : (Q26.D N).Fit := ⟨fun _ _ => rfl, fun _ _ => rfl, by kernel_rfl, (fun _ _ h => nomatch h), by kernel_rfl⟩
noncomputable def Q26.G : Gam := gamI tb [(48, (Tryz.f48, fun _ => none, gamOf []))] [(28, Q28.D N), (47, Q47.D N)]
def Q26.A : LA := fun k => bif Nat.beq k 3000048 then some ⟨[], [], [], [], [], 0, false⟩ else bif Nat.beq k 3999999 then some ⟨[], [], [], [], [], 0, false⟩ else none
noncomputable def Q26.fin : St → Option (Int × (TRules × ((List TPos) × LMv))) := resK tb Tryz.f26.results.toList (decRes (Q26.D N) Q26.lc)
theorem Q26.entry (rec : RK (Int × (TRules × ((List TPos) × LMv)))) (x : (argH Q26.as).den) : seg tb (Q26.G N) Q26.A 6 rec (Q26.fin N) segFuel [.code (bodyOf Tryz.f26)] (initSt Tryz.f26 (encArgs Q26.as x) (encMem Q26.as x)) = Q26.e N x.1 x.2.1 := by kernel_rfl
theorem Q26.ok : FnOk Tryz.prog 26 (Q26.D N) := by
 refine FnOk_of tb_ok (Checked.mixed Tryz.checked) ⟨Tryz.f26, Tryz.func26, by kernel_rfl, by kernel_rfl, fun x y h => ⟨Q26.G N, Q26.A, N, gamI_ok tb_ok (Checked.mixed Tryz.checked) (by simp only [List.forall_mem_cons, List.not_mem_nil, false_implies, implies_true, and_true]; exact ⟨Tryz.func48, ⟨by kernel_rfl, by kernel_rfl⟩, gamOf_ok (fun p hp => nomatch hp)⟩) (by simp only [List.forall_mem_cons, List.not_mem_nil, false_implies, implies_true, and_true]; exact ⟨⟨Q28.ok N, Q28.fit N⟩, ⟨Q47.ok N, Q47.fit N⟩⟩), ?_⟩⟩ (Q26.fit N)
 rw [absFn_n (n0 := 6) rfl (by kernel_rfl)]
 exact (Q26.entry N _ x).trans h
def Q27.as : List MK := [.r (.prod qa (.prod (.slice 33 qc) (.slice 80 qd)))]
def Q27.rs : List (Bool × HT) := [(true, (.prod (.own 3 tI) (.prod (.prod (.own 3 tI) (.own 3 tI)) (.d (.prod tI tI)))))]
def Q27.lc : List AC := []
def Q27.D : DFn := ⟨Q27.as, Q27.rs, TPos, fun x => Q27 N x.1, fun r o => r.1, fun b => (b, ()), fun b => (), none⟩
theorem Q27.fit : (Q27.D N).Fit := ⟨fun _ _ => rfl, fun _ _ => rfl, by kernel_rfl, (fun _ _ h => nomatch h), by kernel_rfl⟩
noncomputable def Q27.G : Gam := gamI tb [(48, (Tryz.f48, fun _ => none, gamOf []))] [(18, Q18.D N)]
def Q27.A : LA := fun _ => none
noncomputable def Q27.fin : St → Option TPos := resK tb Tryz.f27.results.toList (decRes (Q27.D N) Q27.lc)
theorem Q27.entry (rec : RK TPos) (x : (argH Q27.as).den) : seg tb (Q27.G N) Q27.A 0 rec (Q27.fin N) segFuel [.code (bodyOf Tryz.f27)] (initSt Tryz.f27 (encArgs Q27.as x) (encMem Q27.as x)) = Q27.e N x.1 := by kernel_rfl
theorem Q27.ok : FnOk Tryz.prog 27 (Q27.D N) := by
 refine FnOk_of tb_ok (Checked.mixed Tryz.checked) ⟨Tryz.f27, Tryz.func27, by kernel_rfl, by kernel_rfl, fun x y h => ⟨Q27.G N, Q27.A, N, gamI_ok tb_ok (Checked.mixed Tryz.checked) (by simp only [List.forall_mem_cons, List.not_mem_nil, false_implies, implies_true, and_true]; exact ⟨Tryz.func48, ⟨by kernel_rfl, by kernel_rfl⟩, gamOf_ok (fun p hp => nomatch hp)⟩) (by simp only [List.forall_mem_cons, List.not_mem_nil, false_implies, implies_true, and_true]; exact ⟨Q18.ok N, Q18.fit N⟩), ?_⟩⟩ (Q27.fit N)
 rw [absFn_n (n0 := 0) rfl (by kernel_rfl)]
 exact (Q27.entry N _ x).trans h
def Q10.as : List MK := [.d true qa, .d false (.slice 80 qd)]
def Q10.rs : List (Bool × HT) := [(true, (.prod (.own 3 tI) (.prod (.prod (.own 3 tI) (.own 3 tI)) (.d (.prod tI tI))))), (false, (.d tI)), (false, (.d tI))]
def Q10.lc : List AC := []
def Q10.D : DFn := ⟨Q10.as, Q10.rs, (TPos × Int × Int), fun x => Q10 N x.1 x.2.1, fun r o => (r.1, r.2.1, r.2.2.1), fun b => (b.1, (b.2.1, (b.2.2, ()))), fun b => (), none⟩
theorem Q10.fit : (Q10.D N).Fit := ⟨fun _ _ => rfl, fun _ _ => rfl, by kernel_rfl, (fun _ _ h => nomatch h), by kernel_rfl⟩
noncomputable def Q10.G : Gam := gamOf [(25, Q25.D N), (26, Q26.D N), (27, Q27.D N), (28, Q28.D N)]
def Q10.A : LA := fun k => bif Nat.beq k 0 then some ⟨[4, 7, 21, 22, 23], [], [], [(true, 2, 3, 3), (true, 2, 4, 4), (true, 2, 7, 5), (true, 2, 11, 6), (true, 2, 12, 7)], [0], 8, false⟩ else none
noncomputable def Q10.fin : St → Option (TPos × Int × Int) := resK tb Tryz.f10.results.toList (decRes (Q10.D N) Q10.lc)
noncomputable def Q10.k0 : List Item := stackAt [.r, .r, .r, .l, .r, .b] (bodyOf Tryz.f10) []
def Q10.st0 (r_ : TRules) (l_ : LMv) (t23_ : Int) (g_ : ByteArray) (g_2 g_3 : Int) (g_4 g_5 : Bool) (g_6 g_7 g_8 : Int) (m3_ : (List TPiece)) (m4_ : LInt) (m5_ : (List TEnd)) (m6_ : (List TPos)) (m7_ : LMv) : St := ⟨rA 4 ++ [.one (.ptr 1 0), oA, oA, .one (.ptr 2 0)] ++ rA 13 ++ [.one (.fro 80 qd l_), oi (l_.length : Int), oi t23_] ++ rA 15, [.gone, .var 33 [.nilS, .nilS, .nilS, .int .i64 0, .int .i64 0], .var 113 [.str g_, .int .i64 g_2, .int .i64 g_3, .own 3, .own 4, .bool g_4, .bool g_5, .own 5, .int .i64 g_6, .int .i64 g_7, .int .i64 g_8, .own 6, .own 7], .row 89 qb m3_, .row 3 tI m4_, .row 91 qe m5_, .row 33 qc m6_, .row 80 qd m7_]⟩
theorem Q10.step0 (rec : RK (TPos × Int × Int)) (r_ : TRules) (l_ : LMv) (t23_ : Int) (g_ : ByteArray) (g_2 g_3 : Int) (g_4 g_5 : Bool) (g_6 g_7 g_8 : Int) (m3_ : (List TPiece)) (m4_ : LInt) (m5_ : (List TEnd)) (m6_ : (List TPos)) (m7_ : LMv) : seg tb (Q10.G N) Q10.A 0 rec (Q10.fin N) segFuel (loopBody Q10.k0) (Q10.st0 r_ l_ t23_ g_ g_2 g_3 g_4 g_5 g_6 g_7 g_8 m3_ m4_ m5_ m6_ m7_) = Q10.s0 N r_ l_ (fun t23_ g_ g_2 g_3 g_4 g_5 g_6 g_7 g_8 m3_ m4_ m5_ m6_ m7_ => rec Q10.k0 (Q10.st0 r_ l_ t23_ g_ g_2 g_3 g_4 g_5 g_6 g_7 g_8 m3_ m4_ m5_ m6_ m7_)) t23_ g_ g_2 g_3 g_4 g_5 g_6 g_7 g_8 m3_ m4_ m5_ m6_ m7_ := by kernel_rfl
theorem Q10.entry (rec : RK (TPos × Int × Int)) (x : (argH Q10.as).den) : seg tb (Q10.G N) Q10.A 0 rec (Q10.fin N) segFuel [.code (bodyOf Tryz.f10)] (initSt Tryz.f10 (encArgs Q10.as x) (encMem Q10.as x)) = Q10.e N (fun t23_ g_ g_2 g_3 g_4 g_5 g_6 g_7 g_8 m3_ m4_ m5_ m6_ m7_ => rec Q10.k0 (Q10.st0 x.1 x.2.1 t23_ g_ g_2 g_3 g_4 g_5 g_6 g_7 g_8 m3_ m4_ m5_ m6_ m7_)) x.1 x.2.1 := by kernel_rfl
theorem Q10.runs (N : Nat) (r_ : TRules) (l_ : LMv) : ∀ n, (∀ (t23_ : Int) (g_ : ByteArray) (g_2 g_3 : Int) (g_4 g_5 : Bool) (g_6 g_7 g_8 : Int) (m3_ : (List TPiece)) (m4_ : LInt) (m5_ : (List TEnd)) (m6_ : (List TPos)) (m7_ : LMv), run tb (Q10.G N) Q10.A 0 (Q10.fin N) n Q10.k0 (Q10.st0 r_ l_ t23_ g_ g_2 g_3 g_4 g_5 g_6 g_7 g_8 m3_ m4_ m5_ m6_ m7_) = Q10.l0 N r_ l_ n t23_ g_ g_2 g_3 g_4 g_5 g_6 g_7 g_8 m3_ m4_ m5_ m6_ m7_)
 | 0 => fun _ _ _ _ _ _ _ _ _ _ _ _ _ _ => rfl
 | n + 1 => by
  have h0 := Q10.runs N r_ l_ n
  have e0 : (fun (t23_ : Int) (g_ : ByteArray) (g_2 g_3 : Int) (g_4 g_5 : Bool) (g_6 g_7 g_8 : Int) (m3_ : (List TPiece)) (m4_ : LInt) (m5_ : (List TEnd)) (m6_ : (List TPos)) (m7_ : LMv) => run tb (Q10.G N) Q10.A 0 (Q10.fin N) n Q10.k0 (Q10.st0 r_ l_ t23_ g_ g_2 g_3 g_4 g_5 g_6 g_7 g_8 m3_ m4_ m5_ m6_ m7_)) = Q10.l0 N r_ l_ n := by funext t23_ g_ g_2 g_3 g_4 g_5 g_6 g_7 g_8 m3_ m4_ m5_ m6_ m7_; exact h0 t23_ g_ g_2 g_3 g_4 g_5 g_6 g_7 g_8 m3_ m4_ m5_ m6_ m7_
  have g0 : (∀ (t23_ : Int) (g_ : ByteArray) (g_2 g_3 : Int) (g_4 g_5 : Bool) (g_6 g_7 g_8 : Int) (m3_ : (List TPiece)) (m4_ : LInt) (m5_ : (List TEnd)) (m6_ : (List TPos)) (m7_ : LMv), run tb (Q10.G N) Q10.A 0 (Q10.fin N) (n + 1) Q10.k0 (Q10.st0 r_ l_ t23_ g_ g_2 g_3 g_4 g_5 g_6 g_7 g_8 m3_ m4_ m5_ m6_ m7_) = Q10.l0 N r_ l_ (n + 1) t23_ g_ g_2 g_3 g_4 g_5 g_6 g_7 g_8 m3_ m4_ m5_ m6_ m7_) := by
   intro t23_ g_ g_2 g_3 g_4 g_5 g_6 g_7 g_8 m3_ m4_ m5_ m6_ m7_
   exact (run_succ (by kernel_rfl)).trans ((Q10.step0 N _ r_ l_ t23_ g_ g_2 g_3 g_4 g_5 g_6 g_7 g_8 m3_ m4_ m5_ m6_ m7_).trans ((congrArg (fun r0 => Q10.s0 N r_ l_ r0 t23_ g_ g_2 g_3 g_4 g_5 g_6 g_7 g_8 m3_ m4_ m5_ m6_ m7_) e0).trans (Q10.l0_s N r_ l_ n t23_ g_ g_2 g_3 g_4 g_5 g_6 g_7 g_8 m3_ m4_ m5_ m6_ m7_).symm))
  exact g0
theorem Q10.ok : FnOk Tryz.prog 10 (Q10.D N) := by
 refine FnOk_of tb_ok (Checked.mixed Tryz.checked) ⟨Tryz.f10, Tryz.func10, by kernel_rfl, by kernel_rfl, fun x y h => ⟨Q10.G N, Q10.A, N, gamOf_ok (gc ⟨Q25.ok N, Q25.fit N⟩ (gc ⟨Q26.ok N, Q26.fit N⟩ (gc ⟨Q27.ok N, Q27.fit N⟩ (gc ⟨Q28.ok N, Q28.fit N⟩ gn)))), ?_⟩⟩ (Q10.fit N)
 rw [absFn_n (n0 := 0) rfl (by kernel_rfl)]
 refine (Q10.entry N (run tb (Q10.G N) Q10.A 0 (Q10.fin N) N) x).trans ?_
 have e0 : (fun (t23_ : Int) (g_ : ByteArray) (g_2 g_3 : Int) (g_4 g_5 : Bool) (g_6 g_7 g_8 : Int) (m3_ : (List TPiece)) (m4_ : LInt) (m5_ : (List TEnd)) (m6_ : (List TPos)) (m7_ : LMv) => run tb (Q10.G N) Q10.A 0 (Q10.fin N) N Q10.k0 (Q10.st0 x.1 x.2.1 t23_ g_ g_2 g_3 g_4 g_5 g_6 g_7 g_8 m3_ m4_ m5_ m6_ m7_)) = Q10.l0 N x.1 x.2.1 N := by funext t23_ g_ g_2 g_3 g_4 g_5 g_6 g_7 g_8 m3_ m4_ m5_ m6_ m7_; exact (Q10.runs N x.1 x.2.1 N) t23_ g_ g_2 g_3 g_4 g_5 g_6 g_7 g_8 m3_ m4_ m5_ m6_ m7_
 have h' : (Q10.D N).f x = Q10.e N (Q10.l0 N x.1 x.2.1 N) x.1 x.2.1 := by kernel_rfl
 exact (congrArg (fun r0 => Q10.e N r0 x.1 x.2.1) e0).trans (h'.symm.trans h)
def Q38.as : List MK := [.d true qa, .d true qc, .d false tI]
def Q38.rs : List (Bool × HT) := [(false, (.d tI))]
def Q38.lc : List AC := []
def Q38.D : DFn := ⟨Q38.as, Q38.rs, Int, fun x => Q38 N x.1 x.2.1 x.2.2.1, fun r o => r.1, fun b => (b, ()), fun b => (), none⟩
theorem Q38.fit : (Q38.D N).Fit := ⟨fun _ _ => rfl, fun _ _ => rfl, by kernel_rfl, (fun _ _ h => nomatch h), by kernel_rfl⟩
noncomputable def Q38.G : Gam := gamOf [(40, Q40.D N), (32, Q32.D N), (63, Q63.D N)]
def Q38.A : LA := fun _ => none
noncomputable def Q38.fin : St → Option Int := resK tb Tryz.f38.results.toList (decRes (Q38.D N) Q38.lc)
theorem Q38.entry (rec : RK Int) (x : (argH Q38.as).den) : seg tb (Q38.G N) Q38.A 0 rec (Q38.fin N) segFuel [.code (bodyOf Tryz.f38)] (initSt Tryz.f38 (encArgs Q38.as x) (encMem Q38.as x)) = Q38.e N x.1 x.2.1 x.2.2.1 := by kernel_rfl
theorem Q38.ok : FnOk Tryz.prog 38 (Q38.D N) := by
 refine FnOk_of tb_ok (Checked.mixed Tryz.checked) ⟨Tryz.f38, Tryz.func38, by kernel_rfl, by kernel_rfl, fun x y h => ⟨Q38.G N, Q38.A, N, gamOf_ok (gc ⟨Q40.ok N, Q40.fit N⟩ (gc ⟨Q32.ok N, Q32.fit N⟩ (gc ⟨Q63.ok N, Q63.fit N⟩ gn))), ?_⟩⟩ (Q38.fit N)
 rw [absFn_n (n0 := 0) rfl (by kernel_rfl)]
 exact (Q38.entry N _ x).trans h
def Q89.as : List MK := [.d false tI]
def Q89.rs : List (Bool × HT) := [(false, (.d tI))]
def Q89.lc : List AC := []
def Q89.D : DFn := ⟨Q89.as, Q89.rs, Int, fun x => Q89 N x.1, fun r o => r.1, fun b => (b, ()), fun b => (), none⟩
theorem Q89.fit : (Q89.D N).Fit := ⟨fun _ _ => rfl, fun _ _ => rfl, by kernel_rfl, (fun _ _ h => nomatch h), by kernel_rfl⟩
noncomputable def Q89.G (N : Nat) : Gam := gamOf []
def Q89.A : LA := fun _ => none
noncomputable def Q89.fin : St → Option Int := resK tb Tryz.f89.results.toList (decRes (Q89.D N) Q89.lc)
theorem Q89.entry (rec : RK Int) (x : (argH Q89.as).den) : seg tb (Q89.G N) Q89.A 0 rec (Q89.fin N) segFuel [.code (bodyOf Tryz.f89)] (initSt Tryz.f89 (encArgs Q89.as x) (encMem Q89.as x)) = Q89.e N x.1 := by kernel_rfl
theorem Q89.ok : FnOk Tryz.prog 89 (Q89.D N) := by
 refine FnOk_of tb_ok (Checked.mixed Tryz.checked) ⟨Tryz.f89, Tryz.func89, by kernel_rfl, by kernel_rfl, fun x y h => ⟨Q89.G N, Q89.A, N, gamOf_ok (fun p hp => nomatch hp), ?_⟩⟩ (Q89.fit N)
 rw [absFn_n (n0 := 0) rfl (by kernel_rfl)]
 exact (Q89.entry N _ x).trans h
def Q39.as : List MK := [.d true qa, .d true qc, .d false tI]
def Q39.rs : List (Bool × HT) := [(false, (.d .bool))]
def Q39.lc : List AC := []
def Q39.D : DFn := ⟨Q39.as, Q39.rs, Bool, fun x => Q39 N x.1 x.2.1 x.2.2.1, fun r o => r.1, fun b => (b, ()), fun b => (), none⟩
theorem Q39.fit : (Q39.D N).Fit := ⟨fun _ _ => rfl, fun _ _ => rfl, by kernel_rfl, (fun _ _ h => nomatch h), by kernel_rfl⟩
def Q72.as : List MK := [.d true qa, .d true qc, .d true qd, .d false tI]
def Q72.rs : List (Bool × HT) := [(false, (.d .bool))]
def Q72.lc : List AC := []
def Q72.D : DFn := ⟨Q72.as, Q72.rs, Bool, fun x => Q72 N (Q39 N) x.1 x.2.1 x.2.2.1 x.2.2.2.1, fun r o => r.1, fun b => (b, ()), fun b => (), none⟩
theorem Q72.fit : (Q72.D N).Fit := ⟨fun _ _ => rfl, fun _ _ => rfl, by kernel_rfl, (fun _ _ h => nomatch h), by kernel_rfl⟩
noncomputable def Q72.G : Gam := gamOf [(24, Q24.D N), (32, Q32.D N), (89, Q89.D N), (33, Q33.D N), (39, Q39.D N)]
def Q72.A : LA := fun k => bif Nat.beq k 0 then some ⟨[3, 4, 5, 9, 32, 33, 34], [], [], [], [2], 8, false⟩ else none
noncomputable def Q72.fin : St → Option Bool := resK tb Tryz.f72.results.toList (decRes (Q72.D N) Q72.lc)
noncomputable def Q72.k0 : List Item := stackAt [.r, .r, .r, .r, .l, .r, .b] (bodyOf Tryz.f72) []
def Q72.st0 (r_ : TRules) (p_ : TPos) (m_ : TMv) (n_ t33_ t34_ : Int) (m3_ m4_ m5_ : LInt) (q_ q_2 : Int) (m7_ : LMv) : St := ⟨rA 3 ++ [oi n_, .one (.ptr 0 0), .one (.ptr 1 0)] ++ rA 3 ++ [.one (.ptr 6 0)] ++ rA 22 ++ [.one (.own 7), oi t33_, oi t34_] ++ rA 24, [vR r_, vP p_, .gone, .row 3 tI m3_, .row 3 tI m4_, .row 3 tI m5_, .var 33 [.own 3, .own 4, .own 5, .int .i64 q_, .int .i64 q_2], .row 80 qd m7_]⟩
theorem Q72.step0 (rec : RK Bool) (r_ : TRules) (p_ : TPos) (m_ : TMv) (n_ t33_ t34_ : Int) (m3_ m4_ m5_ : LInt) (q_ q_2 : Int) (m7_ : LMv) : seg tb (Q72.G N) Q72.A 0 rec (Q72.fin N) segFuel (loopBody Q72.k0) (Q72.st0 r_ p_ m_ n_ t33_ t34_ m3_ m4_ m5_ q_ q_2 m7_) = Q72.s0 N (Q39 N) r_ p_ m_ n_ (fun t33_ t34_ m3_ m4_ m5_ q_ q_2 m7_ => rec Q72.k0 (Q72.st0 r_ p_ m_ n_ t33_ t34_ m3_ m4_ m5_ q_ q_2 m7_)) t33_ t34_ m3_ m4_ m5_ q_ q_2 m7_ := by kernel_rfl
theorem Q72.entry (rec : RK Bool) (x : (argH Q72.as).den) : seg tb (Q72.G N) Q72.A 0 rec (Q72.fin N) segFuel [.code (bodyOf Tryz.f72)] (initSt Tryz.f72 (encArgs Q72.as x) (encMem Q72.as x)) = Q72.e N (Q39 N) (fun t33_ t34_ m3_ m4_ m5_ q_ q_2 m7_ => rec Q72.k0 (Q72.st0 x.1 x.2.1 x.2.2.1 x.2.2.2.1 t33_ t34_ m3_ m4_ m5_ q_ q_2 m7_)) x.1 x.2.1 x.2.2.1 x.2.2.2.1 := by kernel_rfl
theorem Q72.runs (N : Nat) (r_ : TRules) (p_ : TPos) (m_ : TMv) (n_ : Int) : ∀ n, (∀ (t33_ t34_ : Int) (m3_ m4_ m5_ : LInt) (q_ q_2 : Int) (m7_ : LMv), run tb (Q72.G N) Q72.A 0 (Q72.fin N) n Q72.k0 (Q72.st0 r_ p_ m_ n_ t33_ t34_ m3_ m4_ m5_ q_ q_2 m7_) = Q72.l0 N (Q39 N) r_ p_ m_ n_ n t33_ t34_ m3_ m4_ m5_ q_ q_2 m7_)
 | 0 => fun _ _ _ _ _ _ _ _ => rfl
 | n + 1 => by
  have h0 := Q72.runs N r_ p_ m_ n_ n
  have e0 : (fun (t33_ t34_ : Int) (m3_ m4_ m5_ : LInt) (q_ q_2 : Int) (m7_ : LMv) => run tb (Q72.G N) Q72.A 0 (Q72.fin N) n Q72.k0 (Q72.st0 r_ p_ m_ n_ t33_ t34_ m3_ m4_ m5_ q_ q_2 m7_)) = Q72.l0 N (Q39 N) r_ p_ m_ n_ n := by funext t33_ t34_ m3_ m4_ m5_ q_ q_2 m7_; exact h0 t33_ t34_ m3_ m4_ m5_ q_ q_2 m7_
  have g0 : (∀ (t33_ t34_ : Int) (m3_ m4_ m5_ : LInt) (q_ q_2 : Int) (m7_ : LMv), run tb (Q72.G N) Q72.A 0 (Q72.fin N) (n + 1) Q72.k0 (Q72.st0 r_ p_ m_ n_ t33_ t34_ m3_ m4_ m5_ q_ q_2 m7_) = Q72.l0 N (Q39 N) r_ p_ m_ n_ (n + 1) t33_ t34_ m3_ m4_ m5_ q_ q_2 m7_) := by
   intro t33_ t34_ m3_ m4_ m5_ q_ q_2 m7_
   exact (run_succ (by kernel_rfl)).trans ((Q72.step0 N _ r_ p_ m_ n_ t33_ t34_ m3_ m4_ m5_ q_ q_2 m7_).trans ((congrArg (fun r0 => Q72.s0 N (Q39 N) r_ p_ m_ n_ r0 t33_ t34_ m3_ m4_ m5_ q_ q_2 m7_) e0).trans (Q72.l0_s N (Q39 N) r_ p_ m_ n_ n t33_ t34_ m3_ m4_ m5_ q_ q_2 m7_).symm))
  exact g0
theorem Q72.ok (ih : FnOk Tryz.prog 39 (Q39.D N)) : FnOk Tryz.prog 72 (Q72.D N) := by
 refine FnOk_of tb_ok (Checked.mixed Tryz.checked) ⟨Tryz.f72, Tryz.func72, by kernel_rfl, by kernel_rfl, fun x y h => ⟨Q72.G N, Q72.A, N, gamOf_ok (by simp only [List.forall_mem_cons, List.not_mem_nil, false_implies, implies_true, and_true]; exact ⟨⟨Q24.ok N, Q24.fit N⟩, ⟨Q32.ok N, Q32.fit N⟩, ⟨Q89.ok N, Q89.fit N⟩, ⟨Q33.ok N, Q33.fit N⟩, ⟨ih, Q39.fit N⟩⟩), ?_⟩⟩ (Q72.fit N)
 rw [absFn_n (n0 := 0) rfl (by kernel_rfl)]
 refine (Q72.entry N (run tb (Q72.G N) Q72.A 0 (Q72.fin N) N) x).trans ?_
 have e0 : (fun (t33_ t34_ : Int) (m3_ m4_ m5_ : LInt) (q_ q_2 : Int) (m7_ : LMv) => run tb (Q72.G N) Q72.A 0 (Q72.fin N) N Q72.k0 (Q72.st0 x.1 x.2.1 x.2.2.1 x.2.2.2.1 t33_ t34_ m3_ m4_ m5_ q_ q_2 m7_)) = Q72.l0 N (Q39 N) x.1 x.2.1 x.2.2.1 x.2.2.2.1 N := by funext t33_ t34_ m3_ m4_ m5_ q_ q_2 m7_; exact (Q72.runs N x.1 x.2.1 x.2.2.1 x.2.2.2.1 N) t33_ t34_ m3_ m4_ m5_ q_ q_2 m7_
 have h' : (Q72.D N).f x = Q72.e N (Q39 N) (Q72.l0 N (Q39 N) x.1 x.2.1 x.2.2.1 x.2.2.2.1 N) x.1 x.2.1 x.2.2.1 x.2.2.2.1 := by kernel_rfl
 exact (congrArg (fun r0 => Q72.e N (Q39 N) r0 x.1 x.2.1 x.2.2.1 x.2.2.2.1) e0).trans (h'.symm.trans h)
noncomputable def Q39.G : Gam := gamOf [(33, Q33.D N), (72, Q72.D N), (39, Q39.D N)]
def Q39.A : LA := fun k => bif Nat.beq k 0 then some ⟨[2, 3, 4, 11, 12, 13], [], [], [], [], 3, false⟩ else none
noncomputable def Q39.fin : St → Option Bool := resK tb Tryz.f39.results.toList (decRes (Q39.D (N + 1)) Q39.lc)
noncomputable def Q39.k0 : List Item := stackAt [.r, .l, .r, .b] (bodyOf Tryz.f39) []
def Q39.st0 (r_ : TRules) (p_ : TPos) (n_ t12_ t13_ : Int) (m2_ : LMv) : St := ⟨[oA, oA, oi n_, .one (.ptr 0 0), .one (.ptr 1 0)] ++ rA 6 ++ [.one (.own 2), oi t12_, oi t13_] ++ rA 9, [vR r_, vP p_, .row 80 qd m2_]⟩
theorem Q39.step0 (rec : RK Bool) (r_ : TRules) (p_ : TPos) (n_ t12_ t13_ : Int) (m2_ : LMv) : seg tb (Q39.G N) Q39.A 0 rec (Q39.fin N) segFuel (loopBody Q39.k0) (Q39.st0 r_ p_ n_ t12_ t13_ m2_) = Q39.s0 N (Q39 N) r_ p_ n_ (fun t12_ t13_ m2_ => rec Q39.k0 (Q39.st0 r_ p_ n_ t12_ t13_ m2_)) t12_ t13_ m2_ := by kernel_rfl
theorem Q39.entry (rec : RK Bool) (x : (argH Q39.as).den) : seg tb (Q39.G N) Q39.A 0 rec (Q39.fin N) segFuel [.code (bodyOf Tryz.f39)] (initSt Tryz.f39 (encArgs Q39.as x) (encMem Q39.as x)) = Q39.e N (Q39 N) (fun t12_ t13_ m2_ => rec Q39.k0 (Q39.st0 x.1 x.2.1 x.2.2.1 t12_ t13_ m2_)) x.1 x.2.1 x.2.2.1 := by kernel_rfl
theorem Q39.runs (N : Nat) (r_ : TRules) (p_ : TPos) (n_ : Int) : ∀ n, (∀ (t12_ t13_ : Int) (m2_ : LMv), run tb (Q39.G N) Q39.A 0 (Q39.fin N) n Q39.k0 (Q39.st0 r_ p_ n_ t12_ t13_ m2_) = Q39.l0 N (Q39 N) r_ p_ n_ n t12_ t13_ m2_)
 | 0 => fun _ _ _ => rfl
 | n + 1 => by
  have h0 := Q39.runs N r_ p_ n_ n
  have e0 : (fun (t12_ t13_ : Int) (m2_ : LMv) => run tb (Q39.G N) Q39.A 0 (Q39.fin N) n Q39.k0 (Q39.st0 r_ p_ n_ t12_ t13_ m2_)) = Q39.l0 N (Q39 N) r_ p_ n_ n := by funext t12_ t13_ m2_; exact h0 t12_ t13_ m2_
  have g0 : (∀ (t12_ t13_ : Int) (m2_ : LMv), run tb (Q39.G N) Q39.A 0 (Q39.fin N) (n + 1) Q39.k0 (Q39.st0 r_ p_ n_ t12_ t13_ m2_) = Q39.l0 N (Q39 N) r_ p_ n_ (n + 1) t12_ t13_ m2_) := by
   intro t12_ t13_ m2_
   exact (run_succ (by kernel_rfl)).trans ((Q39.step0 N _ r_ p_ n_ t12_ t13_ m2_).trans ((congrArg (fun r0 => Q39.s0 N (Q39 N) r_ p_ n_ r0 t12_ t13_ m2_) e0).trans (Q39.l0_s N (Q39 N) r_ p_ n_ n t12_ t13_ m2_).symm))
  exact g0
theorem Q39.ok1 (ih : FnOk Tryz.prog 39 (Q39.D N)) : FnOk Tryz.prog 39 (Q39.D (N + 1)) := by
 refine FnOk_of tb_ok (Checked.mixed Tryz.checked) ⟨Tryz.f39, Tryz.func39, by kernel_rfl, by kernel_rfl, fun x y h => ⟨Q39.G N, Q39.A, N, gamOf_ok (by simp only [List.forall_mem_cons, List.not_mem_nil, false_implies, implies_true, and_true]; exact ⟨⟨Q33.ok N, Q33.fit N⟩, ⟨Q72.ok N ih, Q72.fit N⟩, ⟨ih, Q39.fit N⟩⟩), ?_⟩⟩ (Q39.fit (N + 1))
 rw [absFn_n (n0 := 0) rfl (by kernel_rfl)]
 refine (Q39.entry N (run tb (Q39.G N) Q39.A 0 (Q39.fin N) N) x).trans ?_
 have e0 : (fun (t12_ t13_ : Int) (m2_ : LMv) => run tb (Q39.G N) Q39.A 0 (Q39.fin N) N Q39.k0 (Q39.st0 x.1 x.2.1 x.2.2.1 t12_ t13_ m2_)) = Q39.l0 N (Q39 N) x.1 x.2.1 x.2.2.1 N := by funext t12_ t13_ m2_; exact (Q39.runs N x.1 x.2.1 x.2.2.1 N) t12_ t13_ m2_
 have h' : (Q39.D (N + 1)).f x = Q39.e N (Q39 N) (Q39.l0 N (Q39 N) x.1 x.2.1 x.2.2.1 N) x.1 x.2.1 x.2.2.1 := by kernel_rfl
 exact (congrArg (fun r0 => Q39.e N (Q39 N) r0 x.1 x.2.1 x.2.2.1) e0).trans (h'.symm.trans h)
theorem Q39.ok : ∀ N, FnOk Tryz.prog 39 (Q39.D N)
 | 0 => FnOk_none Tryz.func39 (by kernel_rfl) (by kernel_rfl) (fun x => rfl)
 | N + 1 => Q39.ok1 N (Q39.ok N)
def Q14.as : List MK := [.d true qa, .d true qc]
def Q14.rs : List (Bool × HT) := [(false, (.d tI)), (false, (.d tI))]
def Q14.lc : List AC := []
def Q14.D : DFn := ⟨Q14.as, Q14.rs, (Int × Int), fun x => Q14 N x.1 x.2.1, fun r o => (r.1, r.2.1), fun b => (b.1, (b.2, ())), fun b => (), none⟩
theorem Q14.fit : (Q14.D N).Fit := ⟨fun _ _ => rfl, fun _ _ => rfl, by kernel_rfl, (fun _ _ h => nomatch h), by kernel_rfl⟩
noncomputable def Q14.G : Gam := gamOf [(38, Q38.D N), (39, Q39.D N)]
def Q14.A : LA := fun k => bif Nat.beq k 0 then some ⟨[2, 3, 6], [], [], [], [], 2, false⟩ else none
noncomputable def Q14.fin : St → Option (Int × Int) := resK tb Tryz.f14.results.toList (decRes (Q14.D N) Q14.lc)
noncomputable def Q14.k0 : List Item := stackAt [.r, .l, .r, .b] (bodyOf Tryz.f14) []
def Q14.st0 (r_ : TRules) (p_ : TPos) (n_ : Int) : St := ⟨[oA, oA, .one (.ptr 0 0), .one (.ptr 1 0), oA, oA, oi n_] ++ rA 17, [vR r_, vP p_]⟩
theorem Q14.step0 (rec : RK (Int × Int)) (r_ : TRules) (p_ : TPos) (n_ : Int) : seg tb (Q14.G N) Q14.A 0 rec (Q14.fin N) segFuel (loopBody Q14.k0) (Q14.st0 r_ p_ n_) = Q14.s0 N r_ p_ (fun n_ => rec Q14.k0 (Q14.st0 r_ p_ n_)) n_ := by kernel_rfl
theorem Q14.entry (rec : RK (Int × Int)) (x : (argH Q14.as).den) : seg tb (Q14.G N) Q14.A 0 rec (Q14.fin N) segFuel [.code (bodyOf Tryz.f14)] (initSt Tryz.f14 (encArgs Q14.as x) (encMem Q14.as x)) = Q14.e N (fun n_ => rec Q14.k0 (Q14.st0 x.1 x.2.1 n_)) x.1 x.2.1 := by kernel_rfl
theorem Q14.runs (N : Nat) (r_ : TRules) (p_ : TPos) : ∀ n, (∀ (n_ : Int), run tb (Q14.G N) Q14.A 0 (Q14.fin N) n Q14.k0 (Q14.st0 r_ p_ n_) = Q14.l0 N r_ p_ n n_)
 | 0 => fun _ => rfl
 | n + 1 => by
  have h0 := Q14.runs N r_ p_ n
  have e0 : (fun (n_ : Int) => run tb (Q14.G N) Q14.A 0 (Q14.fin N) n Q14.k0 (Q14.st0 r_ p_ n_)) = Q14.l0 N r_ p_ n := by funext n_; exact h0 n_
  have g0 : (∀ (n_ : Int), run tb (Q14.G N) Q14.A 0 (Q14.fin N) (n + 1) Q14.k0 (Q14.st0 r_ p_ n_) = Q14.l0 N r_ p_ (n + 1) n_) := by
   intro n_
   exact (run_succ (by kernel_rfl)).trans ((Q14.step0 N _ r_ p_ n_).trans ((congrArg (fun r0 => Q14.s0 N r_ p_ r0 n_) e0).trans (Q14.l0_s N r_ p_ n n_).symm))
  exact g0
theorem Q14.ok : FnOk Tryz.prog 14 (Q14.D N) := by
 refine FnOk_of tb_ok (Checked.mixed Tryz.checked) ⟨Tryz.f14, Tryz.func14, by kernel_rfl, by kernel_rfl, fun x y h => ⟨Q14.G N, Q14.A, N, gamOf_ok (gc ⟨Q38.ok N, Q38.fit N⟩ (gc ⟨Q39.ok N, Q39.fit N⟩ gn)), ?_⟩⟩ (Q14.fit N)
 rw [absFn_n (n0 := 0) rfl (by kernel_rfl)]
 refine (Q14.entry N (run tb (Q14.G N) Q14.A 0 (Q14.fin N) N) x).trans ?_
 have e0 : (fun (n_ : Int) => run tb (Q14.G N) Q14.A 0 (Q14.fin N) N Q14.k0 (Q14.st0 x.1 x.2.1 n_)) = Q14.l0 N x.1 x.2.1 N := by funext n_; exact (Q14.runs N x.1 x.2.1 N) n_
 have h' : (Q14.D N).f x = Q14.e N (Q14.l0 N x.1 x.2.1 N) x.1 x.2.1 := by kernel_rfl
 exact (congrArg (fun r0 => Q14.e N r0 x.1 x.2.1) e0).trans (h'.symm.trans h)
def Q15.as : List MK := [.d true qa, .d true qc]
def Q15.rs : List (Bool × HT) := [(false, (.d tI)), (false, (.d tI))]
def Q15.lc : List AC := []
def Q15.D : DFn := ⟨Q15.as, Q15.rs, (Int × Int), fun x => Q15 N x.1 x.2.1, fun r o => (r.1, r.2.1), fun b => (b.1, (b.2, ())), fun b => (), none⟩
theorem Q15.fit : (Q15.D N).Fit := ⟨fun _ _ => rfl, fun _ _ => rfl, by kernel_rfl, (fun _ _ h => nomatch h), by kernel_rfl⟩
noncomputable def Q15.G : Gam := gamOf [(40, Q40.D N), (32, Q32.D N)]
def Q15.A : LA := fun _ => none
noncomputable def Q15.fin : St → Option (Int × Int) := resK tb Tryz.f15.results.toList (decRes (Q15.D N) Q15.lc)
theorem Q15.entry (rec : RK (Int × Int)) (x : (argH Q15.as).den) : seg tb (Q15.G N) Q15.A 0 rec (Q15.fin N) segFuel [.code (bodyOf Tryz.f15)] (initSt Tryz.f15 (encArgs Q15.as x) (encMem Q15.as x)) = Q15.e N x.1 x.2.1 := by kernel_rfl
theorem Q15.ok : FnOk Tryz.prog 15 (Q15.D N) := by
 refine FnOk_of tb_ok (Checked.mixed Tryz.checked) ⟨Tryz.f15, Tryz.func15, by kernel_rfl, by kernel_rfl, fun x y h => ⟨Q15.G N, Q15.A, N, gamOf_ok (gc ⟨Q40.ok N, Q40.fit N⟩ (gc ⟨Q32.ok N, Q32.fit N⟩ gn)), ?_⟩⟩ (Q15.fit N)
 rw [absFn_n (n0 := 0) rfl (by kernel_rfl)]
 exact (Q15.entry N _ x).trans h
def Q16.as : List MK := [.d true qa, .d true qc]
def Q16.rs : List (Bool × HT) := [(false, (.own 80 qd)), (false, (.d tI))]
def Q16.lc : List AC := []
def Q16.D : DFn := ⟨Q16.as, Q16.rs, (LMv × Int), fun x => Q16 N x.1 x.2.1, fun r o => (r.1, r.2.1), fun b => (b.1, (b.2, ())), fun b => (), none⟩
theorem Q16.fit : (Q16.D N).Fit := ⟨fun _ _ => rfl, fun _ _ => rfl, by kernel_rfl, (fun _ _ h => nomatch h), by kernel_rfl⟩
noncomputable def Q16.G : Gam := gamOf [(40, Q40.D N), (33, Q33.D N)]
def Q16.A : LA := fun _ => none
noncomputable def Q16.fin : St → Option (LMv × Int) := resK tb Tryz.f16.results.toList (decRes (Q16.D N) Q16.lc)
theorem Q16.entry (rec : RK (LMv × Int)) (x : (argH Q16.as).den) : seg tb (Q16.G N) Q16.A 0 rec (Q16.fin N) segFuel [.code (bodyOf Tryz.f16)] (initSt Tryz.f16 (encArgs Q16.as x) (encMem Q16.as x)) = Q16.e N x.1 x.2.1 := by kernel_rfl
theorem Q16.ok : FnOk Tryz.prog 16 (Q16.D N) := by
 refine FnOk_of tb_ok (Checked.mixed Tryz.checked) ⟨Tryz.f16, Tryz.func16, by kernel_rfl, by kernel_rfl, fun x y h => ⟨Q16.G N, Q16.A, N, gamOf_ok (gc ⟨Q40.ok N, Q40.fit N⟩ (gc ⟨Q33.ok N, Q33.fit N⟩ gn)), ?_⟩⟩ (Q16.fit N)
 rw [absFn_n (n0 := 0) rfl (by kernel_rfl)]
 exact (Q16.entry N _ x).trans h
def Q4.as : List MK := []
def Q4.rs : List (Bool × HT) := [(false, (.d .bool))]
def Q4.lc : List AC := []
def Q4.D : DFn := ⟨Q4.as, Q4.rs, Bool, fun x => Q4 N, fun r o => r.1, fun b => (b, ()), fun b => (), none⟩
theorem Q4.fit : (Q4.D N).Fit := ⟨fun _ _ => rfl, fun _ _ => rfl, by kernel_rfl, (fun _ _ h => nomatch h), by kernel_rfl⟩
noncomputable def Q4.G : Gam := gamOf [(11, Q11.D N), (7, Q7.D N), (12, Q12.D N), (8, Q8.D N), (6, Q6.D N), (13, Q13.D N), (9, Q9.D N), (10, Q10.D N), (14, Q14.D N), (15, Q15.D N), (16, Q16.D N)]
def Q4.A : LA := fun _ => none
noncomputable def Q4.fin : St → Option Bool := resK tb Tryz.f4.results.toList (decRes (Q4.D N) Q4.lc)
theorem Q4.entry (rec : RK Bool) (x : (argH Q4.as).den) : seg tb (Q4.G N) Q4.A 0 rec (Q4.fin N) segFuel [.code (bodyOf Tryz.f4)] (initSt Tryz.f4 (encArgs Q4.as x) (encMem Q4.as x)) = Q4.e N := by kernel_rfl
theorem Q4.ok : FnOk Tryz.prog 4 (Q4.D N) := by
 refine FnOk_of tb_ok (Checked.mixed Tryz.checked) ⟨Tryz.f4, Tryz.func4, by kernel_rfl, by kernel_rfl, fun x y h => ⟨Q4.G N, Q4.A, N, gamOf_ok (gc ⟨Q11.ok N, Q11.fit N⟩ (gc ⟨Q7.ok N, Q7.fit N⟩ (gc ⟨Q12.ok N, Q12.fit N⟩ (gc ⟨Q8.ok N, Q8.fit N⟩ (gc ⟨Q6.ok N, Q6.fit N⟩ (gc ⟨Q13.ok N, Q13.fit N⟩ (gc ⟨Q9.ok N, Q9.fit N⟩ (gc ⟨Q10.ok N, Q10.fit N⟩ (gc ⟨Q14.ok N, Q14.fit N⟩ (gc ⟨Q15.ok N, Q15.fit N⟩ (gc ⟨Q16.ok N, Q16.fit N⟩ gn))))))))))), ?_⟩⟩ (Q4.fit N)
 rw [absFn_n (n0 := 0) rfl (by kernel_rfl)]
 exact (Q4.entry N _ x).trans h
def Q17.as : List MK := [.o (.ptr 63 (.prod (.prod (.d .str) (.prod (.d tI) (.prod (.d tI) (.prod (.own 89 qb) (.prod (.own 3 tI) (.prod (.d .bool) (.prod (.d .bool) (.prod (.own 91 qe) (.d qd))))))))) (.prod (.own 33 qc) (.prod (.own 23 (.slice 3 tI)) (.prod (.own 43 (.slice 80 qd)) (.prod (.own 35 (.prod tI tI)) (.mp false false .str tI))))))) true]
def Q17.rs : List (Bool × HT) := [(false, (.d tI))]
def Q17.lc : List AC := [.ptr 0 0]
def Q17.D : DFn := ⟨Q17.as, Q17.rs, (Int × TTab), fun x => Q17 N x.1, fun r o => (r.1, o.1), fun b => (b.1, ()), fun b => (b.2, ()), none⟩
theorem Q17.fit : (Q17.D N).Fit := ⟨fun _ _ => rfl, fun _ _ => rfl, by kernel_rfl, (fun _ _ h => nomatch h), by kernel_rfl⟩
noncomputable def Q17.G (N : Nat) : Gam := gamOf []
def Q17.A : LA := fun _ => none
noncomputable def Q17.fin : St → Option (Int × TTab) := resK tb Tryz.f17.results.toList (decRes (Q17.D N) Q17.lc)
theorem Q17.entry (rec : RK (Int × TTab)) (x : (argH Q17.as).den) : seg tb (Q17.G N) Q17.A 9 rec (Q17.fin N) segFuel [.code (bodyOf Tryz.f17)] (initSt Tryz.f17 (encArgs Q17.as x) (encMem Q17.as x)) = Q17.e N x.1 := by kernel_rfl
theorem Q17.ok : FnOk Tryz.prog 17 (Q17.D N) := by
 refine FnOk_of tb_ok (Checked.mixed Tryz.checked) ⟨Tryz.f17, Tryz.func17, by kernel_rfl, by kernel_rfl, fun x y h => ⟨Q17.G N, Q17.A, N, gamOf_ok (fun p hp => nomatch hp), ?_⟩⟩ (Q17.fit N)
 rw [absFn_n (n0 := 9) rfl (by kernel_rfl)]
 exact (Q17.entry N _ x).trans h
end
end Go.Proofs.YtfihdjjilofklaaGreat.Am
