/- PRINTED by gen.py: the abstract machine evaluates the loaded code to these functions. -/
import Derived.Test.YtpielijehhhobaaEvf2
set_option linter.unusedVariables false
set_option linter.unusedSimpArgs false
namespace Go.Proofs.Ytpielijehhhobaa.Am
open Go
noncomputable section
set_option maxRecDepth 100000
def Q59.as : List MK := [.d true (.prod .str (.prod tI (.prod tI (.prod (.slice 107 (.prod (.int .u8) (.prod tI (.prod tI (.slice 127 (.prod tI (.prod tI (.prod tI tI)))))))) (.prod (.slice 3 tI) (.prod .bool (.prod .bool (.prod (.slice 109 (.prod tI (.prod tI (.prod tI .bool)))) (.prod tI (.prod tI tI))))))))))]
def Q59.rs : List (Bool × HT) := [(true, (.prod (.own 3 tI) (.prod (.prod (.own 3 tI) (.own 3 tI)) (.d (.prod tI tI)))))]
def Q59.lc : List AC := []
def Q59.D (N : Nat) : DFn := ⟨Q59.as, Q59.rs, TPos, fun x => Q59 N x.1, fun r o => r.1, fun b => (b, ()), fun b => (), none⟩
theorem Q59.fit (N : Nat) : (Q59.D N).Fit := ⟨fun _ _ => rfl, fun _ _ => rfl, by kernel_rfl, (fun _ _ h => nomatch h), by kernel_rfl⟩
noncomputable def Q59.G (N : Nat) : Gam := gamOf [(75, Q75.D N)]
def Q59.A : Nat → Option LoopAnn := fun k => bif Nat.beq k 0 then some ⟨[1, 2, 3, 11], [], [(3, 1, 3), (3, 2, 3)], [], [], 6, false⟩ else bif Nat.beq k 2 then some ⟨[1, 2, 3, 4, 11, 15, 16, 17], [], [(3, 1, 3), (3, 2, 3)], [(true, 3, 1, 4), (true, 3, 2, 5)], [], 6, false⟩ else bif Nat.beq k 1000008 then some ⟨[4], [], [], [], [], 2, false⟩ else none
noncomputable def Q59.fin (N : Nat) : St → Option TPos := resK tb Try.f59.results.toList (decRes (Q59.D N) Q59.lc)
noncomputable def Q59.k0 : List Item := stackAt [.r, .r, .l, .r, .b] (bodyOf Try.f59) []
def Q59.st0 (r_ : TRules) (t11_ : Int) (m2_ m4_ m5_ : LInt) : St := ⟨[.one .any, .one (.ptr 0 0), .one (.ptr 1 0), .one (.ptr 3 0)] ++ List.replicate 7 (.one .any) ++ [.one (.int .i64 t11_)] ++ List.replicate 23 (.one .any), [.var 26 [.str r_.1, .int .i64 r_.2.1, .int .i64 r_.2.2.1, .fro 107 (.prod (.int .u8) (.prod tI (.prod tI (.slice 127 (.prod tI (.prod tI (.prod tI tI))))))) r_.2.2.2.1, .fro 3 tI r_.2.2.2.2.1, .bool r_.2.2.2.2.2.1, .bool r_.2.2.2.2.2.2.1, .fro 109 (.prod tI (.prod tI (.prod tI .bool))) r_.2.2.2.2.2.2.2.1, .int .i64 r_.2.2.2.2.2.2.2.2.1, .int .i64 r_.2.2.2.2.2.2.2.2.2.1, .int .i64 r_.2.2.2.2.2.2.2.2.2.2], .var 29 [.nilS, .nilS, .nilS, .int .i64 0, .int .i64 0], .row 3 tI m2_, .var 29 [.own 2, .own 4, .own 5, .int .i64 0, .int .i64 0], .row 3 tI m4_, .row 3 tI m5_]⟩
noncomputable def Q59.k1 : List Item := stackAt [.r, .r, .l, .r, .b, .w, .r, .r, .l, .b, .r, .r, .b] (bodyOf Try.f59) []
def Q59.st1 (r_ : TRules) (o_ t11_ t16_ t17_ : Int) (m2_ m4_ m5_ : LInt) : St := ⟨[.one .any, .one (.ptr 0 0), .one (.ptr 1 0), .one (.ptr 3 0), .one (.int .i64 o_)] ++ List.replicate 6 (.one .any) ++ [.one (.int .i64 t11_)] ++ List.replicate 3 (.one .any) ++ [.one (.fro 107 (.prod (.int .u8) (.prod tI (.prod tI (.slice 127 (.prod tI (.prod tI (.prod tI tI))))))) r_.2.2.2.1), .one (.int .i64 t16_), .one (.int .i64 t17_)] ++ List.replicate 17 (.one .any), [.var 26 [.str r_.1, .int .i64 r_.2.1, .int .i64 r_.2.2.1, .fro 107 (.prod (.int .u8) (.prod tI (.prod tI (.slice 127 (.prod tI (.prod tI (.prod tI tI))))))) r_.2.2.2.1, .fro 3 tI r_.2.2.2.2.1, .bool r_.2.2.2.2.2.1, .bool r_.2.2.2.2.2.2.1, .fro 109 (.prod tI (.prod tI (.prod tI .bool))) r_.2.2.2.2.2.2.2.1, .int .i64 r_.2.2.2.2.2.2.2.2.1, .int .i64 r_.2.2.2.2.2.2.2.2.2.1, .int .i64 r_.2.2.2.2.2.2.2.2.2.2], .var 29 [.nilS, .nilS, .nilS, .int .i64 0, .int .i64 0], .row 3 tI m2_, .var 29 [.own 2, .own 4, .own 5, .int .i64 0, .int .i64 0], .row 3 tI m4_, .row 3 tI m5_]⟩
theorem Q59.step0 (N : Nat) (rec : List Item → St → Option TPos) (r_ : TRules) (t11_ : Int) (m2_ m4_ m5_ : LInt) : seg tb (Q59.G N) Q59.A 0 rec (Q59.fin N) segFuel (loopBody Q59.k0) (Q59.st0 r_ t11_ m2_ m4_ m5_) = Q59.s0 N r_ (fun t11_ m2_ m4_ m5_ => rec Q59.k0 (Q59.st0 r_ t11_ m2_ m4_ m5_)) (fun o_ t11_ t16_ t17_ m2_ m4_ m5_ => rec Q59.k1 (Q59.st1 r_ o_ t11_ t16_ t17_ m2_ m4_ m5_)) t11_ m2_ m4_ m5_ := by kernel_rfl
theorem Q59.step1 (N : Nat) (rec : List Item → St → Option TPos) (r_ : TRules) (o_ t11_ t16_ t17_ : Int) (m2_ m4_ m5_ : LInt) : seg tb (Q59.G N) Q59.A 0 rec (Q59.fin N) segFuel (loopBody Q59.k1) (Q59.st1 r_ o_ t11_ t16_ t17_ m2_ m4_ m5_) = Q59.s1 N r_ (fun t11_ m2_ m4_ m5_ => rec Q59.k0 (Q59.st0 r_ t11_ m2_ m4_ m5_)) (fun o_ t11_ t16_ t17_ m2_ m4_ m5_ => rec Q59.k1 (Q59.st1 r_ o_ t11_ t16_ t17_ m2_ m4_ m5_)) o_ t11_ t16_ t17_ m2_ m4_ m5_ := by kernel_rfl
theorem Q59.entry (N : Nat) (rec : List Item → St → Option TPos) (x : (argH Q59.as).den) : seg tb (Q59.G N) Q59.A 0 rec (Q59.fin N) segFuel [.code (bodyOf Try.f59)] (initSt Try.f59 (encArgs Q59.as x) (encMem Q59.as x)) = Q59.e N (fun t11_ m2_ m4_ m5_ => rec Q59.k0 (Q59.st0 x.1 t11_ m2_ m4_ m5_)) (fun o_ t11_ t16_ t17_ m2_ m4_ m5_ => rec Q59.k1 (Q59.st1 x.1 o_ t11_ t16_ t17_ m2_ m4_ m5_)) x.1 := by kernel_rfl
theorem Q59.runs (N : Nat) (r_ : TRules) : ∀ n, (∀ (t11_ : Int) (m2_ m4_ m5_ : LInt), run tb (Q59.G N) Q59.A 0 (Q59.fin N) n Q59.k0 (Q59.st0 r_ t11_ m2_ m4_ m5_) = Q59.l0 N r_ n t11_ m2_ m4_ m5_) ∧ (∀ (o_ t11_ t16_ t17_ : Int) (m2_ m4_ m5_ : LInt), run tb (Q59.G N) Q59.A 0 (Q59.fin N) n Q59.k1 (Q59.st1 r_ o_ t11_ t16_ t17_ m2_ m4_ m5_) = Q59.l1 N r_ n o_ t11_ t16_ t17_ m2_ m4_ m5_)
 | 0 => ⟨fun _ _ _ _ => rfl, fun _ _ _ _ _ _ _ => rfl⟩
 | n + 1 => by
  obtain ⟨h0, h1⟩ := Q59.runs N r_ n
  have e0 : (fun (t11_ : Int) (m2_ m4_ m5_ : LInt) => run tb (Q59.G N) Q59.A 0 (Q59.fin N) n Q59.k0 (Q59.st0 r_ t11_ m2_ m4_ m5_)) = Q59.l0 N r_ n := by funext t11_ m2_ m4_ m5_; exact h0 t11_ m2_ m4_ m5_
  have e1 : (fun (o_ t11_ t16_ t17_ : Int) (m2_ m4_ m5_ : LInt) => run tb (Q59.G N) Q59.A 0 (Q59.fin N) n Q59.k1 (Q59.st1 r_ o_ t11_ t16_ t17_ m2_ m4_ m5_)) = Q59.l1 N r_ n := by funext o_ t11_ t16_ t17_ m2_ m4_ m5_; exact h1 o_ t11_ t16_ t17_ m2_ m4_ m5_
  have g0 : (∀ (t11_ : Int) (m2_ m4_ m5_ : LInt), run tb (Q59.G N) Q59.A 0 (Q59.fin N) (n + 1) Q59.k0 (Q59.st0 r_ t11_ m2_ m4_ m5_) = Q59.l0 N r_ (n + 1) t11_ m2_ m4_ m5_) := by
   intro t11_ m2_ m4_ m5_
   exact (run_succ (by kernel_rfl)).trans ((Q59.step0 N _ r_ t11_ m2_ m4_ m5_).trans ((congr (congrArg (fun r0 r1 => Q59.s0 N r_ r0 r1 t11_ m2_ m4_ m5_) e0) e1).trans (Q59.l0_s N r_ n t11_ m2_ m4_ m5_).symm))
  have g1 : (∀ (o_ t11_ t16_ t17_ : Int) (m2_ m4_ m5_ : LInt), run tb (Q59.G N) Q59.A 0 (Q59.fin N) (n + 1) Q59.k1 (Q59.st1 r_ o_ t11_ t16_ t17_ m2_ m4_ m5_) = Q59.l1 N r_ (n + 1) o_ t11_ t16_ t17_ m2_ m4_ m5_) := by
   intro o_ t11_ t16_ t17_ m2_ m4_ m5_
   exact (run_succ (by kernel_rfl)).trans ((Q59.step1 N _ r_ o_ t11_ t16_ t17_ m2_ m4_ m5_).trans ((congr (congrArg (fun r0 r1 => Q59.s1 N r_ r0 r1 o_ t11_ t16_ t17_ m2_ m4_ m5_) e0) e1).trans (Q59.l1_s N r_ n o_ t11_ t16_ t17_ m2_ m4_ m5_).symm))
  exact ⟨g0, g1⟩
theorem Q59.ok (N : Nat) : FnOk Try.prog 59 (Q59.D N) := by
 refine FnOk_of tb_ok (Checked.mixed Try.checked) ⟨Try.f59, Try.func59, by kernel_rfl, by kernel_rfl, fun x y h => ⟨Q59.G N, Q59.A, N, gamOf_ok (by simp only [List.forall_mem_cons, List.not_mem_nil, false_implies, implies_true, and_true]; exact ⟨Q75.ok N, Q75.fit N⟩), ?_⟩⟩ (Q59.fit N)
 rw [absFn_n (n0 := 0) rfl (by kernel_rfl)]
 refine (Q59.entry N (run tb (Q59.G N) Q59.A 0 (Q59.fin N) N) x).trans ?_
 have e0 : (fun (t11_ : Int) (m2_ m4_ m5_ : LInt) => run tb (Q59.G N) Q59.A 0 (Q59.fin N) N Q59.k0 (Q59.st0 x.1 t11_ m2_ m4_ m5_)) = Q59.l0 N x.1 N := by funext t11_ m2_ m4_ m5_; exact (Q59.runs N x.1 N).1 t11_ m2_ m4_ m5_
 have e1 : (fun (o_ t11_ t16_ t17_ : Int) (m2_ m4_ m5_ : LInt) => run tb (Q59.G N) Q59.A 0 (Q59.fin N) N Q59.k1 (Q59.st1 x.1 o_ t11_ t16_ t17_ m2_ m4_ m5_)) = Q59.l1 N x.1 N := by funext o_ t11_ t16_ t17_ m2_ m4_ m5_; exact (Q59.runs N x.1 N).2 o_ t11_ t16_ t17_ m2_ m4_ m5_
 have h' : (Q59.D N).f x = Q59.e N (Q59.l0 N x.1 N) (Q59.l1 N x.1 N) x.1 := by kernel_rfl
 exact (congr (congrArg (fun r0 r1 => Q59.e N r0 r1 x.1) e0) e1).trans (h'.symm.trans h)
def Q35.as : List MK := [.d true (.prod .str (.prod tI (.prod tI (.prod (.slice 107 (.prod (.int .u8) (.prod tI (.prod tI (.slice 127 (.prod tI (.prod tI (.prod tI tI)))))))) (.prod (.slice 3 tI) (.prod .bool (.prod .bool (.prod (.slice 109 (.prod tI (.prod tI (.prod tI .bool)))) (.prod tI (.prod tI tI))))))))))]
def Q35.rs : List (Bool × HT) := [(true, (.prod (.own 3 tI) (.prod (.prod (.own 3 tI) (.own 3 tI)) (.d (.prod tI tI))))), (false, (.d tI))]
def Q35.lc : List AC := []
def Q35.D (N : Nat) : DFn := ⟨Q35.as, Q35.rs, (TPos × Int), fun x => Q35 N x.1, fun r o => (r.1, r.2.1), fun b => (b.1, (b.2, ())), fun b => (), none⟩
theorem Q35.fit (N : Nat) : (Q35.D N).Fit := ⟨fun _ _ => rfl, fun _ _ => rfl, by kernel_rfl, (fun _ _ h => nomatch h), by kernel_rfl⟩
noncomputable def Q35.G (N : Nat) : Gam := gamOf [(58, Q58.D N), (59, Q59.D N)]
def Q35.A : Nat → Option LoopAnn := fun _ => none
noncomputable def Q35.fin (N : Nat) : St → Option (TPos × Int) := resK tb Try.f35.results.toList (decRes (Q35.D N) Q35.lc)
theorem Q35.entry (N : Nat) (rec : List Item → St → Option (TPos × Int)) (x : (argH Q35.as).den) : seg tb (Q35.G N) Q35.A 0 rec (Q35.fin N) segFuel [.code (bodyOf Try.f35)] (initSt Try.f35 (encArgs Q35.as x) (encMem Q35.as x)) = Q35.e N x.1 := by kernel_rfl
theorem Q35.ok (N : Nat) : FnOk Try.prog 35 (Q35.D N) := by
 refine FnOk_of tb_ok (Checked.mixed Try.checked) ⟨Try.f35, Try.func35, by kernel_rfl, by kernel_rfl, fun x y h => ⟨Q35.G N, Q35.A, N, gamOf_ok (by simp only [List.forall_mem_cons, List.not_mem_nil, false_implies, implies_true, and_true]; exact ⟨⟨Q58.ok N, Q58.fit N⟩, ⟨Q59.ok N, Q59.fit N⟩⟩), ?_⟩⟩ (Q35.fit N)
 rw [absFn_n (n0 := 0) rfl (by kernel_rfl)]
 exact (Q35.entry N _ x).trans h
def Q17.as : List MK := [.d true (.prod .str (.prod tI (.prod tI (.prod (.slice 107 (.prod (.int .u8) (.prod tI (.prod tI (.slice 127 (.prod tI (.prod tI (.prod tI tI)))))))) (.prod (.slice 3 tI) (.prod .bool (.prod .bool (.prod (.slice 109 (.prod tI (.prod tI (.prod tI .bool)))) (.prod tI (.prod tI tI)))))))))), .d true (.prod (.slice 3 tI) (.prod (.prod (.slice 3 tI) (.slice 3 tI)) (.prod tI tI)))]
def Q17.rs : List (Bool × HT) := [(false, (.own 41 (.prod tI (.prod tI tI)))), (false, (.d tI))]
def Q17.lc : List AC := []
def Q17.D (N : Nat) : DFn := ⟨Q17.as, Q17.rs, (LMv × Int), fun x => Q17 N x.1 x.2.1, fun r o => (r.1, r.2.1), fun b => (b.1, (b.2, ())), fun b => (), none⟩
theorem Q17.fit (N : Nat) : (Q17.D N).Fit := ⟨fun _ _ => rfl, fun _ _ => rfl, by kernel_rfl, (fun _ _ h => nomatch h), by kernel_rfl⟩
noncomputable def Q17.G (N : Nat) : Gam := gamOf [(37, Q37.D N), (38, Q38.D N)]
def Q17.A : Nat → Option LoopAnn := fun _ => none
noncomputable def Q17.fin (N : Nat) : St → Option (LMv × Int) := resK tb Try.f17.results.toList (decRes (Q17.D N) Q17.lc)
theorem Q17.entry (N : Nat) (rec : List Item → St → Option (LMv × Int)) (x : (argH Q17.as).den) : seg tb (Q17.G N) Q17.A 0 rec (Q17.fin N) segFuel [.code (bodyOf Try.f17)] (initSt Try.f17 (encArgs Q17.as x) (encMem Q17.as x)) = Q17.e N x.1 x.2.1 := by kernel_rfl
theorem Q17.ok (N : Nat) : FnOk Try.prog 17 (Q17.D N) := by
 refine FnOk_of tb_ok (Checked.mixed Try.checked) ⟨Try.f17, Try.func17, by kernel_rfl, by kernel_rfl, fun x y h => ⟨Q17.G N, Q17.A, N, gamOf_ok (by simp only [List.forall_mem_cons, List.not_mem_nil, false_implies, implies_true, and_true]; exact ⟨⟨Q37.ok N, Q37.fit N⟩, ⟨Q38.ok N, Q38.fit N⟩⟩), ?_⟩⟩ (Q17.fit N)
 rw [absFn_n (n0 := 0) rfl (by kernel_rfl)]
 exact (Q17.entry N _ x).trans h
def Q86.as : List MK := [.d false (.slice 41 (.prod tI (.prod tI tI))), .d true (.prod tI (.prod tI tI))]
def Q86.rs : List (Bool × HT) := [(false, (.d tI))]
def Q86.lc : List AC := []
def Q86.D (N : Nat) : DFn := ⟨Q86.as, Q86.rs, Int, fun x => Q86 N x.1 x.2.1, fun r o => r.1, fun b => (b, ()), fun b => (), none⟩
theorem Q86.fit (N : Nat) : (Q86.D N).Fit := ⟨fun _ _ => rfl, fun _ _ => rfl, by kernel_rfl, (fun _ _ h => nomatch h), by kernel_rfl⟩
noncomputable def Q86.G (N : Nat) : Gam := gamOf []
def Q86.A : Nat → Option LoopAnn := fun k => bif Nat.beq k 0 then some ⟨[0, 3, 7, 8], [], [], [], [], 1, false⟩ else none
noncomputable def Q86.fin (N : Nat) : St → Option Int := resK tb Try.f86.results.toList (decRes (Q86.D N) Q86.lc)
noncomputable def Q86.k0 : List Item := stackAt [.r, .l, .r, .b] (bodyOf Try.f86) []
def Q86.st0 (s_ : LMv) (v_ : TMv) (t8_ : Int) : St := ⟨[.one (.fro 41 (.prod tI (.prod tI tI)) s_), .one .any, .one .any, .one (.ptr 0 0)] ++ List.replicate 3 (.one .any) ++ [.one (.int .i64 (s_.length : Int)), .one (.int .i64 t8_)] ++ List.replicate 10 (.one .any), [.var 41 [.int .i64 v_.1, .int .i64 v_.2.1, .int .i64 v_.2.2]]⟩
theorem Q86.step0 (N : Nat) (rec : List Item → St → Option Int) (s_ : LMv) (v_ : TMv) (t8_ : Int) : seg tb (Q86.G N) Q86.A 0 rec (Q86.fin N) segFuel (loopBody Q86.k0) (Q86.st0 s_ v_ t8_) = Q86.s0 N s_ v_ (fun t8_ => rec Q86.k0 (Q86.st0 s_ v_ t8_)) t8_ := by kernel_rfl
theorem Q86.entry (N : Nat) (rec : List Item → St → Option Int) (x : (argH Q86.as).den) : seg tb (Q86.G N) Q86.A 0 rec (Q86.fin N) segFuel [.code (bodyOf Try.f86)] (initSt Try.f86 (encArgs Q86.as x) (encMem Q86.as x)) = Q86.e N (fun t8_ => rec Q86.k0 (Q86.st0 x.1 x.2.1 t8_)) x.1 x.2.1 := by kernel_rfl
theorem Q86.runs (N : Nat) (s_ : LMv) (v_ : TMv) : ∀ n, (∀ (t8_ : Int), run tb (Q86.G N) Q86.A 0 (Q86.fin N) n Q86.k0 (Q86.st0 s_ v_ t8_) = Q86.l0 N s_ v_ n t8_)
 | 0 => fun _ => rfl
 | n + 1 => by
  have h0 := Q86.runs N s_ v_ n
  have e0 : (fun (t8_ : Int) => run tb (Q86.G N) Q86.A 0 (Q86.fin N) n Q86.k0 (Q86.st0 s_ v_ t8_)) = Q86.l0 N s_ v_ n := by funext t8_; exact h0 t8_
  have g0 : (∀ (t8_ : Int), run tb (Q86.G N) Q86.A 0 (Q86.fin N) (n + 1) Q86.k0 (Q86.st0 s_ v_ t8_) = Q86.l0 N s_ v_ (n + 1) t8_) := by
   intro t8_
   exact (run_succ (by kernel_rfl)).trans ((Q86.step0 N _ s_ v_ t8_).trans ((congrArg (fun r0 => Q86.s0 N s_ v_ r0 t8_) e0).trans (Q86.l0_s N s_ v_ n t8_).symm))
  exact g0
theorem Q86.ok (N : Nat) : FnOk Try.prog 86 (Q86.D N) := by
 refine FnOk_of tb_ok (Checked.mixed Try.checked) ⟨Try.f86, Try.func86, by kernel_rfl, by kernel_rfl, fun x y h => ⟨Q86.G N, Q86.A, N, gamOf_ok (fun p hp => nomatch hp), ?_⟩⟩ (Q86.fit N)
 rw [absFn_n (n0 := 0) rfl (by kernel_rfl)]
 refine (Q86.entry N (run tb (Q86.G N) Q86.A 0 (Q86.fin N) N) x).trans ?_
 have e0 : (fun (t8_ : Int) => run tb (Q86.G N) Q86.A 0 (Q86.fin N) N Q86.k0 (Q86.st0 x.1 x.2.1 t8_)) = Q86.l0 N x.1 x.2.1 N := by funext t8_; exact (Q86.runs N x.1 x.2.1 N) t8_
 have h' : (Q86.D N).f x = Q86.e N (Q86.l0 N x.1 x.2.1 N) x.1 x.2.1 := by kernel_rfl
 exact (congrArg (fun r0 => Q86.e N r0 x.1 x.2.1) e0).trans (h'.symm.trans h)
def Q60.as : List MK := [.d false (.slice 41 (.prod tI (.prod tI tI))), .d true (.prod tI (.prod tI tI))]
def Q60.rs : List (Bool × HT) := [(false, (.d .bool))]
def Q60.lc : List AC := []
def Q60.D (N : Nat) : DFn := ⟨Q60.as, Q60.rs, Bool, fun x => Q60 N x.1 x.2.1, fun r o => r.1, fun b => (b, ()), fun b => (), none⟩
theorem Q60.fit (N : Nat) : (Q60.D N).Fit := ⟨fun _ _ => rfl, fun _ _ => rfl, by kernel_rfl, (fun _ _ h => nomatch h), by kernel_rfl⟩
noncomputable def Q60.G (N : Nat) : Gam := gamOf [(86, Q86.D N)]
def Q60.A : Nat → Option LoopAnn := fun _ => none
noncomputable def Q60.fin (N : Nat) : St → Option Bool := resK tb Try.f60.results.toList (decRes (Q60.D N) Q60.lc)
theorem Q60.entry (N : Nat) (rec : List Item → St → Option Bool) (x : (argH Q60.as).den) : seg tb (Q60.G N) Q60.A 0 rec (Q60.fin N) segFuel [.code (bodyOf Try.f60)] (initSt Try.f60 (encArgs Q60.as x) (encMem Q60.as x)) = Q60.e N x.1 x.2.1 := by kernel_rfl
theorem Q60.ok (N : Nat) : FnOk Try.prog 60 (Q60.D N) := by
 refine FnOk_of tb_ok (Checked.mixed Try.checked) ⟨Try.f60, Try.func60, by kernel_rfl, by kernel_rfl, fun x y h => ⟨Q60.G N, Q60.A, N, gamOf_ok (by simp only [List.forall_mem_cons, List.not_mem_nil, false_implies, implies_true, and_true]; exact ⟨Q86.ok N, Q86.fit N⟩), ?_⟩⟩ (Q60.fit N)
 rw [absFn_n (n0 := 0) rfl (by kernel_rfl)]
 exact (Q60.entry N _ x).trans h
def Q36.as : List MK := [.d true (.prod .str (.prod tI (.prod tI (.prod (.slice 107 (.prod (.int .u8) (.prod tI (.prod tI (.slice 127 (.prod tI (.prod tI (.prod tI tI)))))))) (.prod (.slice 3 tI) (.prod .bool (.prod .bool (.prod (.slice 109 (.prod tI (.prod tI (.prod tI .bool)))) (.prod tI (.prod tI tI)))))))))), .d true (.prod (.slice 3 tI) (.prod (.prod (.slice 3 tI) (.slice 3 tI)) (.prod tI tI))), .d true (.prod tI (.prod tI tI))]
def Q36.rs : List (Bool × HT) := [(false, (.d .bool)), (false, (.d tI))]
def Q36.lc : List AC := []
def Q36.D (N : Nat) : DFn := ⟨Q36.as, Q36.rs, (Bool × Int), fun x => Q36 N x.1 x.2.1 x.2.2.1, fun r o => (r.1, r.2.1), fun b => (b.1, (b.2, ())), fun b => (), none⟩
theorem Q36.fit (N : Nat) : (Q36.D N).Fit := ⟨fun _ _ => rfl, fun _ _ => rfl, by kernel_rfl, (fun _ _ h => nomatch h), by kernel_rfl⟩
noncomputable def Q36.G (N : Nat) : Gam := gamOf [(37, Q37.D N), (38, Q38.D N), (60, Q60.D N)]
def Q36.A : Nat → Option LoopAnn := fun _ => none
noncomputable def Q36.fin (N : Nat) : St → Option (Bool × Int) := resK tb Try.f36.results.toList (decRes (Q36.D N) Q36.lc)
theorem Q36.entry (N : Nat) (rec : List Item → St → Option (Bool × Int)) (x : (argH Q36.as).den) : seg tb (Q36.G N) Q36.A 0 rec (Q36.fin N) segFuel [.code (bodyOf Try.f36)] (initSt Try.f36 (encArgs Q36.as x) (encMem Q36.as x)) = Q36.e N x.1 x.2.1 x.2.2.1 := by kernel_rfl
theorem Q36.ok (N : Nat) : FnOk Try.prog 36 (Q36.D N) := by
 refine FnOk_of tb_ok (Checked.mixed Try.checked) ⟨Try.f36, Try.func36, by kernel_rfl, by kernel_rfl, fun x y h => ⟨Q36.G N, Q36.A, N, gamOf_ok (by simp only [List.forall_mem_cons, List.not_mem_nil, false_implies, implies_true, and_true]; exact ⟨⟨Q37.ok N, Q37.fit N⟩, ⟨Q38.ok N, Q38.fit N⟩, ⟨Q60.ok N, Q60.fit N⟩⟩), ?_⟩⟩ (Q36.fit N)
 rw [absFn_n (n0 := 0) rfl (by kernel_rfl)]
 exact (Q36.entry N _ x).trans h
def Q45.as : List MK := [.d true (.prod .str (.prod tI (.prod tI (.prod (.slice 107 (.prod (.int .u8) (.prod tI (.prod tI (.slice 127 (.prod tI (.prod tI (.prod tI tI)))))))) (.prod (.slice 3 tI) (.prod .bool (.prod .bool (.prod (.slice 109 (.prod tI (.prod tI (.prod tI .bool)))) (.prod tI (.prod tI tI)))))))))), .d true (.prod (.slice 3 tI) (.prod (.prod (.slice 3 tI) (.slice 3 tI)) (.prod tI tI))), .d true (.prod tI (.prod tI tI))]
def Q45.rs : List (Bool × HT) := [(true, (.prod (.own 3 tI) (.prod (.prod (.own 3 tI) (.own 3 tI)) (.d (.prod tI tI)))))]
def Q45.lc : List AC := []
def Q45.D (N : Nat) : DFn := ⟨Q45.as, Q45.rs, TPos, fun x => Q45 N x.1 x.2.1 x.2.2.1, fun r o => r.1, fun b => (b, ()), fun b => (), none⟩
theorem Q45.fit (N : Nat) : (Q45.D N).Fit := ⟨fun _ _ => rfl, fun _ _ => rfl, by kernel_rfl, (fun _ _ h => nomatch h), by kernel_rfl⟩
noncomputable def Q45.G (N : Nat) : Gam := gamOf [(47, Q47.D N), (63, Q63.D N), (74, Q74.D N)]
def Q45.A : Nat → Option LoopAnn := fun _ => none
noncomputable def Q45.fin (N : Nat) : St → Option TPos := resK tb Try.f45.results.toList (decRes (Q45.D N) Q45.lc)
theorem Q45.entry (N : Nat) (rec : List Item → St → Option TPos) (x : (argH Q45.as).den) : seg tb (Q45.G N) Q45.A 0 rec (Q45.fin N) segFuel [.code (bodyOf Try.f45)] (initSt Try.f45 (encArgs Q45.as x) (encMem Q45.as x)) = Q45.e N x.1 x.2.1 x.2.2.1 := by kernel_rfl
theorem Q45.ok (N : Nat) : FnOk Try.prog 45 (Q45.D N) := by
 refine FnOk_of tb_ok (Checked.mixed Try.checked) ⟨Try.f45, Try.func45, by kernel_rfl, by kernel_rfl, fun x y h => ⟨Q45.G N, Q45.A, N, gamOf_ok (by simp only [List.forall_mem_cons, List.not_mem_nil, false_implies, implies_true, and_true]; exact ⟨⟨Q47.ok N, Q47.fit N⟩, ⟨Q63.ok N, Q63.fit N⟩, ⟨Q74.ok N, Q74.fit N⟩⟩), ?_⟩⟩ (Q45.fit N)
 rw [absFn_n (n0 := 0) rfl (by kernel_rfl)]
 exact (Q45.entry N _ x).trans h
def Q23.as : List MK := [.d true (.prod .str (.prod tI (.prod tI (.prod (.slice 107 (.prod (.int .u8) (.prod tI (.prod tI (.slice 127 (.prod tI (.prod tI (.prod tI tI)))))))) (.prod (.slice 3 tI) (.prod .bool (.prod .bool (.prod (.slice 109 (.prod tI (.prod tI (.prod tI .bool)))) (.prod tI (.prod tI tI)))))))))), .d true (.prod (.slice 3 tI) (.prod (.prod (.slice 3 tI) (.slice 3 tI)) (.prod tI tI))), .d true (.prod tI (.prod tI tI))]
def Q23.rs : List (Bool × HT) := [(true, (.prod (.own 3 tI) (.prod (.prod (.own 3 tI) (.own 3 tI)) (.d (.prod tI tI))))), (false, (.d tI))]
def Q23.lc : List AC := []
def Q23.D (N : Nat) : DFn := ⟨Q23.as, Q23.rs, (TPos × Int), fun x => Q23 N x.1 x.2.1 x.2.2.1, fun r o => (r.1, r.2.1), fun b => (b.1, (b.2, ())), fun b => (), none⟩
theorem Q23.fit (N : Nat) : (Q23.D N).Fit := ⟨fun _ _ => rfl, fun _ _ => rfl, by kernel_rfl, (fun _ _ h => nomatch h), by kernel_rfl⟩
noncomputable def Q23.G (N : Nat) : Gam := gamOf [(36, Q36.D N), (45, Q45.D N)]
def Q23.A : Nat → Option LoopAnn := fun _ => none
noncomputable def Q23.fin (N : Nat) : St → Option (TPos × Int) := resK tb Try.f23.results.toList (decRes (Q23.D N) Q23.lc)
theorem Q23.entry (N : Nat) (rec : List Item → St → Option (TPos × Int)) (x : (argH Q23.as).den) : seg tb (Q23.G N) Q23.A 0 rec (Q23.fin N) segFuel [.code (bodyOf Try.f23)] (initSt Try.f23 (encArgs Q23.as x) (encMem Q23.as x)) = Q23.e N x.1 x.2.1 x.2.2.1 := by kernel_rfl
theorem Q23.ok (N : Nat) : FnOk Try.prog 23 (Q23.D N) := by
 refine FnOk_of tb_ok (Checked.mixed Try.checked) ⟨Try.f23, Try.func23, by kernel_rfl, by kernel_rfl, fun x y h => ⟨Q23.G N, Q23.A, N, gamOf_ok (by simp only [List.forall_mem_cons, List.not_mem_nil, false_implies, implies_true, and_true]; exact ⟨⟨Q36.ok N, Q36.fit N⟩, ⟨Q45.ok N, Q45.fit N⟩⟩), ?_⟩⟩ (Q23.fit N)
 rw [absFn_n (n0 := 0) rfl (by kernel_rfl)]
 exact (Q23.entry N _ x).trans h
def Q16.as : List MK := []
def Q16.rs : List (Bool × HT) := [(false, (.d .bool))]
def Q16.lc : List AC := []
def Q16.D (N : Nat) : DFn := ⟨Q16.as, Q16.rs, Bool, fun x => Q16 N, fun r o => r.1, fun b => (b, ()), fun b => (), none⟩
theorem Q16.fit (N : Nat) : (Q16.D N).Fit := ⟨fun _ _ => rfl, fun _ _ => rfl, by kernel_rfl, (fun _ _ h => nomatch h), by kernel_rfl⟩
noncomputable def Q16.G (N : Nat) : Gam := gamOf [(24, Q24.D N), (35, Q35.D N), (17, Q17.D N), (26, Q26.D N), (23, Q23.D N), (36, Q36.D N), (21, Q21.D N)]
def Q16.A : Nat → Option LoopAnn := fun _ => none
noncomputable def Q16.fin (N : Nat) : St → Option Bool := resK tb Try.f16.results.toList (decRes (Q16.D N) Q16.lc)
theorem Q16.entry (N : Nat) (rec : List Item → St → Option Bool) (x : (argH Q16.as).den) : seg tb (Q16.G N) Q16.A 0 rec (Q16.fin N) segFuel [.code (bodyOf Try.f16)] (initSt Try.f16 (encArgs Q16.as x) (encMem Q16.as x)) = Q16.e N := by kernel_rfl
theorem Q16.ok (N : Nat) : FnOk Try.prog 16 (Q16.D N) := by
 refine FnOk_of tb_ok (Checked.mixed Try.checked) ⟨Try.f16, Try.func16, by kernel_rfl, by kernel_rfl, fun x y h => ⟨Q16.G N, Q16.A, N, gamOf_ok (by simp only [List.forall_mem_cons, List.not_mem_nil, false_implies, implies_true, and_true]; exact ⟨⟨Q24.ok N, Q24.fit N⟩, ⟨Q35.ok N, Q35.fit N⟩, ⟨Q17.ok N, Q17.fit N⟩, ⟨Q26.ok N, Q26.fit N⟩, ⟨Q23.ok N, Q23.fit N⟩, ⟨Q36.ok N, Q36.fit N⟩, ⟨Q21.ok N, Q21.fit N⟩⟩), ?_⟩⟩ (Q16.fit N)
 rw [absFn_n (n0 := 0) rfl (by kernel_rfl)]
 exact (Q16.entry N _ x).trans h
def Q19.as : List MK := [.d true (.prod .str (.prod tI (.prod tI (.prod (.slice 107 (.prod (.int .u8) (.prod tI (.prod tI (.slice 127 (.prod tI (.prod tI (.prod tI tI)))))))) (.prod (.slice 3 tI) (.prod .bool (.prod .bool (.prod (.slice 109 (.prod tI (.prod tI (.prod tI .bool)))) (.prod tI (.prod tI tI)))))))))), .d true (.prod (.slice 3 tI) (.prod (.prod (.slice 3 tI) (.slice 3 tI)) (.prod tI tI))), .d false tI]
def Q19.rs : List (Bool × HT) := [(false, (.d .bool))]
def Q19.lc : List AC := []
def Q19.D (N : Nat) : DFn := ⟨Q19.as, Q19.rs, Bool, fun x => Q19 N x.1 x.2.1 x.2.2.1, fun r o => r.1, fun b => (b, ()), fun b => (), none⟩
theorem Q19.fit (N : Nat) : (Q19.D N).Fit := ⟨fun _ _ => rfl, fun _ _ => rfl, by kernel_rfl, (fun _ _ h => nomatch h), by kernel_rfl⟩
noncomputable def Q19.G (N : Nat) : Gam := gamOf [(40, Q40.D N)]
def Q19.A : Nat → Option LoopAnn := fun _ => none
noncomputable def Q19.fin (N : Nat) : St → Option Bool := resK tb Try.f19.results.toList (decRes (Q19.D N) Q19.lc)
theorem Q19.entry (N : Nat) (rec : List Item → St → Option Bool) (x : (argH Q19.as).den) : seg tb (Q19.G N) Q19.A 0 rec (Q19.fin N) segFuel [.code (bodyOf Try.f19)] (initSt Try.f19 (encArgs Q19.as x) (encMem Q19.as x)) = Q19.e N x.1 x.2.1 x.2.2.1 := by kernel_rfl
theorem Q19.ok (N : Nat) : FnOk Try.prog 19 (Q19.D N) := by
 refine FnOk_of tb_ok (Checked.mixed Try.checked) ⟨Try.f19, Try.func19, by kernel_rfl, by kernel_rfl, fun x y h => ⟨Q19.G N, Q19.A, N, gamOf_ok (by simp only [List.forall_mem_cons, List.not_mem_nil, false_implies, implies_true, and_true]; exact ⟨Q40.ok N, Q40.fit N⟩), ?_⟩⟩ (Q19.fit N)
 rw [absFn_n (n0 := 0) rfl (by kernel_rfl)]
 exact (Q19.entry N _ x).trans h
def Q8.as : List MK := [.d true (.prod .str (.prod tI (.prod tI (.prod (.slice 107 (.prod (.int .u8) (.prod tI (.prod tI (.slice 127 (.prod tI (.prod tI (.prod tI tI)))))))) (.prod (.slice 3 tI) (.prod .bool (.prod .bool (.prod (.slice 109 (.prod tI (.prod tI (.prod tI .bool)))) (.prod tI (.prod tI tI)))))))))), .d true (.prod (.slice 3 tI) (.prod (.prod (.slice 3 tI) (.slice 3 tI)) (.prod tI tI))), .d false tI, .d false tI]
def Q8.rs : List (Bool × HT) := [(false, (.d .bool))]
def Q8.lc : List AC := []
def Q8.D (N : Nat) : DFn := ⟨Q8.as, Q8.rs, Bool, fun x => Q8 N x.1 x.2.1 x.2.2.1 x.2.2.2.1, fun r o => r.1, fun b => (b, ()), fun b => (), none⟩
theorem Q8.fit (N : Nat) : (Q8.D N).Fit := ⟨fun _ _ => rfl, fun _ _ => rfl, by kernel_rfl, (fun _ _ h => nomatch h), by kernel_rfl⟩
noncomputable def Q8.G (N : Nat) : Gam := gamOf [(9, Q9.D N), (18, Q18.D N), (16, Q16.D N), (22, Q22.D N), (23, Q23.D N), (19, Q19.D N), (20, Q20.D N)]
def Q8.A : Nat → Option LoopAnn := fun _ => none
noncomputable def Q8.fin (N : Nat) : St → Option Bool := resK tb Try.f8.results.toList (decRes (Q8.D N) Q8.lc)
theorem Q8.entry (N : Nat) (rec : List Item → St → Option Bool) (x : (argH Q8.as).den) : seg tb (Q8.G N) Q8.A 0 rec (Q8.fin N) segFuel [.code (bodyOf Try.f8)] (initSt Try.f8 (encArgs Q8.as x) (encMem Q8.as x)) = Q8.e N x.1 x.2.1 x.2.2.1 x.2.2.2.1 := by kernel_rfl
theorem Q8.ok (N : Nat) : FnOk Try.prog 8 (Q8.D N) := by
 refine FnOk_of tb_ok (Checked.mixed Try.checked) ⟨Try.f8, Try.func8, by kernel_rfl, by kernel_rfl, fun x y h => ⟨Q8.G N, Q8.A, N, gamOf_ok (by simp only [List.forall_mem_cons, List.not_mem_nil, false_implies, implies_true, and_true]; exact ⟨⟨Q9.ok N, Q9.fit N⟩, ⟨Q18.ok N, Q18.fit N⟩, ⟨Q16.ok N, Q16.fit N⟩, ⟨Q22.ok N, Q22.fit N⟩, ⟨Q23.ok N, Q23.fit N⟩, ⟨Q19.ok N, Q19.fit N⟩, ⟨Q20.ok N, Q20.fit N⟩⟩), ?_⟩⟩ (Q8.fit N)
 rw [absFn_n (n0 := 0) rfl (by kernel_rfl)]
 exact (Q8.entry N _ x).trans h
end
end Go.Proofs.Ytpielijehhhobaa.Am
