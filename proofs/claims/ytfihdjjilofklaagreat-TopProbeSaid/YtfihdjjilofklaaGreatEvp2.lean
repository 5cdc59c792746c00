/- PRINTED by gen.py: the abstract machine evaluates the loaded code to these functions. -/
import Derived.Test.YtfihdjjilofklaaGreatEvp1
set_option linter.unusedVariables false
set_option linter.unusedSimpArgs false
namespace Go.Proofs.YtfihdjjilofklaaGreat.Am
open Go
noncomputable section
variable (N : Nat)
set_option maxRecDepth 100000
def Q34.as : List MK := [.o (.ptr 63 (.prod (.prod (.d .str) (.prod (.d tI) (.prod (.d tI) (.prod (.own 89 qb) (.prod (.own 3 tI) (.prod (.d .bool) (.prod (.d .bool) (.prod (.own 91 qe) (.d qd))))))))) (.prod (.own 33 qc) (.prod (.own 23 (.slice 3 tI)) (.prod (.own 43 (.slice 80 qd)) (.prod (.own 35 (.prod tI tI)) (.mp false false .str tI))))))) true, .d false tI]
def Q34.rs : List (Bool × HT) := [(false, (.d .bool))]
def Q34.lc : List AC := [.ptr 0 0]
def Q34.D : DFn := ⟨Q34.as, Q34.rs, (Bool × TTab), fun x => Q34 N x.1 x.2.1, fun r o => (r.1, o.1), fun b => (b.1, ()), fun b => (b.2, ()), none⟩
theorem Q34.fit : (Q34.D N).Fit := ⟨fun _ _ => rfl, fun _ _ => rfl, by kernel_rfl, (fun _ _ h => nomatch h), by kernel_rfl⟩
noncomputable def Q34.G : Gam := gamOf [(62, Q62.D N)]
def Q34.A : LA := fun k => bif Nat.beq k 0 then some ⟨[0, 1, 5, 6, 21, 22, 23], [(5, 3), (6, 3)], [], [(false, 5, 0, 9), (false, 6, 0, 10)], [], 11, false⟩ else bif Nat.beq k 2 then some ⟨[0, 1, 5, 6, 7, 9, 10, 11, 12, 21, 22, 23, 56, 57, 58], [], [], [], [], 11, false⟩ else bif Nat.beq k 4 then some ⟨[0, 1, 5, 6, 110, 111, 112], [], [], [], [], 11, false⟩ else none
noncomputable def Q34.fin : St → Option (Bool × TTab) := resK tb Tryz.f34.results.toList (decRes (Q34.D N) Q34.lc)
noncomputable def Q34.k0 : List Item := stackAt [.r, .r, .r, .l, .r, .b] (bodyOf Tryz.f34) []
def Q34.st0 (t_ : TTab) (n_ t22_ t23_ : Int) (found results : LInt) : St := ⟨[.one (.ptr 0 0), oi n_] ++ rA 3 ++ [.one (.own 9), .one (.own 10)] ++ rA 14 ++ [.one (.own 7), oi t22_, oi t23_] ++ rA 109, [.var 63 [.str t_.1.1, .int .i64 t_.1.2.1, .int .i64 t_.1.2.2.1, .own 1, .own 2, .bool t_.1.2.2.2.2.2.1, .bool t_.1.2.2.2.2.2.2.1, .own 3, .int .i64 t_.1.2.2.2.2.2.2.2.2.1, .int .i64 t_.1.2.2.2.2.2.2.2.2.2.1, .int .i64 t_.1.2.2.2.2.2.2.2.2.2.2, .own 4, .own 5, .own 6, .own 7, .own 8], .row 89 qb t_.1.2.2.2.1, .row 3 tI t_.1.2.2.2.2.1, .row 91 qe t_.1.2.2.2.2.2.2.2.1, .row 33 qc t_.2.1, .row 23 (.slice 3 tI) t_.2.2.1, .row 43 (.slice 80 qd) t_.2.2.2.1, .row 35 (.prod tI tI) t_.2.2.2.2.1, .mapo false false .str tI t_.2.2.2.2.2, .row 3 tI found, .row 3 tI results]⟩
noncomputable def Q34.k1 : List Item := stackAt [.r, .r, .r, .l, .r, .b, .w, .r, .r, .l, .b, .r, .r, .r, .r, .l, .r, .b] (bodyOf Tryz.f34) []
def Q34.st1 (t_ : TTab) (n_ i_ mine other : Int) (win loss : Bool) (t22_ t23_ : Int) (t56_ : LInt) (t57_ t58_ : Int) (found results : LInt) : St := ⟨[.one (.ptr 0 0), oi n_] ++ rA 3 ++ [.one (.own 9), .one (.own 10), oi i_, oA, oi mine, oi other, .one (.bool win), .one (.bool loss)] ++ rA 8 ++ [.one (.own 7), oi t22_, oi t23_] ++ rA 32 ++ [.one (.fro 3 tI t56_), oi t57_, oi t58_] ++ rA 74, [.var 63 [.str t_.1.1, .int .i64 t_.1.2.1, .int .i64 t_.1.2.2.1, .own 1, .own 2, .bool t_.1.2.2.2.2.2.1, .bool t_.1.2.2.2.2.2.2.1, .own 3, .int .i64 t_.1.2.2.2.2.2.2.2.2.1, .int .i64 t_.1.2.2.2.2.2.2.2.2.2.1, .int .i64 t_.1.2.2.2.2.2.2.2.2.2.2, .own 4, .own 5, .own 6, .own 7, .own 8], .row 89 qb t_.1.2.2.2.1, .row 3 tI t_.1.2.2.2.2.1, .row 91 qe t_.1.2.2.2.2.2.2.2.1, .row 33 qc t_.2.1, .row 23 (.slice 3 tI) t_.2.2.1, .row 43 (.slice 80 qd) t_.2.2.2.1, .row 35 (.prod tI tI) t_.2.2.2.2.1, .mapo false false .str tI t_.2.2.2.2.2, .row 3 tI found, .row 3 tI results]⟩
noncomputable def Q34.k2 : List Item := stackAt [.r, .r, .r, .r, .l, .r, .b] (bodyOf Tryz.f34) []
def Q34.st2 (t_ : TTab) (n_ t111_ t112_ : Int) (m7_ : (List (Int × Int))) (found results : LInt) : St := ⟨[.one (.ptr 0 0), oi n_] ++ rA 3 ++ [.one (.own 9), .one (.own 10)] ++ rA 103 ++ [.one (.own 9), oi t111_, oi t112_] ++ rA 20, [.var 63 [.str t_.1.1, .int .i64 t_.1.2.1, .int .i64 t_.1.2.2.1, .own 1, .own 2, .bool t_.1.2.2.2.2.2.1, .bool t_.1.2.2.2.2.2.2.1, .own 3, .int .i64 t_.1.2.2.2.2.2.2.2.2.1, .int .i64 t_.1.2.2.2.2.2.2.2.2.2.1, .int .i64 t_.1.2.2.2.2.2.2.2.2.2.2, .own 4, .own 5, .own 6, .own 7, .own 8], .row 89 qb t_.1.2.2.2.1, .row 3 tI t_.1.2.2.2.2.1, .row 91 qe t_.1.2.2.2.2.2.2.2.1, .row 33 qc t_.2.1, .row 23 (.slice 3 tI) t_.2.2.1, .row 43 (.slice 80 qd) t_.2.2.2.1, .row 35 (.prod tI tI) m7_, .mapo false false .str tI t_.2.2.2.2.2, .row 3 tI found, .row 3 tI results]⟩
theorem Q34.step0 (rec : RK (Bool × TTab)) (t_ : TTab) (n_ t22_ t23_ : Int) (found results : LInt) : seg tb (Q34.G N) Q34.A 9 rec (Q34.fin N) segFuel (loopBody Q34.k0) (Q34.st0 t_ n_ t22_ t23_ found results) = Q34.s0 N t_ n_ (fun t22_ t23_ found results => rec Q34.k0 (Q34.st0 t_ n_ t22_ t23_ found results)) (fun i_ mine other win loss t22_ t23_ t56_ t57_ t58_ found results => rec Q34.k1 (Q34.st1 t_ n_ i_ mine other win loss t22_ t23_ t56_ t57_ t58_ found results)) (fun t111_ t112_ m7_ found results => rec Q34.k2 (Q34.st2 t_ n_ t111_ t112_ m7_ found results)) t22_ t23_ found results := by kernel_rfl
theorem Q34.step1 (rec : RK (Bool × TTab)) (t_ : TTab) (n_ i_ mine other : Int) (win loss : Bool) (t22_ t23_ : Int) (t56_ : LInt) (t57_ t58_ : Int) (found results : LInt) : seg tb (Q34.G N) Q34.A 9 rec (Q34.fin N) segFuel (loopBody Q34.k1) (Q34.st1 t_ n_ i_ mine other win loss t22_ t23_ t56_ t57_ t58_ found results) = Q34.s1 N t_ n_ (fun t22_ t23_ found results => rec Q34.k0 (Q34.st0 t_ n_ t22_ t23_ found results)) (fun i_ mine other win loss t22_ t23_ t56_ t57_ t58_ found results => rec Q34.k1 (Q34.st1 t_ n_ i_ mine other win loss t22_ t23_ t56_ t57_ t58_ found results)) (fun t111_ t112_ m7_ found results => rec Q34.k2 (Q34.st2 t_ n_ t111_ t112_ m7_ found results)) i_ mine other win loss t22_ t23_ t56_ t57_ t58_ found results := by kernel_rfl
theorem Q34.step2 (rec : RK (Bool × TTab)) (t_ : TTab) (n_ t111_ t112_ : Int) (m7_ : (List (Int × Int))) (found results : LInt) : seg tb (Q34.G N) Q34.A 9 rec (Q34.fin N) segFuel (loopBody Q34.k2) (Q34.st2 t_ n_ t111_ t112_ m7_ found results) = Q34.s2 N t_ n_ (fun t22_ t23_ found results => rec Q34.k0 (Q34.st0 t_ n_ t22_ t23_ found results)) (fun i_ mine other win loss t22_ t23_ t56_ t57_ t58_ found results => rec Q34.k1 (Q34.st1 t_ n_ i_ mine other win loss t22_ t23_ t56_ t57_ t58_ found results)) (fun t111_ t112_ m7_ found results => rec Q34.k2 (Q34.st2 t_ n_ t111_ t112_ m7_ found results)) t111_ t112_ m7_ found results := by kernel_rfl
theorem Q34.entry (rec : RK (Bool × TTab)) (x : (argH Q34.as).den) : seg tb (Q34.G N) Q34.A 9 rec (Q34.fin N) segFuel [.code (bodyOf Tryz.f34)] (initSt Tryz.f34 (encArgs Q34.as x) (encMem Q34.as x)) = Q34.e N (fun t22_ t23_ found results => rec Q34.k0 (Q34.st0 x.1 x.2.1 t22_ t23_ found results)) (fun i_ mine other win loss t22_ t23_ t56_ t57_ t58_ found results => rec Q34.k1 (Q34.st1 x.1 x.2.1 i_ mine other win loss t22_ t23_ t56_ t57_ t58_ found results)) (fun t111_ t112_ m7_ found results => rec Q34.k2 (Q34.st2 x.1 x.2.1 t111_ t112_ m7_ found results)) x.1 x.2.1 := by kernel_rfl
theorem Q34.runs (N : Nat) (t_ : TTab) (n_ : Int) : ∀ n, (∀ (t22_ t23_ : Int) (found results : LInt), run tb (Q34.G N) Q34.A 9 (Q34.fin N) n Q34.k0 (Q34.st0 t_ n_ t22_ t23_ found results) = Q34.l0 N t_ n_ n t22_ t23_ found results) ∧ (∀ (i_ mine other : Int) (win loss : Bool) (t22_ t23_ : Int) (t56_ : LInt) (t57_ t58_ : Int) (found results : LInt), run tb (Q34.G N) Q34.A 9 (Q34.fin N) n Q34.k1 (Q34.st1 t_ n_ i_ mine other win loss t22_ t23_ t56_ t57_ t58_ found results) = Q34.l1 N t_ n_ n i_ mine other win loss t22_ t23_ t56_ t57_ t58_ found results) ∧ (∀ (t111_ t112_ : Int) (m7_ : (List (Int × Int))) (found results : LInt), run tb (Q34.G N) Q34.A 9 (Q34.fin N) n Q34.k2 (Q34.st2 t_ n_ t111_ t112_ m7_ found results) = Q34.l2 N t_ n_ n t111_ t112_ m7_ found results)
 | 0 => ⟨fun _ _ _ _ => rfl, fun _ _ _ _ _ _ _ _ _ _ _ _ => rfl, fun _ _ _ _ _ => rfl⟩
 | n + 1 => by
  obtain ⟨h0, h1, h2⟩ := Q34.runs N t_ n_ n
  have e0 : (fun (t22_ t23_ : Int) (found results : LInt) => run tb (Q34.G N) Q34.A 9 (Q34.fin N) n Q34.k0 (Q34.st0 t_ n_ t22_ t23_ found results)) = Q34.l0 N t_ n_ n := by funext t22_ t23_ found results; exact h0 t22_ t23_ found results
  have e1 : (fun (i_ mine other : Int) (win loss : Bool) (t22_ t23_ : Int) (t56_ : LInt) (t57_ t58_ : Int) (found results : LInt) => run tb (Q34.G N) Q34.A 9 (Q34.fin N) n Q34.k1 (Q34.st1 t_ n_ i_ mine other win loss t22_ t23_ t56_ t57_ t58_ found results)) = Q34.l1 N t_ n_ n := by funext i_ mine other win loss t22_ t23_ t56_ t57_ t58_ found results; exact h1 i_ mine other win loss t22_ t23_ t56_ t57_ t58_ found results
  have e2 : (fun (t111_ t112_ : Int) (m7_ : (List (Int × Int))) (found results : LInt) => run tb (Q34.G N) Q34.A 9 (Q34.fin N) n Q34.k2 (Q34.st2 t_ n_ t111_ t112_ m7_ found results)) = Q34.l2 N t_ n_ n := by funext t111_ t112_ m7_ found results; exact h2 t111_ t112_ m7_ found results
  have g0 : (∀ (t22_ t23_ : Int) (found results : LInt), run tb (Q34.G N) Q34.A 9 (Q34.fin N) (n + 1) Q34.k0 (Q34.st0 t_ n_ t22_ t23_ found results) = Q34.l0 N t_ n_ (n + 1) t22_ t23_ found results) := by
   intro t22_ t23_ found results
   exact (run_succ (by kernel_rfl)).trans ((Q34.step0 N _ t_ n_ t22_ t23_ found results).trans ((congr (congr (congrArg (fun r0 r1 r2 => Q34.s0 N t_ n_ r0 r1 r2 t22_ t23_ found results) e0) e1) e2).trans (Q34.l0_s N t_ n_ n t22_ t23_ found results).symm))
  have g1 : (∀ (i_ mine other : Int) (win loss : Bool) (t22_ t23_ : Int) (t56_ : LInt) (t57_ t58_ : Int) (found results : LInt), run tb (Q34.G N) Q34.A 9 (Q34.fin N) (n + 1) Q34.k1 (Q34.st1 t_ n_ i_ mine other win loss t22_ t23_ t56_ t57_ t58_ found results) = Q34.l1 N t_ n_ (n + 1) i_ mine other win loss t22_ t23_ t56_ t57_ t58_ found results) := by
   intro i_ mine other win loss t22_ t23_ t56_ t57_ t58_ found results
   exact (run_succ (by kernel_rfl)).trans ((Q34.step1 N _ t_ n_ i_ mine other win loss t22_ t23_ t56_ t57_ t58_ found results).trans ((congr (congr (congrArg (fun r0 r1 r2 => Q34.s1 N t_ n_ r0 r1 r2 i_ mine other win loss t22_ t23_ t56_ t57_ t58_ found results) e0) e1) e2).trans (Q34.l1_s N t_ n_ n i_ mine other win loss t22_ t23_ t56_ t57_ t58_ found results).symm))
  have g2 : (∀ (t111_ t112_ : Int) (m7_ : (List (Int × Int))) (found results : LInt), run tb (Q34.G N) Q34.A 9 (Q34.fin N) (n + 1) Q34.k2 (Q34.st2 t_ n_ t111_ t112_ m7_ found results) = Q34.l2 N t_ n_ (n + 1) t111_ t112_ m7_ found results) := by
   intro t111_ t112_ m7_ found results
   exact (run_succ (by kernel_rfl)).trans ((Q34.step2 N _ t_ n_ t111_ t112_ m7_ found results).trans ((congr (congr (congrArg (fun r0 r1 r2 => Q34.s2 N t_ n_ r0 r1 r2 t111_ t112_ m7_ found results) e0) e1) e2).trans (Q34.l2_s N t_ n_ n t111_ t112_ m7_ found results).symm))
  exact ⟨g0, g1, g2⟩
theorem Q34.ok : FnOk Tryz.prog 34 (Q34.D N) := by
 refine FnOk_of tb_ok (Checked.mixed Tryz.checked) ⟨Tryz.f34, Tryz.func34, by kernel_rfl, by kernel_rfl, fun x y h => ⟨Q34.G N, Q34.A, N, gamOf_ok (gc ⟨Q62.ok N, Q62.fit N⟩ gn), ?_⟩⟩ (Q34.fit N)
 rw [absFn_n (n0 := 9) rfl (by kernel_rfl)]
 refine (Q34.entry N (run tb (Q34.G N) Q34.A 9 (Q34.fin N) N) x).trans ?_
 have e0 : (fun (t22_ t23_ : Int) (found results : LInt) => run tb (Q34.G N) Q34.A 9 (Q34.fin N) N Q34.k0 (Q34.st0 x.1 x.2.1 t22_ t23_ found results)) = Q34.l0 N x.1 x.2.1 N := by funext t22_ t23_ found results; exact (Q34.runs N x.1 x.2.1 N).1 t22_ t23_ found results
 have e1 : (fun (i_ mine other : Int) (win loss : Bool) (t22_ t23_ : Int) (t56_ : LInt) (t57_ t58_ : Int) (found results : LInt) => run tb (Q34.G N) Q34.A 9 (Q34.fin N) N Q34.k1 (Q34.st1 x.1 x.2.1 i_ mine other win loss t22_ t23_ t56_ t57_ t58_ found results)) = Q34.l1 N x.1 x.2.1 N := by funext i_ mine other win loss t22_ t23_ t56_ t57_ t58_ found results; exact (Q34.runs N x.1 x.2.1 N).2.1 i_ mine other win loss t22_ t23_ t56_ t57_ t58_ found results
 have e2 : (fun (t111_ t112_ : Int) (m7_ : (List (Int × Int))) (found results : LInt) => run tb (Q34.G N) Q34.A 9 (Q34.fin N) N Q34.k2 (Q34.st2 x.1 x.2.1 t111_ t112_ m7_ found results)) = Q34.l2 N x.1 x.2.1 N := by funext t111_ t112_ m7_ found results; exact (Q34.runs N x.1 x.2.1 N).2.2 t111_ t112_ m7_ found results
 have h' : (Q34.D N).f x = Q34.e N (Q34.l0 N x.1 x.2.1 N) (Q34.l1 N x.1 x.2.1 N) (Q34.l2 N x.1 x.2.1 N) x.1 x.2.1 := by kernel_rfl
 exact (congr (congr (congrArg (fun r0 r1 r2 => Q34.e N r0 r1 r2 x.1 x.2.1) e0) e1) e2).trans (h'.symm.trans h)
def Q18.as : List MK := [.d true qc]
def Q18.rs : List (Bool × HT) := [(true, (.prod (.own 3 tI) (.prod (.prod (.own 3 tI) (.own 3 tI)) (.d (.prod tI tI)))))]
def Q18.lc : List AC := []
def Q18.D : DFn := ⟨Q18.as, Q18.rs, TPos, fun x => Q18 N x.1, fun r o => r.1, fun b => (b, ()), fun b => (), none⟩
theorem Q18.fit : (Q18.D N).Fit := ⟨fun _ _ => rfl, fun _ _ => rfl, by kernel_rfl, (fun _ _ h => nomatch h), by kernel_rfl⟩
noncomputable def Q18.G : Gam := gamOf [(41, Q41.D N)]
def Q18.A : LA := fun k => bif Nat.beq k 0 then some ⟨[], [], [], [], [], 0, true⟩ else none
noncomputable def Q18.fin : St → Option TPos := resK tb Tryz.f18.results.toList (decRes (Q18.D N) Q18.lc)
theorem Q18.entry (rec : RK TPos) (x : (argH Q18.as).den) : seg tb (Q18.G N) Q18.A 0 rec (Q18.fin N) segFuel [.code (bodyOf Tryz.f18)] (initSt Tryz.f18 (encArgs Q18.as x) (encMem Q18.as x)) = Q18.e N x.1 := by kernel_rfl
theorem Q18.ok : FnOk Tryz.prog 18 (Q18.D N) := by
 refine FnOk_of tb_ok (Checked.mixed Tryz.checked) ⟨Tryz.f18, Tryz.func18, by kernel_rfl, by kernel_rfl, fun x y h => ⟨Q18.G N, Q18.A, N, gamOf_ok (gc ⟨Q41.ok N, Q41.fit N⟩ gn), ?_⟩⟩ (Q18.fit N)
 rw [absFn_n (n0 := 0) rfl (by kernel_rfl)]
 exact (Q18.entry N _ x).trans h
def Q24.as : List MK := [.d true qa, .d true qc, .d true qd]
def Q24.rs : List (Bool × HT) := [(true, (.prod (.own 3 tI) (.prod (.prod (.own 3 tI) (.own 3 tI)) (.d (.prod tI tI)))))]
def Q24.lc : List AC := []
def Q24.D : DFn := ⟨Q24.as, Q24.rs, TPos, fun x => Q24 N x.1 x.2.1 x.2.2.1, fun r o => r.1, fun b => (b, ()), fun b => (), none⟩
theorem Q24.fit : (Q24.D N).Fit := ⟨fun _ _ => rfl, fun _ _ => rfl, by kernel_rfl, (fun _ _ h => nomatch h), by kernel_rfl⟩
noncomputable def Q24.G : Gam := gamOf [(18, Q18.D N), (44, Q44.D N), (45, Q45.D N)]
def Q24.A : LA := fun _ => none
noncomputable def Q24.fin : St → Option TPos := resK tb Tryz.f24.results.toList (decRes (Q24.D N) Q24.lc)
theorem Q24.entry (rec : RK TPos) (x : (argH Q24.as).den) : seg tb (Q24.G N) Q24.A 0 rec (Q24.fin N) segFuel [.code (bodyOf Tryz.f24)] (initSt Tryz.f24 (encArgs Q24.as x) (encMem Q24.as x)) = Q24.e N x.1 x.2.1 x.2.2.1 := by kernel_rfl
theorem Q24.ok : FnOk Tryz.prog 24 (Q24.D N) := by
 refine FnOk_of tb_ok (Checked.mixed Tryz.checked) ⟨Tryz.f24, Tryz.func24, by kernel_rfl, by kernel_rfl, fun x y h => ⟨Q24.G N, Q24.A, N, gamOf_ok (gc ⟨Q18.ok N, Q18.fit N⟩ (gc ⟨Q44.ok N, Q44.fit N⟩ (gc ⟨Q45.ok N, Q45.fit N⟩ gn))), ?_⟩⟩ (Q24.fit N)
 rw [absFn_n (n0 := 0) rfl (by kernel_rfl)]
 exact (Q24.entry N _ x).trans h
def Q12.as : List MK := [.d true qa]
def Q12.rs : List (Bool × HT) := [(false, (.opt 63 (.prod (.prod (.d .str) (.prod (.d tI) (.prod (.d tI) (.prod (.own 89 qb) (.prod (.own 3 tI) (.prod (.d .bool) (.prod (.d .bool) (.prod (.own 91 qe) (.d qd))))))))) (.prod (.own 33 qc) (.prod (.own 23 (.slice 3 tI)) (.prod (.own 43 (.slice 80 qd)) (.prod (.own 35 (.prod tI tI)) (.mp false false .str tI)))))))), (false, (.d tI))]
def Q12.lc : List AC := []
def Q12.D : DFn := ⟨Q12.as, Q12.rs, ((Option TTab) × Int), fun x => Q12 N x.1, fun r o => (r.1, r.2.1), fun b => (b.1, (b.2, ())), fun b => (), none⟩
theorem Q12.fit : (Q12.D N).Fit := ⟨fun _ _ => rfl, fun _ _ => rfl, by kernel_rfl, (fun _ _ h => nomatch h), by kernel_rfl⟩
noncomputable def Q12.G : Gam := gamOf [(29, Q29.D N), (19, Q19.D N), (31, Q31.D N), (30, Q30.D N), (32, Q32.D N), (33, Q33.D N), (34, Q34.D N), (24, Q24.D N)]
def Q12.A : LA := fun k => bif Nat.beq k 0 then some ⟨[1, 5, 6], [], [], [(true, 5, 12, 13), (true, 5, 13, 14), (true, 5, 14, 15)], [], 17, false⟩ else bif Nat.beq k 2 then some ⟨[1, 5, 6, 7, 8, 9, 10, 59, 60, 61], [(9, 3)], [], [(false, 9, 0, 20), (true, 5, 3, 9), (true, 5, 4, 10), (true, 5, 7, 11), (true, 5, 11, 12), (true, 5, 12, 13), (true, 5, 13, 14), (true, 5, 14, 15), (true, 5, 15, 16)], [], 21, false⟩ else bif Nat.beq k 4 then some ⟨[5, 13], [], [], [(true, 5, 3, 9), (true, 5, 4, 10), (true, 5, 7, 11), (true, 5, 11, 12), (true, 5, 12, 13), (true, 5, 13, 14), (true, 5, 14, 15), (true, 5, 15, 16)], [0], 17, false⟩ else bif Nat.beq k 6 then some ⟨[5, 119, 120, 121], [], [], [], [], 25, false⟩ else none
noncomputable def Q12.fin : St → Option ((Option TTab) × Int) := resK tb Tryz.f12.results.toList (decRes (Q12.D N) Q12.lc)
noncomputable def Q12.k0 : List Item := stackAt [.r, .r, .r, .r, .r, .l, .r, .b] (bodyOf Tryz.f12) []
def Q12.st0 (r_ : TRules) (i_ : Int) (t_ : ByteArray) (t_2 t_3 : Int) (t_4 t_5 : Bool) (t_6 t_7 t_8 : Int) (m9_ : (List TPiece)) (m10_ : LInt) (m11_ : (List TEnd)) (m12_ : (List TPos)) (m13_ : (List LInt)) (m14_ : (List LMv)) (m15_ : (List (Int × Int))) (m16_ : (List (ByteArray × Int))) : St := ⟨[oA, .one (.ptr 0 0)] ++ rA 3 ++ [.one (.ptr 5 0), oi i_] ++ rA 131, [vR r_, .gone, .gone, .gone, .gone, .var 63 [.str t_, .int .i64 t_2, .int .i64 t_3, .own 9, .own 10, .bool t_4, .bool t_5, .own 11, .int .i64 t_6, .int .i64 t_7, .int .i64 t_8, .own 12, .own 13, .own 14, .own 15, .own 16], .gone, .gone, .gone, .row 89 qb m9_, .row 3 tI m10_, .row 91 qe m11_, .row 33 qc m12_, .row 23 (.slice 3 tI) m13_, .row 43 (.slice 80 qd) m14_, .row 35 (.prod tI tI) m15_, .mapo false false .str tI m16_]⟩
noncomputable def Q12.k1 : List Item := stackAt [.r, .r, .r, .r, .r, .l, .r, .b, .w, .r, .l, .b, .r, .r, .r, .r, .l, .r, .t, .r, .r, .b] (bodyOf Tryz.f12) []
def Q12.st1 (r_ : TRules) (i_ t60_ t61_ : Int) (t_ : ByteArray) (t_2 t_3 : Int) (t_4 t_5 : Bool) (t_6 t_7 t_8 : Int) (m9_ : (List TPiece)) (m10_ : LInt) (m11_ : (List TEnd)) (m12_ : (List TPos)) (m13_ : (List LInt)) (m14_ : (List LMv)) (m15_ : (List (Int × Int))) (m16_ : (List (ByteArray × Int))) (p_ p_2 p_3 : LInt) (p_4 p_5 entry : Int) (l_ : LMv) (next : LInt) : St := ⟨[oA, .one (.ptr 0 0)] ++ rA 3 ++ [.one (.ptr 5 0), oi i_, .one (.ptr 17 0), .one (.ptr 18 0), .one (.own 20), .one (.own 19)] ++ rA 48 ++ [.one (.own 19), oi t60_, oi t61_] ++ rA 76, [vR r_, .gone, .gone, .gone, .gone, .var 63 [.str t_, .int .i64 t_2, .int .i64 t_3, .own 9, .own 10, .bool t_4, .bool t_5, .own 11, .int .i64 t_6, .int .i64 t_7, .int .i64 t_8, .own 12, .own 13, .own 14, .own 15, .own 16], .gone, .gone, .gone, .row 89 qb m9_, .row 3 tI m10_, .row 91 qe m11_, .row 33 qc m12_, .row 23 (.slice 3 tI) m13_, .row 43 (.slice 80 qd) m14_, .row 35 (.prod tI tI) m15_, .mapo false false .str tI m16_, .var 33 [.fro 3 tI p_, .fro 3 tI p_2, .fro 3 tI p_3, .int .i64 p_4, .int .i64 p_5], .var 35 [.int .i64 entry, .int .i64 0], .row 80 qd l_, .row 3 tI next]⟩
noncomputable def Q12.k2 : List Item := stackAt [.r, .r, .r, .r, .r, .r, .l, .r, .b] (bodyOf Tryz.f12) []
def Q12.st2 (r_ : TRules) (n_ : Int) (t_ : ByteArray) (t_2 t_3 : Int) (t_4 t_5 : Bool) (t_6 t_7 t_8 : Int) (m9_ : (List TPiece)) (m10_ : LInt) (m11_ : (List TEnd)) (m12_ : (List TPos)) (m13_ : (List LInt)) (m14_ : (List LMv)) (m15_ : (List (Int × Int))) (m16_ : (List (ByteArray × Int))) : St := ⟨rA 5 ++ [.one (.ptr 5 0)] ++ rA 7 ++ [oi n_] ++ rA 124, [.gone, .gone, .gone, .gone, .gone, .var 63 [.str t_, .int .i64 t_2, .int .i64 t_3, .own 9, .own 10, .bool t_4, .bool t_5, .own 11, .int .i64 t_6, .int .i64 t_7, .int .i64 t_8, .own 12, .own 13, .own 14, .own 15, .own 16], .gone, .gone, .gone, .row 89 qb m9_, .row 3 tI m10_, .row 91 qe m11_, .row 33 qc m12_, .row 23 (.slice 3 tI) m13_, .row 43 (.slice 80 qd) m14_, .row 35 (.prod tI tI) m15_, .mapo false false .str tI m16_]⟩
noncomputable def Q12.k3 : List Item := stackAt [.r, .r, .r, .r, .r, .r, .r, .l, .r, .b] (bodyOf Tryz.f12) []
def Q12.st3 (r_ : TRules) (t120_ t121_ : Int) (t_ : ByteArray) (t_2 t_3 : Int) (t_4 t_5 : Bool) (t_6 t_7 t_8 : Int) (m17_ : (List TPiece)) (m18_ : LInt) (m19_ : (List TEnd)) (m20_ : (List TPos)) (m21_ : (List LInt)) (m22_ : (List LMv)) (m23_ : (List (Int × Int))) (m24_ : (List (ByteArray × Int))) : St := ⟨rA 5 ++ [.one (.ptr 5 0)] ++ rA 113 ++ [.one (.own 23), oi t120_, oi t121_] ++ rA 16, [.gone, .gone, .gone, .gone, .gone, .var 63 [.str t_, .int .i64 t_2, .int .i64 t_3, .own 17, .own 18, .bool t_4, .bool t_5, .own 19, .int .i64 t_6, .int .i64 t_7, .int .i64 t_8, .own 20, .own 21, .own 22, .own 23, .own 24], .gone, .gone, .gone, .gone, .gone, .gone, .gone, .gone, .gone, .gone, .gone, .row 89 qb m17_, .row 3 tI m18_, .row 91 qe m19_, .row 33 qc m20_, .row 23 (.slice 3 tI) m21_, .row 43 (.slice 80 qd) m22_, .row 35 (.prod tI tI) m23_, .mapo false false .str tI m24_]⟩
theorem Q12.step0 (rec : RK ((Option TTab) × Int)) (r_ : TRules) (i_ : Int) (t_ : ByteArray) (t_2 t_3 : Int) (t_4 t_5 : Bool) (t_6 t_7 t_8 : Int) (m9_ : (List TPiece)) (m10_ : LInt) (m11_ : (List TEnd)) (m12_ : (List TPos)) (m13_ : (List LInt)) (m14_ : (List LMv)) (m15_ : (List (Int × Int))) (m16_ : (List (ByteArray × Int))) : seg tb (Q12.G N) Q12.A 0 rec (Q12.fin N) segFuel (loopBody Q12.k0) (Q12.st0 r_ i_ t_ t_2 t_3 t_4 t_5 t_6 t_7 t_8 m9_ m10_ m11_ m12_ m13_ m14_ m15_ m16_) = Q12.s0 N r_ (fun i_ t_ t_2 t_3 t_4 t_5 t_6 t_7 t_8 m9_ m10_ m11_ m12_ m13_ m14_ m15_ m16_ => rec Q12.k0 (Q12.st0 r_ i_ t_ t_2 t_3 t_4 t_5 t_6 t_7 t_8 m9_ m10_ m11_ m12_ m13_ m14_ m15_ m16_)) (fun i_ t60_ t61_ t_ t_2 t_3 t_4 t_5 t_6 t_7 t_8 m9_ m10_ m11_ m12_ m13_ m14_ m15_ m16_ p_ p_2 p_3 p_4 p_5 entry l_ next => rec Q12.k1 (Q12.st1 r_ i_ t60_ t61_ t_ t_2 t_3 t_4 t_5 t_6 t_7 t_8 m9_ m10_ m11_ m12_ m13_ m14_ m15_ m16_ p_ p_2 p_3 p_4 p_5 entry l_ next)) (fun n_ t_ t_2 t_3 t_4 t_5 t_6 t_7 t_8 m9_ m10_ m11_ m12_ m13_ m14_ m15_ m16_ => rec Q12.k2 (Q12.st2 r_ n_ t_ t_2 t_3 t_4 t_5 t_6 t_7 t_8 m9_ m10_ m11_ m12_ m13_ m14_ m15_ m16_)) (fun t120_ t121_ t_ t_2 t_3 t_4 t_5 t_6 t_7 t_8 m17_ m18_ m19_ m20_ m21_ m22_ m23_ m24_ => rec Q12.k3 (Q12.st3 r_ t120_ t121_ t_ t_2 t_3 t_4 t_5 t_6 t_7 t_8 m17_ m18_ m19_ m20_ m21_ m22_ m23_ m24_)) i_ t_ t_2 t_3 t_4 t_5 t_6 t_7 t_8 m9_ m10_ m11_ m12_ m13_ m14_ m15_ m16_ := by kernel_rfl
theorem Q12.step1 (rec : RK ((Option TTab) × Int)) (r_ : TRules) (i_ t60_ t61_ : Int) (t_ : ByteArray) (t_2 t_3 : Int) (t_4 t_5 : Bool) (t_6 t_7 t_8 : Int) (m9_ : (List TPiece)) (m10_ : LInt) (m11_ : (List TEnd)) (m12_ : (List TPos)) (m13_ : (List LInt)) (m14_ : (List LMv)) (m15_ : (List (Int × Int))) (m16_ : (List (ByteArray × Int))) (p_ p_2 p_3 : LInt) (p_4 p_5 entry : Int) (l_ : LMv) (next : LInt) : seg tb (Q12.G N) Q12.A 0 rec (Q12.fin N) segFuel (loopBody Q12.k1) (Q12.st1 r_ i_ t60_ t61_ t_ t_2 t_3 t_4 t_5 t_6 t_7 t_8 m9_ m10_ m11_ m12_ m13_ m14_ m15_ m16_ p_ p_2 p_3 p_4 p_5 entry l_ next) = Q12.s1 N r_ (fun i_ t_ t_2 t_3 t_4 t_5 t_6 t_7 t_8 m9_ m10_ m11_ m12_ m13_ m14_ m15_ m16_ => rec Q12.k0 (Q12.st0 r_ i_ t_ t_2 t_3 t_4 t_5 t_6 t_7 t_8 m9_ m10_ m11_ m12_ m13_ m14_ m15_ m16_)) (fun i_ t60_ t61_ t_ t_2 t_3 t_4 t_5 t_6 t_7 t_8 m9_ m10_ m11_ m12_ m13_ m14_ m15_ m16_ p_ p_2 p_3 p_4 p_5 entry l_ next => rec Q12.k1 (Q12.st1 r_ i_ t60_ t61_ t_ t_2 t_3 t_4 t_5 t_6 t_7 t_8 m9_ m10_ m11_ m12_ m13_ m14_ m15_ m16_ p_ p_2 p_3 p_4 p_5 entry l_ next)) (fun n_ t_ t_2 t_3 t_4 t_5 t_6 t_7 t_8 m9_ m10_ m11_ m12_ m13_ m14_ m15_ m16_ => rec Q12.k2 (Q12.st2 r_ n_ t_ t_2 t_3 t_4 t_5 t_6 t_7 t_8 m9_ m10_ m11_ m12_ m13_ m14_ m15_ m16_)) (fun t120_ t121_ t_ t_2 t_3 t_4 t_5 t_6 t_7 t_8 m17_ m18_ m19_ m20_ m21_ m22_ m23_ m24_ => rec Q12.k3 (Q12.st3 r_ t120_ t121_ t_ t_2 t_3 t_4 t_5 t_6 t_7 t_8 m17_ m18_ m19_ m20_ m21_ m22_ m23_ m24_)) i_ t60_ t61_ t_ t_2 t_3 t_4 t_5 t_6 t_7 t_8 m9_ m10_ m11_ m12_ m13_ m14_ m15_ m16_ p_ p_2 p_3 p_4 p_5 entry l_ next := by kernel_rfl
theorem Q12.step2 (rec : RK ((Option TTab) × Int)) (r_ : TRules) (n_ : Int) (t_ : ByteArray) (t_2 t_3 : Int) (t_4 t_5 : Bool) (t_6 t_7 t_8 : Int) (m9_ : (List TPiece)) (m10_ : LInt) (m11_ : (List TEnd)) (m12_ : (List TPos)) (m13_ : (List LInt)) (m14_ : (List LMv)) (m15_ : (List (Int × Int))) (m16_ : (List (ByteArray × Int))) : seg tb (Q12.G N) Q12.A 0 rec (Q12.fin N) segFuel (loopBody Q12.k2) (Q12.st2 r_ n_ t_ t_2 t_3 t_4 t_5 t_6 t_7 t_8 m9_ m10_ m11_ m12_ m13_ m14_ m15_ m16_) = Q12.s2 N r_ (fun i_ t_ t_2 t_3 t_4 t_5 t_6 t_7 t_8 m9_ m10_ m11_ m12_ m13_ m14_ m15_ m16_ => rec Q12.k0 (Q12.st0 r_ i_ t_ t_2 t_3 t_4 t_5 t_6 t_7 t_8 m9_ m10_ m11_ m12_ m13_ m14_ m15_ m16_)) (fun i_ t60_ t61_ t_ t_2 t_3 t_4 t_5 t_6 t_7 t_8 m9_ m10_ m11_ m12_ m13_ m14_ m15_ m16_ p_ p_2 p_3 p_4 p_5 entry l_ next => rec Q12.k1 (Q12.st1 r_ i_ t60_ t61_ t_ t_2 t_3 t_4 t_5 t_6 t_7 t_8 m9_ m10_ m11_ m12_ m13_ m14_ m15_ m16_ p_ p_2 p_3 p_4 p_5 entry l_ next)) (fun n_ t_ t_2 t_3 t_4 t_5 t_6 t_7 t_8 m9_ m10_ m11_ m12_ m13_ m14_ m15_ m16_ => rec Q12.k2 (Q12.st2 r_ n_ t_ t_2 t_3 t_4 t_5 t_6 t_7 t_8 m9_ m10_ m11_ m12_ m13_ m14_ m15_ m16_)) (fun t120_ t121_ t_ t_2 t_3 t_4 t_5 t_6 t_7 t_8 m17_ m18_ m19_ m20_ m21_ m22_ m23_ m24_ => rec Q12.k3 (Q12.st3 r_ t120_ t121_ t_ t_2 t_3 t_4 t_5 t_6 t_7 t_8 m17_ m18_ m19_ m20_ m21_ m22_ m23_ m24_)) n_ t_ t_2 t_3 t_4 t_5 t_6 t_7 t_8 m9_ m10_ m11_ m12_ m13_ m14_ m15_ m16_ := by kernel_rfl
theorem Q12.step3 (rec : RK ((Option TTab) × Int)) (r_ : TRules) (t120_ t121_ : Int) (t_ : ByteArray) (t_2 t_3 : Int) (t_4 t_5 : Bool) (t_6 t_7 t_8 : Int) (m17_ : (List TPiece)) (m18_ : LInt) (m19_ : (List TEnd)) (m20_ : (List TPos)) (m21_ : (List LInt)) (m22_ : (List LMv)) (m23_ : (List (Int × Int))) (m24_ : (List (ByteArray × Int))) : seg tb (Q12.G N) Q12.A 0 rec (Q12.fin N) segFuel (loopBody Q12.k3) (Q12.st3 r_ t120_ t121_ t_ t_2 t_3 t_4 t_5 t_6 t_7 t_8 m17_ m18_ m19_ m20_ m21_ m22_ m23_ m24_) = Q12.s3 N r_ (fun i_ t_ t_2 t_3 t_4 t_5 t_6 t_7 t_8 m9_ m10_ m11_ m12_ m13_ m14_ m15_ m16_ => rec Q12.k0 (Q12.st0 r_ i_ t_ t_2 t_3 t_4 t_5 t_6 t_7 t_8 m9_ m10_ m11_ m12_ m13_ m14_ m15_ m16_)) (fun i_ t60_ t61_ t_ t_2 t_3 t_4 t_5 t_6 t_7 t_8 m9_ m10_ m11_ m12_ m13_ m14_ m15_ m16_ p_ p_2 p_3 p_4 p_5 entry l_ next => rec Q12.k1 (Q12.st1 r_ i_ t60_ t61_ t_ t_2 t_3 t_4 t_5 t_6 t_7 t_8 m9_ m10_ m11_ m12_ m13_ m14_ m15_ m16_ p_ p_2 p_3 p_4 p_5 entry l_ next)) (fun n_ t_ t_2 t_3 t_4 t_5 t_6 t_7 t_8 m9_ m10_ m11_ m12_ m13_ m14_ m15_ m16_ => rec Q12.k2 (Q12.st2 r_ n_ t_ t_2 t_3 t_4 t_5 t_6 t_7 t_8 m9_ m10_ m11_ m12_ m13_ m14_ m15_ m16_)) (fun t120_ t121_ t_ t_2 t_3 t_4 t_5 t_6 t_7 t_8 m17_ m18_ m19_ m20_ m21_ m22_ m23_ m24_ => rec Q12.k3 (Q12.st3 r_ t120_ t121_ t_ t_2 t_3 t_4 t_5 t_6 t_7 t_8 m17_ m18_ m19_ m20_ m21_ m22_ m23_ m24_)) t120_ t121_ t_ t_2 t_3 t_4 t_5 t_6 t_7 t_8 m17_ m18_ m19_ m20_ m21_ m22_ m23_ m24_ := by kernel_rfl
theorem Q12.entry (rec : RK ((Option TTab) × Int)) (x : (argH Q12.as).den) : seg tb (Q12.G N) Q12.A 0 rec (Q12.fin N) segFuel [.code (bodyOf Tryz.f12)] (initSt Tryz.f12 (encArgs Q12.as x) (encMem Q12.as x)) = Q12.e N (fun i_ t_ t_2 t_3 t_4 t_5 t_6 t_7 t_8 m9_ m10_ m11_ m12_ m13_ m14_ m15_ m16_ => rec Q12.k0 (Q12.st0 x.1 i_ t_ t_2 t_3 t_4 t_5 t_6 t_7 t_8 m9_ m10_ m11_ m12_ m13_ m14_ m15_ m16_)) (fun i_ t60_ t61_ t_ t_2 t_3 t_4 t_5 t_6 t_7 t_8 m9_ m10_ m11_ m12_ m13_ m14_ m15_ m16_ p_ p_2 p_3 p_4 p_5 entry l_ next => rec Q12.k1 (Q12.st1 x.1 i_ t60_ t61_ t_ t_2 t_3 t_4 t_5 t_6 t_7 t_8 m9_ m10_ m11_ m12_ m13_ m14_ m15_ m16_ p_ p_2 p_3 p_4 p_5 entry l_ next)) (fun n_ t_ t_2 t_3 t_4 t_5 t_6 t_7 t_8 m9_ m10_ m11_ m12_ m13_ m14_ m15_ m16_ => rec Q12.k2 (Q12.st2 x.1 n_ t_ t_2 t_3 t_4 t_5 t_6 t_7 t_8 m9_ m10_ m11_ m12_ m13_ m14_ m15_ m16_)) (fun t120_ t121_ t_ t_2 t_3 t_4 t_5 t_6 t_7 t_8 m17_ m18_ m19_ m20_ m21_ m22_ m23_ m24_ => rec Q12.k3 (Q12.st3 x.1 t120_ t121_ t_ t_2 t_3 t_4 t_5 t_6 t_7 t_8 m17_ m18_ m19_ m20_ m21_ m22_ m23_ m24_)) x.1 := by kernel_rfl
theorem Q12.runs (N : Nat) (r_ : TRules) : ∀ n, (∀ (i_ : Int) (t_ : ByteArray) (t_2 t_3 : Int) (t_4 t_5 : Bool) (t_6 t_7 t_8 : Int) (m9_ : (List TPiece)) (m10_ : LInt) (m11_ : (List TEnd)) (m12_ : (List TPos)) (m13_ : (List LInt)) (m14_ : (List LMv)) (m15_ : (List (Int × Int))) (m16_ : (List (ByteArray × Int))), run tb (Q12.G N) Q12.A 0 (Q12.fin N) n Q12.k0 (Q12.st0 r_ i_ t_ t_2 t_3 t_4 t_5 t_6 t_7 t_8 m9_ m10_ m11_ m12_ m13_ m14_ m15_ m16_) = Q12.l0 N r_ n i_ t_ t_2 t_3 t_4 t_5 t_6 t_7 t_8 m9_ m10_ m11_ m12_ m13_ m14_ m15_ m16_) ∧ (∀ (i_ t60_ t61_ : Int) (t_ : ByteArray) (t_2 t_3 : Int) (t_4 t_5 : Bool) (t_6 t_7 t_8 : Int) (m9_ : (List TPiece)) (m10_ : LInt) (m11_ : (List TEnd)) (m12_ : (List TPos)) (m13_ : (List LInt)) (m14_ : (List LMv)) (m15_ : (List (Int × Int))) (m16_ : (List (ByteArray × Int))) (p_ p_2 p_3 : LInt) (p_4 p_5 entry : Int) (l_ : LMv) (next : LInt), run tb (Q12.G N) Q12.A 0 (Q12.fin N) n Q12.k1 (Q12.st1 r_ i_ t60_ t61_ t_ t_2 t_3 t_4 t_5 t_6 t_7 t_8 m9_ m10_ m11_ m12_ m13_ m14_ m15_ m16_ p_ p_2 p_3 p_4 p_5 entry l_ next) = Q12.l1 N r_ n i_ t60_ t61_ t_ t_2 t_3 t_4 t_5 t_6 t_7 t_8 m9_ m10_ m11_ m12_ m13_ m14_ m15_ m16_ p_ p_2 p_3 p_4 p_5 entry l_ next) ∧ (∀ (n_ : Int) (t_ : ByteArray) (t_2 t_3 : Int) (t_4 t_5 : Bool) (t_6 t_7 t_8 : Int) (m9_ : (List TPiece)) (m10_ : LInt) (m11_ : (List TEnd)) (m12_ : (List TPos)) (m13_ : (List LInt)) (m14_ : (List LMv)) (m15_ : (List (Int × Int))) (m16_ : (List (ByteArray × Int))), run tb (Q12.G N) Q12.A 0 (Q12.fin N) n Q12.k2 (Q12.st2 r_ n_ t_ t_2 t_3 t_4 t_5 t_6 t_7 t_8 m9_ m10_ m11_ m12_ m13_ m14_ m15_ m16_) = Q12.l2 N r_ n n_ t_ t_2 t_3 t_4 t_5 t_6 t_7 t_8 m9_ m10_ m11_ m12_ m13_ m14_ m15_ m16_) ∧ (∀ (t120_ t121_ : Int) (t_ : ByteArray) (t_2 t_3 : Int) (t_4 t_5 : Bool) (t_6 t_7 t_8 : Int) (m17_ : (List TPiece)) (m18_ : LInt) (m19_ : (List TEnd)) (m20_ : (List TPos)) (m21_ : (List LInt)) (m22_ : (List LMv)) (m23_ : (List (Int × Int))) (m24_ : (List (ByteArray × Int))), run tb (Q12.G N) Q12.A 0 (Q12.fin N) n Q12.k3 (Q12.st3 r_ t120_ t121_ t_ t_2 t_3 t_4 t_5 t_6 t_7 t_8 m17_ m18_ m19_ m20_ m21_ m22_ m23_ m24_) = Q12.l3 N r_ n t120_ t121_ t_ t_2 t_3 t_4 t_5 t_6 t_7 t_8 m17_ m18_ m19_ m20_ m21_ m22_ m23_ m24_)
 | 0 => ⟨fun _ _ _ _ _ _ _ _ _ _ _ _ _ _ _ _ _ => rfl, fun _ _ _ _ _ _ _ _ _ _ _ _ _ _ _ _ _ _ _ _ _ _ _ _ _ _ _ => rfl, fun _ _ _ _ _ _ _ _ _ _ _ _ _ _ _ _ _ => rfl, fun _ _ _ _ _ _ _ _ _ _ _ _ _ _ _ _ _ _ => rfl⟩
 | n + 1 => by
  obtain ⟨h0, h1, h2, h3⟩ := Q12.runs N r_ n
  have e0 : (fun (i_ : Int) (t_ : ByteArray) (t_2 t_3 : Int) (t_4 t_5 : Bool) (t_6 t_7 t_8 : Int) (m9_ : (List TPiece)) (m10_ : LInt) (m11_ : (List TEnd)) (m12_ : (List TPos)) (m13_ : (List LInt)) (m14_ : (List LMv)) (m15_ : (List (Int × Int))) (m16_ : (List (ByteArray × Int))) => run tb (Q12.G N) Q12.A 0 (Q12.fin N) n Q12.k0 (Q12.st0 r_ i_ t_ t_2 t_3 t_4 t_5 t_6 t_7 t_8 m9_ m10_ m11_ m12_ m13_ m14_ m15_ m16_)) = Q12.l0 N r_ n := by funext i_ t_ t_2 t_3 t_4 t_5 t_6 t_7 t_8 m9_ m10_ m11_ m12_ m13_ m14_ m15_ m16_; exact h0 i_ t_ t_2 t_3 t_4 t_5 t_6 t_7 t_8 m9_ m10_ m11_ m12_ m13_ m14_ m15_ m16_
  have e1 : (fun (i_ t60_ t61_ : Int) (t_ : ByteArray) (t_2 t_3 : Int) (t_4 t_5 : Bool) (t_6 t_7 t_8 : Int) (m9_ : (List TPiece)) (m10_ : LInt) (m11_ : (List TEnd)) (m12_ : (List TPos)) (m13_ : (List LInt)) (m14_ : (List LMv)) (m15_ : (List (Int × Int))) (m16_ : (List (ByteArray × Int))) (p_ p_2 p_3 : LInt) (p_4 p_5 entry : Int) (l_ : LMv) (next : LInt) => run tb (Q12.G N) Q12.A 0 (Q12.fin N) n Q12.k1 (Q12.st1 r_ i_ t60_ t61_ t_ t_2 t_3 t_4 t_5 t_6 t_7 t_8 m9_ m10_ m11_ m12_ m13_ m14_ m15_ m16_ p_ p_2 p_3 p_4 p_5 entry l_ next)) = Q12.l1 N r_ n := by funext i_ t60_ t61_ t_ t_2 t_3 t_4 t_5 t_6 t_7 t_8 m9_ m10_ m11_ m12_ m13_ m14_ m15_ m16_ p_ p_2 p_3 p_4 p_5 entry l_ next; exact h1 i_ t60_ t61_ t_ t_2 t_3 t_4 t_5 t_6 t_7 t_8 m9_ m10_ m11_ m12_ m13_ m14_ m15_ m16_ p_ p_2 p_3 p_4 p_5 entry l_ next
  have e2 : (fun (n_ : Int) (t_ : ByteArray) (t_2 t_3 : Int) (t_4 t_5 : Bool) (t_6 t_7 t_8 : Int) (m9_ : (List TPiece)) (m10_ : LInt) (m11_ : (List TEnd)) (m12_ : (List TPos)) (m13_ : (List LInt)) (m14_ : (List LMv)) (m15_ : (List (Int × Int))) (m16_ : (List (ByteArray × Int))) => run tb (Q12.G N) Q12.A 0 (Q12.fin N) n Q12.k2 (Q12.st2 r_ n_ t_ t_2 t_3 t_4 t_5 t_6 t_7 t_8 m9_ m10_ m11_ m12_ m13_ m14_ m15_ m16_)) = Q12.l2 N r_ n := by funext n_ t_ t_2 t_3 t_4 t_5 t_6 t_7 t_8 m9_ m10_ m11_ m12_ m13_ m14_ m15_ m16_; exact h2 n_ t_ t_2 t_3 t_4 t_5 t_6 t_7 t_8 m9_ m10_ m11_ m12_ m13_ m14_ m15_ m16_
  have e3 : (fun (t120_ t121_ : Int) (t_ : ByteArray) (t_2 t_3 : Int) (t_4 t_5 : Bool) (t_6 t_7 t_8 : Int) (m17_ : (List TPiece)) (m18_ : LInt) (m19_ : (List TEnd)) (m20_ : (List TPos)) (m21_ : (List LInt)) (m22_ : (List LMv)) (m23_ : (List (Int × Int))) (m24_ : (List (ByteArray × Int))) => run tb (Q12.G N) Q12.A 0 (Q12.fin N) n Q12.k3 (Q12.st3 r_ t120_ t121_ t_ t_2 t_3 t_4 t_5 t_6 t_7 t_8 m17_ m18_ m19_ m20_ m21_ m22_ m23_ m24_)) = Q12.l3 N r_ n := by funext t120_ t121_ t_ t_2 t_3 t_4 t_5 t_6 t_7 t_8 m17_ m18_ m19_ m20_ m21_ m22_ m23_ m24_; exact h3 t120_ t121_ t_ t_2 t_3 t_4 t_5 t_6 t_7 t_8 m17_ m18_ m19_ m20_ m21_ m22_ m23_ m24_
  have g0 : (∀ (i_ : Int) (t_ : ByteArray) (t_2 t_3 : Int) (t_4 t_5 : Bool) (t_6 t_7 t_8 : Int) (m9_ : (List TPiece)) (m10_ : LInt) (m11_ : (List TEnd)) (m12_ : (List TPos)) (m13_ : (List LInt)) (m14_ : (List LMv)) (m15_ : (List (Int × Int))) (m16_ : (List (ByteArray × Int))), run tb (Q12.G N) Q12.A 0 (Q12.fin N) (n + 1) Q12.k0 (Q12.st0 r_ i_ t_ t_2 t_3 t_4 t_5 t_6 t_7 t_8 m9_ m10_ m11_ m12_ m13_ m14_ m15_ m16_) = Q12.l0 N r_ (n + 1) i_ t_ t_2 t_3 t_4 t_5 t_6 t_7 t_8 m9_ m10_ m11_ m12_ m13_ m14_ m15_ m16_) := by
   intro i_ t_ t_2 t_3 t_4 t_5 t_6 t_7 t_8 m9_ m10_ m11_ m12_ m13_ m14_ m15_ m16_
   exact (run_succ (by kernel_rfl)).trans ((Q12.step0 N _ r_ i_ t_ t_2 t_3 t_4 t_5 t_6 t_7 t_8 m9_ m10_ m11_ m12_ m13_ m14_ m15_ m16_).trans ((congr (congr (congr (congrArg (fun r0 r1 r2 r3 => Q12.s0 N r_ r0 r1 r2 r3 i_ t_ t_2 t_3 t_4 t_5 t_6 t_7 t_8 m9_ m10_ m11_ m12_ m13_ m14_ m15_ m16_) e0) e1) e2) e3).trans (Q12.l0_s N r_ n i_ t_ t_2 t_3 t_4 t_5 t_6 t_7 t_8 m9_ m10_ m11_ m12_ m13_ m14_ m15_ m16_).symm))
  have g1 : (∀ (i_ t60_ t61_ : Int) (t_ : ByteArray) (t_2 t_3 : Int) (t_4 t_5 : Bool) (t_6 t_7 t_8 : Int) (m9_ : (List TPiece)) (m10_ : LInt) (m11_ : (List TEnd)) (m12_ : (List TPos)) (m13_ : (List LInt)) (m14_ : (List LMv)) (m15_ : (List (Int × Int))) (m16_ : (List (ByteArray × Int))) (p_ p_2 p_3 : LInt) (p_4 p_5 entry : Int) (l_ : LMv) (next : LInt), run tb (Q12.G N) Q12.A 0 (Q12.fin N) (n + 1) Q12.k1 (Q12.st1 r_ i_ t60_ t61_ t_ t_2 t_3 t_4 t_5 t_6 t_7 t_8 m9_ m10_ m11_ m12_ m13_ m14_ m15_ m16_ p_ p_2 p_3 p_4 p_5 entry l_ next) = Q12.l1 N r_ (n + 1) i_ t60_ t61_ t_ t_2 t_3 t_4 t_5 t_6 t_7 t_8 m9_ m10_ m11_ m12_ m13_ m14_ m15_ m16_ p_ p_2 p_3 p_4 p_5 entry l_ next) := by
   intro i_ t60_ t61_ t_ t_2 t_3 t_4 t_5 t_6 t_7 t_8 m9_ m10_ m11_ m12_ m13_ m14_ m15_ m16_ p_ p_2 p_3 p_4 p_5 entry l_ next
   exact (run_succ (by kernel_rfl)).trans ((Q12.step1 N _ r_ i_ t60_ t61_ t_ t_2 t_3 t_4 t_5 t_6 t_7 t_8 m9_ m10_ m11_ m12_ m13_ m14_ m15_ m16_ p_ p_2 p_3 p_4 p_5 entry l_ next).trans ((congr (congr (congr (congrArg (fun r0 r1 r2 r3 => Q12.s1 N r_ r0 r1 r2 r3 i_ t60_ t61_ t_ t_2 t_3 t_4 t_5 t_6 t_7 t_8 m9_ m10_ m11_ m12_ m13_ m14_ m15_ m16_ p_ p_2 p_3 p_4 p_5 entry l_ next) e0) e1) e2) e3).trans (Q12.l1_s N r_ n i_ t60_ t61_ t_ t_2 t_3 t_4 t_5 t_6 t_7 t_8 m9_ m10_ m11_ m12_ m13_ m14_ m15_ m16_ p_ p_2 p_3 p_4 p_5 entry l_ next).symm))
  have g2 : (∀ (n_ : Int) (t_ : ByteArray) (t_2 t_3 : Int) (t_4 t_5 : Bool) (t_6 t_7 t_8 : Int) (m9_ : (List TPiece)) (m10_ : LInt) (m11_ : (List TEnd)) (m12_ : (List TPos)) (m13_ : (List LInt)) (m14_ : (List LMv)) (m15_ : (List (Int × Int))) (m16_ : (List (ByteArray × Int))), run tb (Q12.G N) Q12.A 0 (Q12.fin N) (n + 1) Q12.k2 (Q12.st2 r_ n_ t_ t_2 t_3 t_4 t_5 t_6 t_7 t_8 m9_ m10_ m11_ m12_ m13_ m14_ m15_ m16_) = Q12.l2 N r_ (n + 1) n_ t_ t_2 t_3 t_4 t_5 t_6 t_7 t_8 m9_ m10_ m11_ m12_ m13_ m14_ m15_ m16_) := by
   intro n_ t_ t_2 t_3 t_4 t_5 t_6 t_7 t_8 m9_ m10_ m11_ m12_ m13_ m14_ m15_ m16_
   exact (run_succ (by kernel_rfl)).trans ((Q12.step2 N _ r_ n_ t_ t_2 t_3 t_4 t_5 t_6 t_7 t_8 m9_ m10_ m11_ m12_ m13_ m14_ m15_ m16_).trans ((congr (congr (congr (congrArg (fun r0 r1 r2 r3 => Q12.s2 N r_ r0 r1 r2 r3 n_ t_ t_2 t_3 t_4 t_5 t_6 t_7 t_8 m9_ m10_ m11_ m12_ m13_ m14_ m15_ m16_) e0) e1) e2) e3).trans (Q12.l2_s N r_ n n_ t_ t_2 t_3 t_4 t_5 t_6 t_7 t_8 m9_ m10_ m11_ m12_ m13_ m14_ m15_ m16_).symm))
  have g3 : (∀ (t120_ t121_ : Int) (t_ : ByteArray) (t_2 t_3 : Int) (t_4 t_5 : Bool) (t_6 t_7 t_8 : Int) (m17_ : (List TPiece)) (m18_ : LInt) (m19_ : (List TEnd)) (m20_ : (List TPos)) (m21_ : (List LInt)) (m22_ : (List LMv)) (m23_ : (List (Int × Int))) (m24_ : (List (ByteArray × Int))), run tb (Q12.G N) Q12.A 0 (Q12.fin N) (n + 1) Q12.k3 (Q12.st3 r_ t120_ t121_ t_ t_2 t_3 t_4 t_5 t_6 t_7 t_8 m17_ m18_ m19_ m20_ m21_ m22_ m23_ m24_) = Q12.l3 N r_ (n + 1) t120_ t121_ t_ t_2 t_3 t_4 t_5 t_6 t_7 t_8 m17_ m18_ m19_ m20_ m21_ m22_ m23_ m24_) := by
   intro t120_ t121_ t_ t_2 t_3 t_4 t_5 t_6 t_7 t_8 m17_ m18_ m19_ m20_ m21_ m22_ m23_ m24_
   exact (run_succ (by kernel_rfl)).trans ((Q12.step3 N _ r_ t120_ t121_ t_ t_2 t_3 t_4 t_5 t_6 t_7 t_8 m17_ m18_ m19_ m20_ m21_ m22_ m23_ m24_).trans ((congr (congr (congr (congrArg (fun r0 r1 r2 r3 => Q12.s3 N r_ r0 r1 r2 r3 t120_ t121_ t_ t_2 t_3 t_4 t_5 t_6 t_7 t_8 m17_ m18_ m19_ m20_ m21_ m22_ m23_ m24_) e0) e1) e2) e3).trans (Q12.l3_s N r_ n t120_ t121_ t_ t_2 t_3 t_4 t_5 t_6 t_7 t_8 m17_ m18_ m19_ m20_ m21_ m22_ m23_ m24_).symm))
  exact ⟨g0, g1, g2, g3⟩
theorem Q12.ok : FnOk Tryz.prog 12 (Q12.D N) := by
 refine FnOk_of tb_ok (Checked.mixed Tryz.checked) ⟨Tryz.f12, Tryz.func12, by kernel_rfl, by kernel_rfl, fun x y h => ⟨Q12.G N, Q12.A, N, gamOf_ok (gc ⟨Q29.ok N, Q29.fit N⟩ (gc ⟨Q19.ok N, Q19.fit N⟩ (gc ⟨Q31.ok N, Q31.fit N⟩ (gc ⟨Q30.ok N, Q30.fit N⟩ (gc ⟨Q32.ok N, Q32.fit N⟩ (gc ⟨Q33.ok N, Q33.fit N⟩ (gc ⟨Q34.ok N, Q34.fit N⟩ (gc ⟨Q24.ok N, Q24.fit N⟩ gn)))))))), ?_⟩⟩ (Q12.fit N)
 rw [absFn_n (n0 := 0) rfl (by kernel_rfl)]
 refine (Q12.entry N (run tb (Q12.G N) Q12.A 0 (Q12.fin N) N) x).trans ?_
 have e0 : (fun (i_ : Int) (t_ : ByteArray) (t_2 t_3 : Int) (t_4 t_5 : Bool) (t_6 t_7 t_8 : Int) (m9_ : (List TPiece)) (m10_ : LInt) (m11_ : (List TEnd)) (m12_ : (List TPos)) (m13_ : (List LInt)) (m14_ : (List LMv)) (m15_ : (List (Int × Int))) (m16_ : (List (ByteArray × Int))) => run tb (Q12.G N) Q12.A 0 (Q12.fin N) N Q12.k0 (Q12.st0 x.1 i_ t_ t_2 t_3 t_4 t_5 t_6 t_7 t_8 m9_ m10_ m11_ m12_ m13_ m14_ m15_ m16_)) = Q12.l0 N x.1 N := by funext i_ t_ t_2 t_3 t_4 t_5 t_6 t_7 t_8 m9_ m10_ m11_ m12_ m13_ m14_ m15_ m16_; exact (Q12.runs N x.1 N).1 i_ t_ t_2 t_3 t_4 t_5 t_6 t_7 t_8 m9_ m10_ m11_ m12_ m13_ m14_ m15_ m16_
 have e1 : (fun (i_ t60_ t61_ : Int) (t_ : ByteArray) (t_2 t_3 : Int) (t_4 t_5 : Bool) (t_6 t_7 t_8 : Int) (m9_ : (List TPiece)) (m10_ : LInt) (m11_ : (List TEnd)) (m12_ : (List TPos)) (m13_ : (List LInt)) (m14_ : (List LMv)) (m15_ : (List (Int × Int))) (m16_ : (List (ByteArray × Int))) (p_ p_2 p_3 : LInt) (p_4 p_5 entry : Int) (l_ : LMv) (next : LInt) => run tb (Q12.G N) Q12.A 0 (Q12.fin N) N Q12.k1 (Q12.st1 x.1 i_ t60_ t61_ t_ t_2 t_3 t_4 t_5 t_6 t_7 t_8 m9_ m10_ m11_ m12_ m13_ m14_ m15_ m16_ p_ p_2 p_3 p_4 p_5 entry l_ next)) = Q12.l1 N x.1 N := by funext i_ t60_ t61_ t_ t_2 t_3 t_4 t_5 t_6 t_7 t_8 m9_ m10_ m11_ m12_ m13_ m14_ m15_ m16_ p_ p_2 p_3 p_4 p_5 entry l_ next; exact (Q12.runs N x.1 N).2.1 i_ t60_ t61_ t_ t_2 t_3 t_4 t_5 t_6 t_7 t_8 m9_ m10_ m11_ m12_ m13_ m14_ m15_ m16_ p_ p_2 p_3 p_4 p_5 entry l_ next
 have e2 : (fun (n_ : Int) (t_ : ByteArray) (t_2 t_3 : Int) (t_4 t_5 : Bool) (t_6 t_7 t_8 : Int) (m9_ : (List TPiece)) (m10_ : LInt) (m11_ : (List TEnd)) (m12_ : (List TPos)) (m13_ : (List LInt)) (m14_ : (List LMv)) (m15_ : (List (Int × Int))) (m16_ : (List (ByteArray × Int))) => run tb (Q12.G N) Q12.A 0 (Q12.fin N) N Q12.k2 (Q12.st2 x.1 n_ t_ t_2 t_3 t_4 t_5 t_6 t_7 t_8 m9_ m10_ m11_ m12_ m13_ m14_ m15_ m16_)) = Q12.l2 N x.1 N := by funext n_ t_ t_2 t_3 t_4 t_5 t_6 t_7 t_8 m9_ m10_ m11_ m12_ m13_ m14_ m15_ m16_; exact (Q12.runs N x.1 N).2.2.1 n_ t_ t_2 t_3 t_4 t_5 t_6 t_7 t_8 m9_ m10_ m11_ m12_ m13_ m14_ m15_ m16_
 have e3 : (fun (t120_ t121_ : Int) (t_ : ByteArray) (t_2 t_3 : Int) (t_4 t_5 : Bool) (t_6 t_7 t_8 : Int) (m17_ : (List TPiece)) (m18_ : LInt) (m19_ : (List TEnd)) (m20_ : (List TPos)) (m21_ : (List LInt)) (m22_ : (List LMv)) (m23_ : (List (Int × Int))) (m24_ : (List (ByteArray × Int))) => run tb (Q12.G N) Q12.A 0 (Q12.fin N) N Q12.k3 (Q12.st3 x.1 t120_ t121_ t_ t_2 t_3 t_4 t_5 t_6 t_7 t_8 m17_ m18_ m19_ m20_ m21_ m22_ m23_ m24_)) = Q12.l3 N x.1 N := by funext t120_ t121_ t_ t_2 t_3 t_4 t_5 t_6 t_7 t_8 m17_ m18_ m19_ m20_ m21_ m22_ m23_ m24_; exact (Q12.runs N x.1 N).2.2.2 t120_ t121_ t_ t_2 t_3 t_4 t_5 t_6 t_7 t_8 m17_ m18_ m19_ m20_ m21_ m22_ m23_ m24_
 have h' : (Q12.D N).f x = Q12.e N (Q12.l0 N x.1 N) (Q12.l1 N x.1 N) (Q12.l2 N x.1 N) (Q12.l3 N x.1 N) x.1 := by kernel_rfl
 exact (congr (congr (congr (congrArg (fun r0 r1 r2 r3 => Q12.e N r0 r1 r2 r3 x.1) e0) e1) e2) e3).trans (h'.symm.trans h)
def Q7.as : List MK := [.d true qa]
def Q7.rs : List (Bool × HT) := [(false, (.opt 72 (.prod (.prod (.d .str) (.prod (.d tI) (.prod (.d tI) (.prod (.own 89 qb) (.prod (.own 3 tI) (.prod (.d .bool) (.prod (.d .bool) (.prod (.own 91 qe) (.d qd))))))))) (.prod (.ptr 63 (.prod (.prod (.d .str) (.prod (.d tI) (.prod (.d tI) (.prod (.own 89 qb) (.prod (.own 3 tI) (.prod (.d .bool) (.prod (.d .bool) (.prod (.own 91 qe) (.d qd))))))))) (.prod (.own 33 qc) (.prod (.own 23 (.slice 3 tI)) (.prod (.own 43 (.slice 80 qd)) (.prod (.own 35 (.prod tI tI)) (.mp false false .str tI))))))) (.d (.prod .unit (.prod .unit tI))))))), (false, (.d tI))]
def Q7.lc : List AC := []
def Q7.D : DFn := ⟨Q7.as, Q7.rs, ((Option (TRules × (TTab × (Unit × (Unit × Int))))) × Int), fun x => Q7 N x.1, fun r o => (r.1, r.2.1), fun b => (b.1, (b.2, ())), fun b => (), none⟩
theorem Q7.fit : (Q7.D N).Fit := ⟨fun _ _ => rfl, fun _ _ => rfl, by kernel_rfl, (fun _ _ h => nomatch h), by kernel_rfl⟩
noncomputable def Q7.G : Gam := gamOf [(12, Q12.D N), (19, Q19.D N)]
def Q7.A : LA := fun _ => none
noncomputable def Q7.fin : St → Option ((Option (TRules × (TTab × (Unit × (Unit × Int))))) × Int) := resK tb Tryz.f7.results.toList (decRes (Q7.D N) Q7.lc)
theorem Q7.entry (rec : RK ((Option (TRules × (TTab × (Unit × (Unit × Int))))) × Int)) (x : (argH Q7.as).den) : seg tb (Q7.G N) Q7.A 0 rec (Q7.fin N) segFuel [.code (bodyOf Tryz.f7)] (initSt Tryz.f7 (encArgs Q7.as x) (encMem Q7.as x)) = Q7.e N x.1 := by kernel_rfl
theorem Q7.ok : FnOk Tryz.prog 7 (Q7.D N) := by
 refine FnOk_of tb_ok (Checked.mixed Tryz.checked) ⟨Tryz.f7, Tryz.func7, by kernel_rfl, by kernel_rfl, fun x y h => ⟨Q7.G N, Q7.A, N, gamOf_ok (gc ⟨Q12.ok N, Q12.fit N⟩ (gc ⟨Q19.ok N, Q19.fit N⟩ gn)), ?_⟩⟩ (Q7.fit N)
 rw [absFn_n (n0 := 0) rfl (by kernel_rfl)]
 exact (Q7.entry N _ x).trans h
def Q21.as : List MK := [.d false tI]
def Q21.rs : List (Bool × HT) := [(false, (.d .bool))]
def Q21.lc : List AC := []
def Q21.D : DFn := ⟨Q21.as, Q21.rs, Bool, fun x => Q21 N x.1, fun r o => r.1, fun b => (b, ()), fun b => (), none⟩
theorem Q21.fit : (Q21.D N).Fit := ⟨fun _ _ => rfl, fun _ _ => rfl, by kernel_rfl, (fun _ _ h => nomatch h), by kernel_rfl⟩
noncomputable def Q21.G (N : Nat) : Gam := gamOf []
def Q21.A : LA := fun _ => none
noncomputable def Q21.fin : St → Option Bool := resK tb Tryz.f21.results.toList (decRes (Q21.D N) Q21.lc)
theorem Q21.entry (rec : RK Bool) (x : (argH Q21.as).den) : seg tb (Q21.G N) Q21.A 0 rec (Q21.fin N) segFuel [.code (bodyOf Tryz.f21)] (initSt Tryz.f21 (encArgs Q21.as x) (encMem Q21.as x)) = Q21.e N x.1 := by kernel_rfl
theorem Q21.ok : FnOk Tryz.prog 21 (Q21.D N) := by
 refine FnOk_of tb_ok (Checked.mixed Tryz.checked) ⟨Tryz.f21, Tryz.func21, by kernel_rfl, by kernel_rfl, fun x y h => ⟨Q21.G N, Q21.A, N, gamOf_ok (fun p hp => nomatch hp), ?_⟩⟩ (Q21.fit N)
 rw [absFn_n (n0 := 0) rfl (by kernel_rfl)]
 exact (Q21.entry N _ x).trans h
def Q42.as : List MK := [.d false (.slice 36 tI), .f 21]
def Q42.rs : List (Bool × HT) := [(false, (.d tI))]
def Q42.lc : List AC := []
def Q42.D : DFn := ⟨Q42.as, Q42.rs, Int, fun x => Q42 N x.1, fun r o => r.1, fun b => (b, ()), fun b => (), none⟩
theorem Q42.fit : (Q42.D N).Fit := ⟨fun _ _ => rfl, fun _ _ => rfl, by kernel_rfl, (fun _ _ h => nomatch h), by kernel_rfl⟩
noncomputable def Q42.G : Gam := gamOf [(21, Q21.D N)]
def Q42.A : LA := fun k => bif Nat.beq k 0 then some ⟨[0, 1, 7, 8], [], [], [], [], 0, false⟩ else none
noncomputable def Q42.fin : St → Option Int := resK tb Tryz.f42.results.toList (decRes (Q42.D N) Q42.lc)
noncomputable def Q42.k0 : List Item := stackAt [.r, .l, .r, .b] (bodyOf Tryz.f42) []
def Q42.st0 (s_ : LInt) (t8_ : Int) : St := ⟨[.one (.fro 36 tI s_), .one (.fn 21)] ++ rA 5 ++ [oi (s_.length : Int), oi t8_] ++ rA 10, []⟩
theorem Q42.step0 (rec : RK Int) (s_ : LInt) (t8_ : Int) : seg tb (Q42.G N) Q42.A 0 rec (Q42.fin N) segFuel (loopBody Q42.k0) (Q42.st0 s_ t8_) = Q42.s0 N s_ (fun t8_ => rec Q42.k0 (Q42.st0 s_ t8_)) t8_ := by kernel_rfl
theorem Q42.entry (rec : RK Int) (x : (argH Q42.as).den) : seg tb (Q42.G N) Q42.A 0 rec (Q42.fin N) segFuel [.code (bodyOf Tryz.f42)] (initSt Tryz.f42 (encArgs Q42.as x) (encMem Q42.as x)) = Q42.e N (fun t8_ => rec Q42.k0 (Q42.st0 x.1 t8_)) x.1 := by kernel_rfl
theorem Q42.runs (N : Nat) (s_ : LInt) : ∀ n, (∀ (t8_ : Int), run tb (Q42.G N) Q42.A 0 (Q42.fin N) n Q42.k0 (Q42.st0 s_ t8_) = Q42.l0 N s_ n t8_)
 | 0 => fun _ => rfl
 | n + 1 => by
  have h0 := Q42.runs N s_ n
  have e0 : (fun (t8_ : Int) => run tb (Q42.G N) Q42.A 0 (Q42.fin N) n Q42.k0 (Q42.st0 s_ t8_)) = Q42.l0 N s_ n := by funext t8_; exact h0 t8_
  have g0 : (∀ (t8_ : Int), run tb (Q42.G N) Q42.A 0 (Q42.fin N) (n + 1) Q42.k0 (Q42.st0 s_ t8_) = Q42.l0 N s_ (n + 1) t8_) := by
   intro t8_
   exact (run_succ (by kernel_rfl)).trans ((Q42.step0 N _ s_ t8_).trans ((congrArg (fun r0 => Q42.s0 N s_ r0 t8_) e0).trans (Q42.l0_s N s_ n t8_).symm))
  exact g0
theorem Q42.ok : FnOk Tryz.prog 42 (Q42.D N) := by
 refine FnOk_of tb_ok (Checked.mixed Tryz.checked) ⟨Tryz.f42, Tryz.func42, by kernel_rfl, by kernel_rfl, fun x y h => ⟨Q42.G N, Q42.A, N, gamOf_ok (gc ⟨Q21.ok N, Q21.fit N⟩ gn), ?_⟩⟩ (Q42.fit N)
 rw [absFn_n (n0 := 0) rfl (by kernel_rfl)]
 refine (Q42.entry N (run tb (Q42.G N) Q42.A 0 (Q42.fin N) N) x).trans ?_
 have e0 : (fun (t8_ : Int) => run tb (Q42.G N) Q42.A 0 (Q42.fin N) N Q42.k0 (Q42.st0 x.1 t8_)) = Q42.l0 N x.1 N := by funext t8_; exact (Q42.runs N x.1 N) t8_
 have h' : (Q42.D N).f x = Q42.e N (Q42.l0 N x.1 N) x.1 := by kernel_rfl
 exact (congrArg (fun r0 => Q42.e N r0 x.1) e0).trans (h'.symm.trans h)
def Q20.as : List MK := [.d false (.slice 36 tI), .f 21]
def Q20.rs : List (Bool × HT) := [(false, (.d .bool))]
def Q20.lc : List AC := []
def Q20.D : DFn := ⟨Q20.as, Q20.rs, Bool, fun x => Q20 N x.1, fun r o => r.1, fun b => (b, ()), fun b => (), none⟩
theorem Q20.fit : (Q20.D N).Fit := ⟨fun _ _ => rfl, fun _ _ => rfl, by kernel_rfl, (fun _ _ h => nomatch h), by kernel_rfl⟩
noncomputable def Q20.G : Gam := gamOf [(42, Q42.D N)]
def Q20.A : LA := fun _ => none
noncomputable def Q20.fin : St → Option Bool := resK tb Tryz.f20.results.toList (decRes (Q20.D N) Q20.lc)
theorem Q20.entry (rec : RK Bool) (x : (argH Q20.as).den) : seg tb (Q20.G N) Q20.A 0 rec (Q20.fin N) segFuel [.code (bodyOf Tryz.f20)] (initSt Tryz.f20 (encArgs Q20.as x) (encMem Q20.as x)) = Q20.e N x.1 := by kernel_rfl
theorem Q20.ok : FnOk Tryz.prog 20 (Q20.D N) := by
 refine FnOk_of tb_ok (Checked.mixed Tryz.checked) ⟨Tryz.f20, Tryz.func20, by kernel_rfl, by kernel_rfl, fun x y h => ⟨Q20.G N, Q20.A, N, gamOf_ok (gc ⟨Q42.ok N, Q42.fit N⟩ gn), ?_⟩⟩ (Q20.fit N)
 rw [absFn_n (n0 := 0) rfl (by kernel_rfl)]
 exact (Q20.entry N _ x).trans h
def Q8.as : List MK := [.d false (.slice 36 tI)]
def Q8.rs : List (Bool × HT) := [(false, (.d .bool))]
def Q8.lc : List AC := []
def Q8.D : DFn := ⟨Q8.as, Q8.rs, Bool, fun x => Q8 N x.1, fun r o => r.1, fun b => (b, ()), fun b => (), none⟩
theorem Q8.fit : (Q8.D N).Fit := ⟨fun _ _ => rfl, fun _ _ => rfl, by kernel_rfl, (fun _ _ h => nomatch h), by kernel_rfl⟩
noncomputable def Q8.G : Gam := gamOf [(20, Q20.D N)]
def Q8.A : LA := fun _ => none
noncomputable def Q8.fin : St → Option Bool := resK tb Tryz.f8.results.toList (decRes (Q8.D N) Q8.lc)
theorem Q8.entry (rec : RK Bool) (x : (argH Q8.as).den) : seg tb (Q8.G N) Q8.A 0 rec (Q8.fin N) segFuel [.code (bodyOf Tryz.f8)] (initSt Tryz.f8 (encArgs Q8.as x) (encMem Q8.as x)) = Q8.e N x.1 := by kernel_rfl
theorem Q8.ok : FnOk Tryz.prog 8 (Q8.D N) := by
 refine FnOk_of tb_ok (Checked.mixed Tryz.checked) ⟨Tryz.f8, Tryz.func8, by kernel_rfl, by kernel_rfl, fun x y h => ⟨Q8.G N, Q8.A, N, gamOf_ok (gc ⟨Q20.ok N, Q20.fit N⟩ gn), ?_⟩⟩ (Q8.fit N)
 rw [absFn_n (n0 := 0) rfl (by kernel_rfl)]
 exact (Q8.entry N _ x).trans h
def Q6.as : List MK := [.o (.ptr 63 (.prod (.prod (.d .str) (.prod (.d tI) (.prod (.d tI) (.prod (.own 89 qb) (.prod (.own 3 tI) (.prod (.d .bool) (.prod (.d .bool) (.prod (.own 91 qe) (.d qd))))))))) (.prod (.own 33 qc) (.prod (.own 23 (.slice 3 tI)) (.prod (.own 43 (.slice 80 qd)) (.prod (.own 35 (.prod tI tI)) (.mp false false .str tI))))))) true, .d false tI]
def Q6.rs : List (Bool × HT) := [(true, (.prod (.own 3 tI) (.prod (.prod (.own 3 tI) (.own 3 tI)) (.d (.prod tI tI))))), (true, (.d (.prod tI tI))), (false, (.d tI))]
def Q6.lc : List AC := [.ptr 0 0]
def Q6.D : DFn := ⟨Q6.as, Q6.rs, (TPos × (Int × Int) × Int × TTab), fun x => Q6 N x.1 x.2.1, fun r o => (r.1, r.2.1, r.2.2.1, o.1), fun b => (b.1, (b.2.1, (b.2.2.1, ()))), fun b => (b.2.2.2, ()), none⟩
theorem Q6.fit : (Q6.D N).Fit := ⟨fun _ _ => rfl, fun _ _ => rfl, by kernel_rfl, (fun _ _ h => nomatch h), by kernel_rfl⟩
noncomputable def Q6.G : Gam := gamOf [(18, Q18.D N)]
def Q6.A : LA := fun _ => none
noncomputable def Q6.fin : St → Option (TPos × (Int × Int) × Int × TTab) := resK tb Tryz.f6.results.toList (decRes (Q6.D N) Q6.lc)
theorem Q6.entry (rec : RK (TPos × (Int × Int) × Int × TTab)) (x : (argH Q6.as).den) : seg tb (Q6.G N) Q6.A 9 rec (Q6.fin N) segFuel [.code (bodyOf Tryz.f6)] (initSt Tryz.f6 (encArgs Q6.as x) (encMem Q6.as x)) = Q6.e N x.1 x.2.1 := by kernel_rfl
theorem Q6.ok : FnOk Tryz.prog 6 (Q6.D N) := by
 refine FnOk_of tb_ok (Checked.mixed Tryz.checked) ⟨Tryz.f6, Tryz.func6, by kernel_rfl, by kernel_rfl, fun x y h => ⟨Q6.G N, Q6.A, N, gamOf_ok (gc ⟨Q18.ok N, Q18.fit N⟩ gn), ?_⟩⟩ (Q6.fit N)
 rw [absFn_n (n0 := 9) rfl (by kernel_rfl)]
 exact (Q6.entry N _ x).trans h
def Q40.as : List MK := [.d true qa, .d true qc]
def Q40.rs : List (Bool × HT) := [(false, (.d tI))]
def Q40.lc : List AC := []
def Q40.D : DFn := ⟨Q40.as, Q40.rs, Int, fun x => Q40 N x.1 x.2.1, fun r o => r.1, fun b => (b, ()), fun b => (), none⟩
theorem Q40.fit : (Q40.D N).Fit := ⟨fun _ _ => rfl, fun _ _ => rfl, by kernel_rfl, (fun _ _ h => nomatch h), by kernel_rfl⟩
noncomputable def Q40.G : Gam := gamOf [(29, Q29.D N)]
def Q40.A : LA := fun k => bif Nat.beq k 0 then some ⟨[2, 3, 47, 48, 49], [], [], [], [], 2, false⟩ else bif Nat.beq k 2 then some ⟨[3, 65, 66], [], [], [], [0], 2, false⟩ else bif Nat.beq k 4 then some ⟨[3, 65, 66, 69, 70, 71], [], [], [], [], 2, false⟩ else none
noncomputable def Q40.fin : St → Option Int := resK tb Tryz.f40.results.toList (decRes (Q40.D N) Q40.lc)
noncomputable def Q40.k0 : List Item := stackAt [.r, .r, .r, .l, .r, .b] (bodyOf Tryz.f40) []
def Q40.st0 (r_ : TRules) (p_ : TPos) (t49_ : Int) : St := ⟨[oA, oA, .one (.ptr 0 0), .one (.ptr 1 0)] ++ rA 43 ++ [.one (.fro 3 tI p_.1), oi (p_.1.length : Int), oi t49_] ++ rA 51, [vR r_, vP p_]⟩
noncomputable def Q40.k1 : List Item := stackAt [.r, .r, .r, .r, .l, .r, .b] (bodyOf Tryz.f40) []
def Q40.st1 (r_ : TRules) (p_ : TPos) (t66_ : Int) : St := ⟨rA 3 ++ [.one (.ptr 1 0)] ++ rA 61 ++ [.agg [.fro 3 tI p_.2.1.1, .fro 3 tI p_.2.1.2], oi t66_] ++ rA 34, [.gone, vP p_]⟩
noncomputable def Q40.k2 : List Item := stackAt [.r, .r, .r, .r, .l, .r, .b, .w, .r, .r, .l, .b, .r, .r, .b] (bodyOf Tryz.f40) []
def Q40.st2 (r_ : TRules) (p_ : TPos) (t66_ : Int) (t69_ : LInt) (t70_ t71_ : Int) : St := ⟨rA 3 ++ [.one (.ptr 1 0)] ++ rA 61 ++ [.agg [.fro 3 tI p_.2.1.1, .fro 3 tI p_.2.1.2], oi t66_, oA, oA, .one (.fro 3 tI t69_), oi t70_, oi t71_] ++ rA 29, [.gone, vP p_]⟩
theorem Q40.step0 (rec : RK Int) (r_ : TRules) (p_ : TPos) (t49_ : Int) : seg tb (Q40.G N) Q40.A 0 rec (Q40.fin N) segFuel (loopBody Q40.k0) (Q40.st0 r_ p_ t49_) = Q40.s0 N r_ p_ (fun t49_ => rec Q40.k0 (Q40.st0 r_ p_ t49_)) (fun t66_ => rec Q40.k1 (Q40.st1 r_ p_ t66_)) (fun t66_ t69_ t70_ t71_ => rec Q40.k2 (Q40.st2 r_ p_ t66_ t69_ t70_ t71_)) t49_ := by kernel_rfl
theorem Q40.step1 (rec : RK Int) (r_ : TRules) (p_ : TPos) (t66_ : Int) : seg tb (Q40.G N) Q40.A 0 rec (Q40.fin N) segFuel (loopBody Q40.k1) (Q40.st1 r_ p_ t66_) = Q40.s1 N r_ p_ (fun t49_ => rec Q40.k0 (Q40.st0 r_ p_ t49_)) (fun t66_ => rec Q40.k1 (Q40.st1 r_ p_ t66_)) (fun t66_ t69_ t70_ t71_ => rec Q40.k2 (Q40.st2 r_ p_ t66_ t69_ t70_ t71_)) t66_ := by kernel_rfl
theorem Q40.step2 (rec : RK Int) (r_ : TRules) (p_ : TPos) (t66_ : Int) (t69_ : LInt) (t70_ t71_ : Int) : seg tb (Q40.G N) Q40.A 0 rec (Q40.fin N) segFuel (loopBody Q40.k2) (Q40.st2 r_ p_ t66_ t69_ t70_ t71_) = Q40.s2 N r_ p_ (fun t49_ => rec Q40.k0 (Q40.st0 r_ p_ t49_)) (fun t66_ => rec Q40.k1 (Q40.st1 r_ p_ t66_)) (fun t66_ t69_ t70_ t71_ => rec Q40.k2 (Q40.st2 r_ p_ t66_ t69_ t70_ t71_)) t66_ t69_ t70_ t71_ := by kernel_rfl
theorem Q40.entry (rec : RK Int) (x : (argH Q40.as).den) : seg tb (Q40.G N) Q40.A 0 rec (Q40.fin N) segFuel [.code (bodyOf Tryz.f40)] (initSt Tryz.f40 (encArgs Q40.as x) (encMem Q40.as x)) = Q40.e N (fun t49_ => rec Q40.k0 (Q40.st0 x.1 x.2.1 t49_)) (fun t66_ => rec Q40.k1 (Q40.st1 x.1 x.2.1 t66_)) (fun t66_ t69_ t70_ t71_ => rec Q40.k2 (Q40.st2 x.1 x.2.1 t66_ t69_ t70_ t71_)) x.1 x.2.1 := by kernel_rfl
theorem Q40.runs (N : Nat) (r_ : TRules) (p_ : TPos) : ∀ n, (∀ (t49_ : Int), run tb (Q40.G N) Q40.A 0 (Q40.fin N) n Q40.k0 (Q40.st0 r_ p_ t49_) = Q40.l0 N r_ p_ n t49_) ∧ (∀ (t66_ : Int), run tb (Q40.G N) Q40.A 0 (Q40.fin N) n Q40.k1 (Q40.st1 r_ p_ t66_) = Q40.l1 N r_ p_ n t66_) ∧ (∀ (t66_ : Int) (t69_ : LInt) (t70_ t71_ : Int), run tb (Q40.G N) Q40.A 0 (Q40.fin N) n Q40.k2 (Q40.st2 r_ p_ t66_ t69_ t70_ t71_) = Q40.l2 N r_ p_ n t66_ t69_ t70_ t71_)
 | 0 => ⟨fun _ => rfl, fun _ => rfl, fun _ _ _ _ => rfl⟩
 | n + 1 => by
  obtain ⟨h0, h1, h2⟩ := Q40.runs N r_ p_ n
  have e0 : (fun (t49_ : Int) => run tb (Q40.G N) Q40.A 0 (Q40.fin N) n Q40.k0 (Q40.st0 r_ p_ t49_)) = Q40.l0 N r_ p_ n := by funext t49_; exact h0 t49_
  have e1 : (fun (t66_ : Int) => run tb (Q40.G N) Q40.A 0 (Q40.fin N) n Q40.k1 (Q40.st1 r_ p_ t66_)) = Q40.l1 N r_ p_ n := by funext t66_; exact h1 t66_
  have e2 : (fun (t66_ : Int) (t69_ : LInt) (t70_ t71_ : Int) => run tb (Q40.G N) Q40.A 0 (Q40.fin N) n Q40.k2 (Q40.st2 r_ p_ t66_ t69_ t70_ t71_)) = Q40.l2 N r_ p_ n := by funext t66_ t69_ t70_ t71_; exact h2 t66_ t69_ t70_ t71_
  have g0 : (∀ (t49_ : Int), run tb (Q40.G N) Q40.A 0 (Q40.fin N) (n + 1) Q40.k0 (Q40.st0 r_ p_ t49_) = Q40.l0 N r_ p_ (n + 1) t49_) := by
   intro t49_
   exact (run_succ (by kernel_rfl)).trans ((Q40.step0 N _ r_ p_ t49_).trans ((congr (congr (congrArg (fun r0 r1 r2 => Q40.s0 N r_ p_ r0 r1 r2 t49_) e0) e1) e2).trans (Q40.l0_s N r_ p_ n t49_).symm))
  have g1 : (∀ (t66_ : Int), run tb (Q40.G N) Q40.A 0 (Q40.fin N) (n + 1) Q40.k1 (Q40.st1 r_ p_ t66_) = Q40.l1 N r_ p_ (n + 1) t66_) := by
   intro t66_
   exact (run_succ (by kernel_rfl)).trans ((Q40.step1 N _ r_ p_ t66_).trans ((congr (congr (congrArg (fun r0 r1 r2 => Q40.s1 N r_ p_ r0 r1 r2 t66_) e0) e1) e2).trans (Q40.l1_s N r_ p_ n t66_).symm))
  have g2 : (∀ (t66_ : Int) (t69_ : LInt) (t70_ t71_ : Int), run tb (Q40.G N) Q40.A 0 (Q40.fin N) (n + 1) Q40.k2 (Q40.st2 r_ p_ t66_ t69_ t70_ t71_) = Q40.l2 N r_ p_ (n + 1) t66_ t69_ t70_ t71_) := by
   intro t66_ t69_ t70_ t71_
   exact (run_succ (by kernel_rfl)).trans ((Q40.step2 N _ r_ p_ t66_ t69_ t70_ t71_).trans ((congr (congr (congrArg (fun r0 r1 r2 => Q40.s2 N r_ p_ r0 r1 r2 t66_ t69_ t70_ t71_) e0) e1) e2).trans (Q40.l2_s N r_ p_ n t66_ t69_ t70_ t71_).symm))
  exact ⟨g0, g1, g2⟩
theorem Q40.ok : FnOk Tryz.prog 40 (Q40.D N) := by
 refine FnOk_of tb_ok (Checked.mixed Tryz.checked) ⟨Tryz.f40, Tryz.func40, by kernel_rfl, by kernel_rfl, fun x y h => ⟨Q40.G N, Q40.A, N, gamOf_ok (gc ⟨Q29.ok N, Q29.fit N⟩ gn), ?_⟩⟩ (Q40.fit N)
 rw [absFn_n (n0 := 0) rfl (by kernel_rfl)]
 refine (Q40.entry N (run tb (Q40.G N) Q40.A 0 (Q40.fin N) N) x).trans ?_
 have e0 : (fun (t49_ : Int) => run tb (Q40.G N) Q40.A 0 (Q40.fin N) N Q40.k0 (Q40.st0 x.1 x.2.1 t49_)) = Q40.l0 N x.1 x.2.1 N := by funext t49_; exact (Q40.runs N x.1 x.2.1 N).1 t49_
 have e1 : (fun (t66_ : Int) => run tb (Q40.G N) Q40.A 0 (Q40.fin N) N Q40.k1 (Q40.st1 x.1 x.2.1 t66_)) = Q40.l1 N x.1 x.2.1 N := by funext t66_; exact (Q40.runs N x.1 x.2.1 N).2.1 t66_
 have e2 : (fun (t66_ : Int) (t69_ : LInt) (t70_ t71_ : Int) => run tb (Q40.G N) Q40.A 0 (Q40.fin N) N Q40.k2 (Q40.st2 x.1 x.2.1 t66_ t69_ t70_ t71_)) = Q40.l2 N x.1 x.2.1 N := by funext t66_ t69_ t70_ t71_; exact (Q40.runs N x.1 x.2.1 N).2.2 t66_ t69_ t70_ t71_
 have h' : (Q40.D N).f x = Q40.e N (Q40.l0 N x.1 x.2.1 N) (Q40.l1 N x.1 x.2.1 N) (Q40.l2 N x.1 x.2.1 N) x.1 x.2.1 := by kernel_rfl
 exact (congr (congr (congrArg (fun r0 r1 r2 => Q40.e N r0 r1 r2 x.1 x.2.1) e0) e1) e2).trans (h'.symm.trans h)
def Q103.as : List MK := [.d false tI]
def Q103.rs : List (Bool × HT) := [(false, (.d (.int .u64)))]
def Q103.lc : List AC := []
def Q103.D : DFn := ⟨Q103.as, Q103.rs, Int, fun x => Q103 N x.1, fun r o => r.1, fun b => (b, ()), fun b => (), none⟩
theorem Q103.fit : (Q103.D N).Fit := ⟨fun _ _ => rfl, fun _ _ => rfl, by kernel_rfl, (fun _ _ h => nomatch h), by kernel_rfl⟩
noncomputable def Q103.G (N : Nat) : Gam := gamOf []
def Q103.A : LA := fun _ => none
noncomputable def Q103.fin : St → Option Int := resK tb Tryz.f103.results.toList (decRes (Q103.D N) Q103.lc)
theorem Q103.entry (rec : RK Int) (x : (argH Q103.as).den) : seg tb (Q103.G N) Q103.A 0 rec (Q103.fin N) segFuel [.code (bodyOf Tryz.f103)] (initSt Tryz.f103 (encArgs Q103.as x) (encMem Q103.as x)) = Q103.e N x.1 := by kernel_rfl
theorem Q103.ok : FnOk Tryz.prog 103 (Q103.D N) := by
 refine FnOk_of tb_ok (Checked.mixed Tryz.checked) ⟨Tryz.f103, Tryz.func103, by kernel_rfl, by kernel_rfl, fun x y h => ⟨Q103.G N, Q103.A, N, gamOf_ok (fun p hp => nomatch hp), ?_⟩⟩ (Q103.fit N)
 rw [absFn_n (n0 := 0) rfl (by kernel_rfl)]
 exact (Q103.entry N _ x).trans h
def Q85.as : List MK := [.d false tI]
def Q85.rs : List (Bool × HT) := [(false, (.d (.int .u64)))]
def Q85.lc : List AC := []
def Q85.D : DFn := ⟨Q85.as, Q85.rs, Int, fun x => Q85 N x.1, fun r o => r.1, fun b => (b, ()), fun b => (), none⟩
theorem Q85.fit : (Q85.D N).Fit := ⟨fun _ _ => rfl, fun _ _ => rfl, by kernel_rfl, (fun _ _ h => nomatch h), by kernel_rfl⟩
noncomputable def Q85.G : Gam := gamOf [(103, Q103.D N)]
def Q85.A : LA := fun _ => none
noncomputable def Q85.fin : St → Option Int := resK tb Tryz.f85.results.toList (decRes (Q85.D N) Q85.lc)
theorem Q85.entry (rec : RK Int) (x : (argH Q85.as).den) : seg tb (Q85.G N) Q85.A 0 rec (Q85.fin N) segFuel [.code (bodyOf Tryz.f85)] (initSt Tryz.f85 (encArgs Q85.as x) (encMem Q85.as x)) = Q85.e N x.1 := by kernel_rfl
theorem Q85.ok : FnOk Tryz.prog 85 (Q85.D N) := by
 refine FnOk_of tb_ok (Checked.mixed Tryz.checked) ⟨Tryz.f85, Tryz.func85, by kernel_rfl, by kernel_rfl, fun x y h => ⟨Q85.G N, Q85.A, N, gamOf_ok (gc ⟨Q103.ok N, Q103.fit N⟩ gn), ?_⟩⟩ (Q85.fit N)
 rw [absFn_n (n0 := 0) rfl (by kernel_rfl)]
 exact (Q85.entry N _ x).trans h
def Q86.as : List MK := [.d false tI, .d false tI]
def Q86.rs : List (Bool × HT) := [(false, (.d (.int .u64)))]
def Q86.lc : List AC := []
def Q86.D : DFn := ⟨Q86.as, Q86.rs, Int, fun x => Q86 N x.1 x.2.1, fun r o => r.1, fun b => (b, ()), fun b => (), none⟩
theorem Q86.fit : (Q86.D N).Fit := ⟨fun _ _ => rfl, fun _ _ => rfl, by kernel_rfl, (fun _ _ h => nomatch h), by kernel_rfl⟩
noncomputable def Q86.G : Gam := gamOf [(103, Q103.D N)]
def Q86.A : LA := fun _ => none
noncomputable def Q86.fin : St → Option Int := resK tb Tryz.f86.results.toList (decRes (Q86.D N) Q86.lc)
theorem Q86.entry (rec : RK Int) (x : (argH Q86.as).den) : seg tb (Q86.G N) Q86.A 0 rec (Q86.fin N) segFuel [.code (bodyOf Tryz.f86)] (initSt Tryz.f86 (encArgs Q86.as x) (encMem Q86.as x)) = Q86.e N x.1 x.2.1 := by kernel_rfl
theorem Q86.ok : FnOk Tryz.prog 86 (Q86.D N) := by
 refine FnOk_of tb_ok (Checked.mixed Tryz.checked) ⟨Tryz.f86, Tryz.func86, by kernel_rfl, by kernel_rfl, fun x y h => ⟨Q86.G N, Q86.A, N, gamOf_ok (gc ⟨Q103.ok N, Q103.fit N⟩ gn), ?_⟩⟩ (Q86.fit N)
 rw [absFn_n (n0 := 0) rfl (by kernel_rfl)]
 exact (Q86.entry N _ x).trans h
def Q87.as : List MK := [.d false tI, .d false tI, .d false tI]
def Q87.rs : List (Bool × HT) := [(false, (.d (.int .u64)))]
def Q87.lc : List AC := []
def Q87.D : DFn := ⟨Q87.as, Q87.rs, Int, fun x => Q87 N x.1 x.2.1 x.2.2.1, fun r o => r.1, fun b => (b, ()), fun b => (), none⟩
theorem Q87.fit : (Q87.D N).Fit := ⟨fun _ _ => rfl, fun _ _ => rfl, by kernel_rfl, (fun _ _ h => nomatch h), by kernel_rfl⟩
noncomputable def Q87.G : Gam := gamOf [(103, Q103.D N)]
def Q87.A : LA := fun _ => none
noncomputable def Q87.fin : St → Option Int := resK tb Tryz.f87.results.toList (decRes (Q87.D N) Q87.lc)
theorem Q87.entry (rec : RK Int) (x : (argH Q87.as).den) : seg tb (Q87.G N) Q87.A 0 rec (Q87.fin N) segFuel [.code (bodyOf Tryz.f87)] (initSt Tryz.f87 (encArgs Q87.as x) (encMem Q87.as x)) = Q87.e N x.1 x.2.1 x.2.2.1 := by kernel_rfl
theorem Q87.ok : FnOk Tryz.prog 87 (Q87.D N) := by
 refine FnOk_of tb_ok (Checked.mixed Tryz.checked) ⟨Tryz.f87, Tryz.func87, by kernel_rfl, by kernel_rfl, fun x y h => ⟨Q87.G N, Q87.A, N, gamOf_ok (gc ⟨Q103.ok N, Q103.fit N⟩ gn), ?_⟩⟩ (Q87.fit N)
 rw [absFn_n (n0 := 0) rfl (by kernel_rfl)]
 exact (Q87.entry N _ x).trans h
def Q64.as : List MK := [.d true qc]
def Q64.rs : List (Bool × HT) := [(false, (.d (.int .u64)))]
def Q64.lc : List AC := []
def Q64.D : DFn := ⟨Q64.as, Q64.rs, Int, fun x => Q64 N x.1, fun r o => r.1, fun b => (b, ()), fun b => (), none⟩
theorem Q64.fit : (Q64.D N).Fit := ⟨fun _ _ => rfl, fun _ _ => rfl, by kernel_rfl, (fun _ _ h => nomatch h), by kernel_rfl⟩
noncomputable def Q64.G : Gam := gamOf [(85, Q85.D N), (86, Q86.D N), (87, Q87.D N)]
def Q64.A : LA := fun k => bif Nat.beq k 0 then some ⟨[1, 3, 14, 15, 16], [], [], [], [], 1, false⟩ else bif Nat.beq k 2 then some ⟨[3, 28, 29], [], [], [], [], 0, false⟩ else bif Nat.beq k 4 then some ⟨[3, 6, 28, 29, 33, 34, 35], [], [], [], [], 0, false⟩ else none
noncomputable def Q64.fin : St → Option Int := resK tb Tryz.f64.results.toList (decRes (Q64.D N) Q64.lc)
noncomputable def Q64.k0 : List Item := stackAt [.r, .r, .l, .r, .b] (bodyOf Tryz.f64) []
def Q64.st0 (p_ : TPos) (k_ t16_ : Int) : St := ⟨[oA, .one (.ptr 0 0), oA, .one (.int .u64 k_)] ++ rA 10 ++ [.one (.fro 3 tI p_.1), oi (p_.1.length : Int), oi t16_] ++ rA 32, [vP p_]⟩
noncomputable def Q64.k1 : List Item := stackAt [.r, .r, .r, .l, .r, .b] (bodyOf Tryz.f64) []
def Q64.st1 (p_ : TPos) (k_ t29_ : Int) : St := ⟨rA 3 ++ [.one (.int .u64 k_)] ++ rA 24 ++ [.agg [.fro 3 tI p_.2.1.1, .fro 3 tI p_.2.1.2], oi t29_] ++ rA 19, []⟩
noncomputable def Q64.k2 : List Item := stackAt [.r, .r, .r, .l, .r, .b, .w, .r, .r, .l, .b, .r, .r, .b] (bodyOf Tryz.f64) []
def Q64.st2 (p_ : TPos) (k_ o_ t29_ : Int) (t33_ : LInt) (t34_ t35_ : Int) : St := ⟨rA 3 ++ [.one (.int .u64 k_), oA, oA, oi o_] ++ rA 21 ++ [.agg [.fro 3 tI p_.2.1.1, .fro 3 tI p_.2.1.2], oi t29_] ++ rA 3 ++ [.one (.fro 3 tI t33_), oi t34_, oi t35_] ++ rA 13, []⟩
theorem Q64.step0 (rec : RK Int) (p_ : TPos) (k_ t16_ : Int) : seg tb (Q64.G N) Q64.A 0 rec (Q64.fin N) segFuel (loopBody Q64.k0) (Q64.st0 p_ k_ t16_) = Q64.s0 N p_ (fun k_ t16_ => rec Q64.k0 (Q64.st0 p_ k_ t16_)) (fun k_ t29_ => rec Q64.k1 (Q64.st1 p_ k_ t29_)) (fun k_ o_ t29_ t33_ t34_ t35_ => rec Q64.k2 (Q64.st2 p_ k_ o_ t29_ t33_ t34_ t35_)) k_ t16_ := by kernel_rfl
theorem Q64.step1 (rec : RK Int) (p_ : TPos) (k_ t29_ : Int) : seg tb (Q64.G N) Q64.A 0 rec (Q64.fin N) segFuel (loopBody Q64.k1) (Q64.st1 p_ k_ t29_) = Q64.s1 N p_ (fun k_ t16_ => rec Q64.k0 (Q64.st0 p_ k_ t16_)) (fun k_ t29_ => rec Q64.k1 (Q64.st1 p_ k_ t29_)) (fun k_ o_ t29_ t33_ t34_ t35_ => rec Q64.k2 (Q64.st2 p_ k_ o_ t29_ t33_ t34_ t35_)) k_ t29_ := by kernel_rfl
theorem Q64.step2 (rec : RK Int) (p_ : TPos) (k_ o_ t29_ : Int) (t33_ : LInt) (t34_ t35_ : Int) : seg tb (Q64.G N) Q64.A 0 rec (Q64.fin N) segFuel (loopBody Q64.k2) (Q64.st2 p_ k_ o_ t29_ t33_ t34_ t35_) = Q64.s2 N p_ (fun k_ t16_ => rec Q64.k0 (Q64.st0 p_ k_ t16_)) (fun k_ t29_ => rec Q64.k1 (Q64.st1 p_ k_ t29_)) (fun k_ o_ t29_ t33_ t34_ t35_ => rec Q64.k2 (Q64.st2 p_ k_ o_ t29_ t33_ t34_ t35_)) k_ o_ t29_ t33_ t34_ t35_ := by kernel_rfl
theorem Q64.entry (rec : RK Int) (x : (argH Q64.as).den) : seg tb (Q64.G N) Q64.A 0 rec (Q64.fin N) segFuel [.code (bodyOf Tryz.f64)] (initSt Tryz.f64 (encArgs Q64.as x) (encMem Q64.as x)) = Q64.e N (fun k_ t16_ => rec Q64.k0 (Q64.st0 x.1 k_ t16_)) (fun k_ t29_ => rec Q64.k1 (Q64.st1 x.1 k_ t29_)) (fun k_ o_ t29_ t33_ t34_ t35_ => rec Q64.k2 (Q64.st2 x.1 k_ o_ t29_ t33_ t34_ t35_)) x.1 := by kernel_rfl
theorem Q64.runs (N : Nat) (p_ : TPos) : ∀ n, (∀ (k_ t16_ : Int), run tb (Q64.G N) Q64.A 0 (Q64.fin N) n Q64.k0 (Q64.st0 p_ k_ t16_) = Q64.l0 N p_ n k_ t16_) ∧ (∀ (k_ t29_ : Int), run tb (Q64.G N) Q64.A 0 (Q64.fin N) n Q64.k1 (Q64.st1 p_ k_ t29_) = Q64.l1 N p_ n k_ t29_) ∧ (∀ (k_ o_ t29_ : Int) (t33_ : LInt) (t34_ t35_ : Int), run tb (Q64.G N) Q64.A 0 (Q64.fin N) n Q64.k2 (Q64.st2 p_ k_ o_ t29_ t33_ t34_ t35_) = Q64.l2 N p_ n k_ o_ t29_ t33_ t34_ t35_)
 | 0 => ⟨fun _ _ => rfl, fun _ _ => rfl, fun _ _ _ _ _ _ => rfl⟩
 | n + 1 => by
  obtain ⟨h0, h1, h2⟩ := Q64.runs N p_ n
  have e0 : (fun (k_ t16_ : Int) => run tb (Q64.G N) Q64.A 0 (Q64.fin N) n Q64.k0 (Q64.st0 p_ k_ t16_)) = Q64.l0 N p_ n := by funext k_ t16_; exact h0 k_ t16_
  have e1 : (fun (k_ t29_ : Int) => run tb (Q64.G N) Q64.A 0 (Q64.fin N) n Q64.k1 (Q64.st1 p_ k_ t29_)) = Q64.l1 N p_ n := by funext k_ t29_; exact h1 k_ t29_
  have e2 : (fun (k_ o_ t29_ : Int) (t33_ : LInt) (t34_ t35_ : Int) => run tb (Q64.G N) Q64.A 0 (Q64.fin N) n Q64.k2 (Q64.st2 p_ k_ o_ t29_ t33_ t34_ t35_)) = Q64.l2 N p_ n := by funext k_ o_ t29_ t33_ t34_ t35_; exact h2 k_ o_ t29_ t33_ t34_ t35_
  have g0 : (∀ (k_ t16_ : Int), run tb (Q64.G N) Q64.A 0 (Q64.fin N) (n + 1) Q64.k0 (Q64.st0 p_ k_ t16_) = Q64.l0 N p_ (n + 1) k_ t16_) := by
   intro k_ t16_
   exact (run_succ (by kernel_rfl)).trans ((Q64.step0 N _ p_ k_ t16_).trans ((congr (congr (congrArg (fun r0 r1 r2 => Q64.s0 N p_ r0 r1 r2 k_ t16_) e0) e1) e2).trans (Q64.l0_s N p_ n k_ t16_).symm))
  have g1 : (∀ (k_ t29_ : Int), run tb (Q64.G N) Q64.A 0 (Q64.fin N) (n + 1) Q64.k1 (Q64.st1 p_ k_ t29_) = Q64.l1 N p_ (n + 1) k_ t29_) := by
   intro k_ t29_
   exact (run_succ (by kernel_rfl)).trans ((Q64.step1 N _ p_ k_ t29_).trans ((congr (congr (congrArg (fun r0 r1 r2 => Q64.s1 N p_ r0 r1 r2 k_ t29_) e0) e1) e2).trans (Q64.l1_s N p_ n k_ t29_).symm))
  have g2 : (∀ (k_ o_ t29_ : Int) (t33_ : LInt) (t34_ t35_ : Int), run tb (Q64.G N) Q64.A 0 (Q64.fin N) (n + 1) Q64.k2 (Q64.st2 p_ k_ o_ t29_ t33_ t34_ t35_) = Q64.l2 N p_ (n + 1) k_ o_ t29_ t33_ t34_ t35_) := by
   intro k_ o_ t29_ t33_ t34_ t35_
   exact (run_succ (by kernel_rfl)).trans ((Q64.step2 N _ p_ k_ o_ t29_ t33_ t34_ t35_).trans ((congr (congr (congrArg (fun r0 r1 r2 => Q64.s2 N p_ r0 r1 r2 k_ o_ t29_ t33_ t34_ t35_) e0) e1) e2).trans (Q64.l2_s N p_ n k_ o_ t29_ t33_ t34_ t35_).symm))
  exact ⟨g0, g1, g2⟩
theorem Q64.ok : FnOk Tryz.prog 64 (Q64.D N) := by
 refine FnOk_of tb_ok (Checked.mixed Tryz.checked) ⟨Tryz.f64, Tryz.func64, by kernel_rfl, by kernel_rfl, fun x y h => ⟨Q64.G N, Q64.A, N, gamOf_ok (gc ⟨Q85.ok N, Q85.fit N⟩ (gc ⟨Q86.ok N, Q86.fit N⟩ (gc ⟨Q87.ok N, Q87.fit N⟩ gn))), ?_⟩⟩ (Q64.fit N)
 rw [absFn_n (n0 := 0) rfl (by kernel_rfl)]
 refine (Q64.entry N (run tb (Q64.G N) Q64.A 0 (Q64.fin N) N) x).trans ?_
 have e0 : (fun (k_ t16_ : Int) => run tb (Q64.G N) Q64.A 0 (Q64.fin N) N Q64.k0 (Q64.st0 x.1 k_ t16_)) = Q64.l0 N x.1 N := by funext k_ t16_; exact (Q64.runs N x.1 N).1 k_ t16_
 have e1 : (fun (k_ t29_ : Int) => run tb (Q64.G N) Q64.A 0 (Q64.fin N) N Q64.k1 (Q64.st1 x.1 k_ t29_)) = Q64.l1 N x.1 N := by funext k_ t29_; exact (Q64.runs N x.1 N).2.1 k_ t29_
 have e2 : (fun (k_ o_ t29_ : Int) (t33_ : LInt) (t34_ t35_ : Int) => run tb (Q64.G N) Q64.A 0 (Q64.fin N) N Q64.k2 (Q64.st2 x.1 k_ o_ t29_ t33_ t34_ t35_)) = Q64.l2 N x.1 N := by funext k_ o_ t29_ t33_ t34_ t35_; exact (Q64.runs N x.1 N).2.2 k_ o_ t29_ t33_ t34_ t35_
 have h' : (Q64.D N).f x = Q64.e N (Q64.l0 N x.1 N) (Q64.l1 N x.1 N) (Q64.l2 N x.1 N) x.1 := by kernel_rfl
 exact (congr (congr (congrArg (fun r0 r1 r2 => Q64.e N r0 r1 r2 x.1) e0) e1) e2).trans (h'.symm.trans h)
def Q36.as : List MK := [.d true qa, .d true qc]
def Q36.rs : List (Bool × HT) := [(false, (.opt 131 (.prod (.prod (.d .str) (.prod (.d tI) (.prod (.d tI) (.prod (.own 89 qb) (.prod (.own 3 tI) (.prod (.d .bool) (.prod (.d .bool) (.prod (.own 91 qe) (.d qd))))))))) (.prod (.prod (.own 3 tI) (.prod (.prod (.own 3 tI) (.own 3 tI)) (.d (.prod tI tI)))) (.prod (.d (.int .u64)) (.own 157 qf)))))), (false, (.d tI))]
def Q36.lc : List AC := []
def Q36.D : DFn := ⟨Q36.as, Q36.rs, ((Option TBoard) × Int), fun x => Q36 N x.1 x.2.1, fun r o => (r.1, r.2.1), fun b => (b.1, (b.2, ())), fun b => (), none⟩
theorem Q36.fit : (Q36.D N).Fit := ⟨fun _ _ => rfl, fun _ _ => rfl, by kernel_rfl, (fun _ _ h => nomatch h), by kernel_rfl⟩
noncomputable def Q36.G : Gam := gamOf [(40, Q40.D N), (19, Q19.D N), (18, Q18.D N), (64, Q64.D N)]
def Q36.A : LA := fun _ => none
noncomputable def Q36.fin : St → Option ((Option TBoard) × Int) := resK tb Tryz.f36.results.toList (decRes (Q36.D N) Q36.lc)
theorem Q36.entry (rec : RK ((Option TBoard) × Int)) (x : (argH Q36.as).den) : seg tb (Q36.G N) Q36.A 0 rec (Q36.fin N) segFuel [.code (bodyOf Tryz.f36)] (initSt Tryz.f36 (encArgs Q36.as x) (encMem Q36.as x)) = Q36.e N x.1 x.2.1 := by kernel_rfl
theorem Q36.ok : FnOk Tryz.prog 36 (Q36.D N) := by
 refine FnOk_of tb_ok (Checked.mixed Tryz.checked) ⟨Tryz.f36, Tryz.func36, by kernel_rfl, by kernel_rfl, fun x y h => ⟨Q36.G N, Q36.A, N, gamOf_ok (gc ⟨Q40.ok N, Q40.fit N⟩ (gc ⟨Q19.ok N, Q19.fit N⟩ (gc ⟨Q18.ok N, Q18.fit N⟩ (gc ⟨Q64.ok N, Q64.fit N⟩ gn)))), ?_⟩⟩ (Q36.fit N)
 rw [absFn_n (n0 := 0) rfl (by kernel_rfl)]
 exact (Q36.entry N _ x).trans h
def Q83.as : List MK := [.d true qa, .d true qc, .d false tI]
def Q83.rs : List (Bool × HT) := [(false, (.opt 131 (.prod (.prod (.d .str) (.prod (.d tI) (.prod (.d tI) (.prod (.own 89 qb) (.prod (.own 3 tI) (.prod (.d .bool) (.prod (.d .bool) (.prod (.own 91 qe) (.d qd))))))))) (.prod (.prod (.own 3 tI) (.prod (.prod (.own 3 tI) (.own 3 tI)) (.d (.prod tI tI)))) (.prod (.d (.int .u64)) (.own 157 qf)))))), (false, (.d tI))]
def Q83.lc : List AC := []
def Q83.D : DFn := ⟨Q83.as, Q83.rs, ((Option TBoard) × Int), fun x => Q83 N x.1 x.2.1 x.2.2.1, fun r o => (r.1, r.2.1), fun b => (b.1, (b.2, ())), fun b => (), none⟩
theorem Q83.fit : (Q83.D N).Fit := ⟨fun _ _ => rfl, fun _ _ => rfl, by kernel_rfl, (fun _ _ h => nomatch h), by kernel_rfl⟩
noncomputable def Q83.G : Gam := gamOf [(36, Q36.D N)]
def Q83.A : LA := fun _ => none
noncomputable def Q83.fin : St → Option ((Option TBoard) × Int) := resK tb Tryz.f83.results.toList (decRes (Q83.D N) Q83.lc)
theorem Q83.entry (rec : RK ((Option TBoard) × Int)) (x : (argH Q83.as).den) : seg tb (Q83.G N) Q83.A 0 rec (Q83.fin N) segFuel [.code (bodyOf Tryz.f83)] (initSt Tryz.f83 (encArgs Q83.as x) (encMem Q83.as x)) = Q83.e N x.1 x.2.1 x.2.2.1 := by kernel_rfl
theorem Q83.ok : FnOk Tryz.prog 83 (Q83.D N) := by
 refine FnOk_of tb_ok (Checked.mixed Tryz.checked) ⟨Tryz.f83, Tryz.func83, by kernel_rfl, by kernel_rfl, fun x y h => ⟨Q83.G N, Q83.A, N, gamOf_ok (gc ⟨Q36.ok N, Q36.fit N⟩ gn), ?_⟩⟩ (Q83.fit N)
 rw [absFn_n (n0 := 0) rfl (by kernel_rfl)]
 exact (Q83.entry N _ x).trans h
def Q65.as : List MK := [.r (.prod qa (.prod qc (.prod (.int .u64) (.slice 157 qf))))]
def Q65.rs : List (Bool × HT) := [(false, (.d tI))]
def Q65.lc : List AC := []
def Q65.D : DFn := ⟨Q65.as, Q65.rs, Int, fun x => Q65 N x.1, fun r o => r.1, fun b => (b, ()), fun b => (), none⟩
theorem Q65.fit : (Q65.D N).Fit := ⟨fun _ _ => rfl, fun _ _ => rfl, by kernel_rfl, (fun _ _ h => nomatch h), by kernel_rfl⟩
noncomputable def Q65.G : Gam := gamOf [(32, Q32.D N)]
def Q65.A : LA := fun _ => none
noncomputable def Q65.fin : St → Option Int := resK tb Tryz.f65.results.toList (decRes (Q65.D N) Q65.lc)
theorem Q65.entry (rec : RK Int) (x : (argH Q65.as).den) : seg tb (Q65.G N) Q65.A 0 rec (Q65.fin N) segFuel [.code (bodyOf Tryz.f65)] (initSt Tryz.f65 (encArgs Q65.as x) (encMem Q65.as x)) = Q65.e N x.1 := by kernel_rfl
theorem Q65.ok : FnOk Tryz.prog 65 (Q65.D N) := by
 refine FnOk_of tb_ok (Checked.mixed Tryz.checked) ⟨Tryz.f65, Tryz.func65, by kernel_rfl, by kernel_rfl, fun x y h => ⟨Q65.G N, Q65.A, N, gamOf_ok (gc ⟨Q32.ok N, Q32.fit N⟩ gn), ?_⟩⟩ (Q65.fit N)
 rw [absFn_n (n0 := 0) rfl (by kernel_rfl)]
 exact (Q65.entry N _ x).trans h
def Q68.as : List MK := [.r (.prod qa (.prod qc (.prod (.int .u64) (.slice 157 qf))))]
def Q68.rs : List (Bool × HT) := [(false, (.own 80 qd))]
def Q68.lc : List AC := []
def Q68.D : DFn := ⟨Q68.as, Q68.rs, LMv, fun x => Q68 N x.1, fun r o => r.1, fun b => (b, ()), fun b => (), none⟩
theorem Q68.fit : (Q68.D N).Fit := ⟨fun _ _ => rfl, fun _ _ => rfl, by kernel_rfl, (fun _ _ h => nomatch h), by kernel_rfl⟩
noncomputable def Q68.G : Gam := gamOf [(65, Q65.D N), (33, Q33.D N)]
def Q68.A : LA := fun _ => none
noncomputable def Q68.fin : St → Option LMv := resK tb Tryz.f68.results.toList (decRes (Q68.D N) Q68.lc)
theorem Q68.entry (rec : RK LMv) (x : (argH Q68.as).den) : seg tb (Q68.G N) Q68.A 0 rec (Q68.fin N) segFuel [.code (bodyOf Tryz.f68)] (initSt Tryz.f68 (encArgs Q68.as x) (encMem Q68.as x)) = Q68.e N x.1 := by kernel_rfl
theorem Q68.ok : FnOk Tryz.prog 68 (Q68.D N) := by
 refine FnOk_of tb_ok (Checked.mixed Tryz.checked) ⟨Tryz.f68, Tryz.func68, by kernel_rfl, by kernel_rfl, fun x y h => ⟨Q68.G N, Q68.A, N, gamOf_ok (gc ⟨Q65.ok N, Q65.fit N⟩ (gc ⟨Q33.ok N, Q33.fit N⟩ gn)), ?_⟩⟩ (Q68.fit N)
 rw [absFn_n (n0 := 0) rfl (by kernel_rfl)]
 exact (Q68.entry N _ x).trans h
def Q88.as : List MK := [.d true qa, .d true qc, .d true qd, .d false (.int .u64)]
def Q88.rs : List (Bool × HT) := [(false, (.d (.int .u64)))]
def Q88.lc : List AC := []
def Q88.D : DFn := ⟨Q88.as, Q88.rs, Int, fun x => Q88 N x.1 x.2.1 x.2.2.1 x.2.2.2.1, fun r o => r.1, fun b => (b, ()), fun b => (), none⟩
theorem Q88.fit : (Q88.D N).Fit := ⟨fun _ _ => rfl, fun _ _ => rfl, by kernel_rfl, (fun _ _ h => nomatch h), by kernel_rfl⟩
noncomputable def Q88.G : Gam := gamOf [(85, Q85.D N), (87, Q87.D N), (86, Q86.D N), (44, Q44.D N), (45, Q45.D N)]
def Q88.A : LA := fun _ => none
noncomputable def Q88.fin : St → Option Int := resK tb Tryz.f88.results.toList (decRes (Q88.D N) Q88.lc)
theorem Q88.entry (rec : RK Int) (x : (argH Q88.as).den) : seg tb (Q88.G N) Q88.A 0 rec (Q88.fin N) segFuel [.code (bodyOf Tryz.f88)] (initSt Tryz.f88 (encArgs Q88.as x) (encMem Q88.as x)) = Q88.e N x.1 x.2.1 x.2.2.1 x.2.2.2.1 := by kernel_rfl
theorem Q88.ok : FnOk Tryz.prog 88 (Q88.D N) := by
 refine FnOk_of tb_ok (Checked.mixed Tryz.checked) ⟨Tryz.f88, Tryz.func88, by kernel_rfl, by kernel_rfl, fun x y h => ⟨Q88.G N, Q88.A, N, gamOf_ok (gc ⟨Q85.ok N, Q85.fit N⟩ (gc ⟨Q87.ok N, Q87.fit N⟩ (gc ⟨Q86.ok N, Q86.fit N⟩ (gc ⟨Q44.ok N, Q44.fit N⟩ (gc ⟨Q45.ok N, Q45.fit N⟩ gn))))), ?_⟩⟩ (Q88.fit N)
 rw [absFn_n (n0 := 0) rfl (by kernel_rfl)]
 exact (Q88.entry N _ x).trans h
def Q69.as : List MK := [.o (.ptr 131 (.prod (.prod (.d .str) (.prod (.d tI) (.prod (.d tI) (.prod (.own 89 qb) (.prod (.own 3 tI) (.prod (.d .bool) (.prod (.d .bool) (.prod (.own 91 qe) (.d qd))))))))) (.prod (.prod (.own 3 tI) (.prod (.prod (.own 3 tI) (.own 3 tI)) (.d (.prod tI tI)))) (.prod (.d (.int .u64)) (.own 157 qf))))) true, .d true qd]
def Q69.rs : List (Bool × HT) := []
def Q69.lc : List AC := [.ptr 0 0]
def Q69.D : DFn := ⟨Q69.as, Q69.rs, TBoard, fun x => Q69 N x.1 x.2.1, fun r o => o.1, fun b => (), fun b => (b, ()), none⟩
theorem Q69.fit : (Q69.D N).Fit := ⟨fun _ _ => rfl, fun _ _ => rfl, by kernel_rfl, (fun _ _ h => nomatch h), by kernel_rfl⟩
noncomputable def Q69.G : Gam := gamOf [(88, Q88.D N), (44, Q44.D N), (45, Q45.D N)]
def Q69.A : LA := fun _ => none
noncomputable def Q69.fin : St → Option TBoard := resK tb Tryz.f69.results.toList (decRes (Q69.D N) Q69.lc)
theorem Q69.entry (rec : RK TBoard) (x : (argH Q69.as).den) : seg tb (Q69.G N) Q69.A 8 rec (Q69.fin N) segFuel [.code (bodyOf Tryz.f69)] (initSt Tryz.f69 (encArgs Q69.as x) (encMem Q69.as x)) = Q69.e N x.1 x.2.1 := by kernel_rfl
theorem Q69.ok : FnOk Tryz.prog 69 (Q69.D N) := by
 refine FnOk_of tb_ok (Checked.mixed Tryz.checked) ⟨Tryz.f69, Tryz.func69, by kernel_rfl, by kernel_rfl, fun x y h => ⟨Q69.G N, Q69.A, N, gamOf_ok (gc ⟨Q88.ok N, Q88.fit N⟩ (gc ⟨Q44.ok N, Q44.fit N⟩ (gc ⟨Q45.ok N, Q45.fit N⟩ gn))), ?_⟩⟩ (Q69.fit N)
 rw [absFn_n (n0 := 8) rfl (by kernel_rfl)]
 exact (Q69.entry N _ x).trans h
def Q71.as : List MK := [.o (.ptr 131 (.prod (.prod (.d .str) (.prod (.d tI) (.prod (.d tI) (.prod (.own 89 qb) (.prod (.own 3 tI) (.prod (.d .bool) (.prod (.d .bool) (.prod (.own 91 qe) (.d qd))))))))) (.prod (.prod (.own 3 tI) (.prod (.prod (.own 3 tI) (.own 3 tI)) (.d (.prod tI tI)))) (.prod (.d (.int .u64)) (.own 157 qf))))) true]
def Q71.rs : List (Bool × HT) := [(false, (.d tI))]
def Q71.lc : List AC := [.ptr 0 0]
def Q71.D : DFn := ⟨Q71.as, Q71.rs, (Int × TBoard), fun x => Q71 N x.1, fun r o => (r.1, o.1), fun b => (b.1, ()), fun b => (b.2, ()), none⟩
theorem Q71.fit : (Q71.D N).Fit := ⟨fun _ _ => rfl, fun _ _ => rfl, by kernel_rfl, (fun _ _ h => nomatch h), by kernel_rfl⟩
noncomputable def Q71.G : Gam := gamOf [(44, Q44.D N)]
def Q71.A : LA := fun _ => none
noncomputable def Q71.fin : St → Option (Int × TBoard) := resK tb Tryz.f71.results.toList (decRes (Q71.D N) Q71.lc)
theorem Q71.entry (rec : RK (Int × TBoard)) (x : (argH Q71.as).den) : seg tb (Q71.G N) Q71.A 8 rec (Q71.fin N) segFuel [.code (bodyOf Tryz.f71)] (initSt Tryz.f71 (encArgs Q71.as x) (encMem Q71.as x)) = Q71.e N x.1 := by kernel_rfl
theorem Q71.ok : FnOk Tryz.prog 71 (Q71.D N) := by
 refine FnOk_of tb_ok (Checked.mixed Tryz.checked) ⟨Tryz.f71, Tryz.func71, by kernel_rfl, by kernel_rfl, fun x y h => ⟨Q71.G N, Q71.A, N, gamOf_ok (gc ⟨Q44.ok N, Q44.fit N⟩ gn), ?_⟩⟩ (Q71.fit N)
 rw [absFn_n (n0 := 8) rfl (by kernel_rfl)]
 exact (Q71.entry N _ x).trans h
def Q84.as : List MK := [.o (.ptr 151 (.d tI)) true, .o (.ptr 131 (.prod (.prod (.d .str) (.prod (.d tI) (.prod (.d tI) (.prod (.own 89 qb) (.prod (.own 3 tI) (.prod (.d .bool) (.prod (.d .bool) (.prod (.own 91 qe) (.d qd))))))))) (.prod (.prod (.own 3 tI) (.prod (.prod (.own 3 tI) (.own 3 tI)) (.d (.prod tI tI)))) (.prod (.d (.int .u64)) (.own 157 qf))))) true, .d false tI]
def Q84.rs : List (Bool × HT) := [(false, (.d tI))]
def Q84.lc : List AC := [.ptr 0 0, .ptr 1 0]
def Q84.D : DFn := ⟨Q84.as, Q84.rs, (Int × Int × TBoard), fun x => Q84 N x.1 x.2.1 x.2.2.1, fun r o => (r.1, o.1, o.2.1), fun b => (b.1, ()), fun b => (b.2.1, (b.2.2, ())), none⟩
theorem Q84.fit : (Q84.D N).Fit := ⟨fun _ _ => rfl, fun _ _ => rfl, by kernel_rfl, (fun _ _ h => nomatch h), by kernel_rfl⟩
noncomputable def Q84.G : Gam := gamOf [(68, Q68.D N), (69, Q69.D N), (71, Q71.D N), (84, Q84.D N)]
def Q84.A : LA := fun k => bif Nat.beq k 0 then some ⟨[0, 1, 2, 7, 27, 28, 29], [], [], [(true, 1, 3, 10), (true, 1, 4, 11), (true, 1, 7, 12), (true, 1, 11, 13), (true, 1, 12, 14), (true, 1, 13, 15), (true, 1, 17, 16)], [], 17, false⟩ else none
noncomputable def Q84.fin : St → Option (Int × Int × TBoard) := resK tb Tryz.f84.results.toList (decRes (Q84.D (N + 1)) Q84.lc)
noncomputable def Q84.k0 : List Item := stackAt [.r, .r, .r, .l, .r, .b] (bodyOf Tryz.f84) []
def Q84.st0 (c_ : Int) (b_ : TBoard) (depth n_ t28_ t29_ c_2 : Int) (b_2 : ByteArray) (b_3 b_4 : Int) (b_5 b_6 : Bool) (b_7 b_8 b_9 b_10 b_11 b_12 : Int) (m9_ : LMv) (m10_ : (List TPiece)) (m11_ : LInt) (m12_ : (List TEnd)) (m13_ m14_ m15_ : LInt) (m16_ : (List TUndo)) : St := ⟨[.one (.ptr 0 0), .one (.ptr 1 0), oi depth] ++ rA 4 ++ [oi n_] ++ rA 19 ++ [.one (.own 9), oi t28_, oi t29_] ++ rA 22, [.var 151 [.int .i64 c_2], .var 131 [.str b_2, .int .i64 b_3, .int .i64 b_4, .own 10, .own 11, .bool b_5, .bool b_6, .own 12, .int .i64 b_7, .int .i64 b_8, .int .i64 b_9, .own 13, .own 14, .own 15, .int .i64 b_10, .int .i64 b_11, .int .u64 b_12, .own 16], .gone, .gone, .gone, .gone, .gone, .gone, .gone, .row 80 qd m9_, .row 89 qb m10_, .row 3 tI m11_, .row 91 qe m12_, .row 3 tI m13_, .row 3 tI m14_, .row 3 tI m15_, .row 157 qf m16_]⟩
theorem Q84.step0 (rec : RK (Int × Int × TBoard)) (c_ : Int) (b_ : TBoard) (depth n_ t28_ t29_ c_2 : Int) (b_2 : ByteArray) (b_3 b_4 : Int) (b_5 b_6 : Bool) (b_7 b_8 b_9 b_10 b_11 b_12 : Int) (m9_ : LMv) (m10_ : (List TPiece)) (m11_ : LInt) (m12_ : (List TEnd)) (m13_ m14_ m15_ : LInt) (m16_ : (List TUndo)) : seg tb (Q84.G N) Q84.A 9 rec (Q84.fin N) segFuel (loopBody Q84.k0) (Q84.st0 c_ b_ depth n_ t28_ t29_ c_2 b_2 b_3 b_4 b_5 b_6 b_7 b_8 b_9 b_10 b_11 b_12 m9_ m10_ m11_ m12_ m13_ m14_ m15_ m16_) = Q84.s0 N (Q84 N) c_ b_ depth (fun n_ t28_ t29_ c_2 b_2 b_3 b_4 b_5 b_6 b_7 b_8 b_9 b_10 b_11 b_12 m9_ m10_ m11_ m12_ m13_ m14_ m15_ m16_ => rec Q84.k0 (Q84.st0 c_ b_ depth n_ t28_ t29_ c_2 b_2 b_3 b_4 b_5 b_6 b_7 b_8 b_9 b_10 b_11 b_12 m9_ m10_ m11_ m12_ m13_ m14_ m15_ m16_)) n_ t28_ t29_ c_2 b_2 b_3 b_4 b_5 b_6 b_7 b_8 b_9 b_10 b_11 b_12 m9_ m10_ m11_ m12_ m13_ m14_ m15_ m16_ := by kernel_rfl
theorem Q84.entry (rec : RK (Int × Int × TBoard)) (x : (argH Q84.as).den) : seg tb (Q84.G N) Q84.A 9 rec (Q84.fin N) segFuel [.code (bodyOf Tryz.f84)] (initSt Tryz.f84 (encArgs Q84.as x) (encMem Q84.as x)) = Q84.e N (Q84 N) (fun n_ t28_ t29_ c_2 b_2 b_3 b_4 b_5 b_6 b_7 b_8 b_9 b_10 b_11 b_12 m9_ m10_ m11_ m12_ m13_ m14_ m15_ m16_ => rec Q84.k0 (Q84.st0 x.1 x.2.1 x.2.2.1 n_ t28_ t29_ c_2 b_2 b_3 b_4 b_5 b_6 b_7 b_8 b_9 b_10 b_11 b_12 m9_ m10_ m11_ m12_ m13_ m14_ m15_ m16_)) x.1 x.2.1 x.2.2.1 := by kernel_rfl
theorem Q84.runs (N : Nat) (c_ : Int) (b_ : TBoard) (depth : Int) : ∀ n, (∀ (n_ t28_ t29_ c_2 : Int) (b_2 : ByteArray) (b_3 b_4 : Int) (b_5 b_6 : Bool) (b_7 b_8 b_9 b_10 b_11 b_12 : Int) (m9_ : LMv) (m10_ : (List TPiece)) (m11_ : LInt) (m12_ : (List TEnd)) (m13_ m14_ m15_ : LInt) (m16_ : (List TUndo)), run tb (Q84.G N) Q84.A 9 (Q84.fin N) n Q84.k0 (Q84.st0 c_ b_ depth n_ t28_ t29_ c_2 b_2 b_3 b_4 b_5 b_6 b_7 b_8 b_9 b_10 b_11 b_12 m9_ m10_ m11_ m12_ m13_ m14_ m15_ m16_) = Q84.l0 N (Q84 N) c_ b_ depth n n_ t28_ t29_ c_2 b_2 b_3 b_4 b_5 b_6 b_7 b_8 b_9 b_10 b_11 b_12 m9_ m10_ m11_ m12_ m13_ m14_ m15_ m16_)
 | 0 => fun _ _ _ _ _ _ _ _ _ _ _ _ _ _ _ _ _ _ _ _ _ _ _ => rfl
 | n + 1 => by
  have h0 := Q84.runs N c_ b_ depth n
  have e0 : (fun (n_ t28_ t29_ c_2 : Int) (b_2 : ByteArray) (b_3 b_4 : Int) (b_5 b_6 : Bool) (b_7 b_8 b_9 b_10 b_11 b_12 : Int) (m9_ : LMv) (m10_ : (List TPiece)) (m11_ : LInt) (m12_ : (List TEnd)) (m13_ m14_ m15_ : LInt) (m16_ : (List TUndo)) => run tb (Q84.G N) Q84.A 9 (Q84.fin N) n Q84.k0 (Q84.st0 c_ b_ depth n_ t28_ t29_ c_2 b_2 b_3 b_4 b_5 b_6 b_7 b_8 b_9 b_10 b_11 b_12 m9_ m10_ m11_ m12_ m13_ m14_ m15_ m16_)) = Q84.l0 N (Q84 N) c_ b_ depth n := by funext n_ t28_ t29_ c_2 b_2 b_3 b_4 b_5 b_6 b_7 b_8 b_9 b_10 b_11 b_12 m9_ m10_ m11_ m12_ m13_ m14_ m15_ m16_; exact h0 n_ t28_ t29_ c_2 b_2 b_3 b_4 b_5 b_6 b_7 b_8 b_9 b_10 b_11 b_12 m9_ m10_ m11_ m12_ m13_ m14_ m15_ m16_
  have g0 : (∀ (n_ t28_ t29_ c_2 : Int) (b_2 : ByteArray) (b_3 b_4 : Int) (b_5 b_6 : Bool) (b_7 b_8 b_9 b_10 b_11 b_12 : Int) (m9_ : LMv) (m10_ : (List TPiece)) (m11_ : LInt) (m12_ : (List TEnd)) (m13_ m14_ m15_ : LInt) (m16_ : (List TUndo)), run tb (Q84.G N) Q84.A 9 (Q84.fin N) (n + 1) Q84.k0 (Q84.st0 c_ b_ depth n_ t28_ t29_ c_2 b_2 b_3 b_4 b_5 b_6 b_7 b_8 b_9 b_10 b_11 b_12 m9_ m10_ m11_ m12_ m13_ m14_ m15_ m16_) = Q84.l0 N (Q84 N) c_ b_ depth (n + 1) n_ t28_ t29_ c_2 b_2 b_3 b_4 b_5 b_6 b_7 b_8 b_9 b_10 b_11 b_12 m9_ m10_ m11_ m12_ m13_ m14_ m15_ m16_) := by
   intro n_ t28_ t29_ c_2 b_2 b_3 b_4 b_5 b_6 b_7 b_8 b_9 b_10 b_11 b_12 m9_ m10_ m11_ m12_ m13_ m14_ m15_ m16_
   exact (run_succ (by kernel_rfl)).trans ((Q84.step0 N _ c_ b_ depth n_ t28_ t29_ c_2 b_2 b_3 b_4 b_5 b_6 b_7 b_8 b_9 b_10 b_11 b_12 m9_ m10_ m11_ m12_ m13_ m14_ m15_ m16_).trans ((congrArg (fun r0 => Q84.s0 N (Q84 N) c_ b_ depth r0 n_ t28_ t29_ c_2 b_2 b_3 b_4 b_5 b_6 b_7 b_8 b_9 b_10 b_11 b_12 m9_ m10_ m11_ m12_ m13_ m14_ m15_ m16_) e0).trans (Q84.l0_s N (Q84 N) c_ b_ depth n n_ t28_ t29_ c_2 b_2 b_3 b_4 b_5 b_6 b_7 b_8 b_9 b_10 b_11 b_12 m9_ m10_ m11_ m12_ m13_ m14_ m15_ m16_).symm))
  exact g0
theorem Q84.ok1 (ih : FnOk Tryz.prog 84 (Q84.D N)) : FnOk Tryz.prog 84 (Q84.D (N + 1)) := by
 refine FnOk_of tb_ok (Checked.mixed Tryz.checked) ⟨Tryz.f84, Tryz.func84, by kernel_rfl, by kernel_rfl, fun x y h => ⟨Q84.G N, Q84.A, N, gamOf_ok (by simp only [List.forall_mem_cons, List.not_mem_nil, false_implies, implies_true, and_true]; exact ⟨⟨Q68.ok N, Q68.fit N⟩, ⟨Q69.ok N, Q69.fit N⟩, ⟨Q71.ok N, Q71.fit N⟩, ⟨ih, Q84.fit N⟩⟩), ?_⟩⟩ (Q84.fit (N + 1))
 rw [absFn_n (n0 := 9) rfl (by kernel_rfl)]
 refine (Q84.entry N (run tb (Q84.G N) Q84.A 9 (Q84.fin N) N) x).trans ?_
 have e0 : (fun (n_ t28_ t29_ c_2 : Int) (b_2 : ByteArray) (b_3 b_4 : Int) (b_5 b_6 : Bool) (b_7 b_8 b_9 b_10 b_11 b_12 : Int) (m9_ : LMv) (m10_ : (List TPiece)) (m11_ : LInt) (m12_ : (List TEnd)) (m13_ m14_ m15_ : LInt) (m16_ : (List TUndo)) => run tb (Q84.G N) Q84.A 9 (Q84.fin N) N Q84.k0 (Q84.st0 x.1 x.2.1 x.2.2.1 n_ t28_ t29_ c_2 b_2 b_3 b_4 b_5 b_6 b_7 b_8 b_9 b_10 b_11 b_12 m9_ m10_ m11_ m12_ m13_ m14_ m15_ m16_)) = Q84.l0 N (Q84 N) x.1 x.2.1 x.2.2.1 N := by funext n_ t28_ t29_ c_2 b_2 b_3 b_4 b_5 b_6 b_7 b_8 b_9 b_10 b_11 b_12 m9_ m10_ m11_ m12_ m13_ m14_ m15_ m16_; exact (Q84.runs N x.1 x.2.1 x.2.2.1 N) n_ t28_ t29_ c_2 b_2 b_3 b_4 b_5 b_6 b_7 b_8 b_9 b_10 b_11 b_12 m9_ m10_ m11_ m12_ m13_ m14_ m15_ m16_
 have h' : (Q84.D (N + 1)).f x = Q84.e N (Q84 N) (Q84.l0 N (Q84 N) x.1 x.2.1 x.2.2.1 N) x.1 x.2.1 x.2.2.1 := by kernel_rfl
 exact (congrArg (fun r0 => Q84.e N (Q84 N) r0 x.1 x.2.1 x.2.2.1) e0).trans (h'.symm.trans h)
theorem Q84.ok : ∀ N, FnOk Tryz.prog 84 (Q84.D N)
 | 0 => FnOk_none Tryz.func84 (by kernel_rfl) (by kernel_rfl) (fun x => rfl)
 | N + 1 => Q84.ok1 N (Q84.ok N)
end
end Go.Proofs.YtfihdjjilofklaaGreat.Am
