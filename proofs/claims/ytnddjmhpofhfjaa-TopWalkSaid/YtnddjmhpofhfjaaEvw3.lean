/- PRINTED by gen.py: the abstract machine evaluates the loaded code to these functions. -/
import Derived.Test.YtnddjmhpofhfjaaEvw2
set_option linter.unusedVariables false
set_option linter.unusedSimpArgs false
namespace Go.Proofs.Ytnddjmhpofhfjaa.Am
open Go
noncomputable section
variable (N : Nat)
set_option maxRecDepth 100000
def Q54.as : List MK := [.d false (.slice 37 qc), .d true qc]
def Q54.rs : List (Bool × HT) := [(false, (.d .bool))]
def Q54.lc : List AC := []
def Q54.D : DFn := ⟨Q54.as, Q54.rs, Bool, fun x => Q54 N x.1 x.2.1, fun r o => r.1, fun b => (b, ()), fun b => (), none⟩
theorem Q54.fit : (Q54.D N).Fit := ⟨fun _ _ => rfl, fun _ _ => rfl, by kernel_rfl, (fun _ _ h => nomatch h), by kernel_rfl⟩
noncomputable def Q54.G : Gam := gamOf [(80, Q80.D N)]
def Q54.A : LA := fun _ => none
noncomputable def Q54.fin : St → Option Bool := resK tb Try.f54.results.toList (decRes (Q54.D N) Q54.lc)
theorem Q54.entry (rec : RK Bool) (x : (argH Q54.as).den) : seg tb (Q54.G N) Q54.A 0 rec (Q54.fin N) segFuel [.code (bodyOf Try.f54)] (initSt Try.f54 (encArgs Q54.as x) (encMem Q54.as x)) = Q54.e N x.1 x.2.1 := by kernel_rfl
theorem Q54.ok : FnOk Try.prog 54 (Q54.D N) := by
 refine fo ⟨Try.f54, Try.func54, by kernel_rfl, by kernel_rfl, fun x y h => ⟨Q54.G N, Q54.A, N, gamOf_ok (gc ⟨Q80.ok N, Q80.fit N⟩ gn), ?_⟩⟩ (Q54.fit N)
 rw [absFn_n (n0 := 0) rfl (by kernel_rfl)]
 exact (Q54.entry N _ x).trans h
def Q27.as : List MK := [.d true qa, .d true qd, .d true qc]
def Q27.rs : List (Bool × HT) := [(false, (.d .bool)), (false, (.d tI))]
def Q27.lc : List AC := []
def Q27.D : DFn := ⟨Q27.as, Q27.rs, (Bool × Int), fun x => Q27 N x.1 x.2.1 x.2.2.1, fun r o => (r.1, r.2.1), fun b => (b.1, (b.2, ())), fun b => (), none⟩
theorem Q27.fit : (Q27.D N).Fit := ⟨fun _ _ => rfl, fun _ _ => rfl, by kernel_rfl, (fun _ _ h => nomatch h), by kernel_rfl⟩
noncomputable def Q27.G : Gam := gamOf [(36, Q36.D N), (50, Q50.D N), (54, Q54.D N)]
def Q27.A : LA := fun _ => none
noncomputable def Q27.fin : St → Option (Bool × Int) := resK tb Try.f27.results.toList (decRes (Q27.D N) Q27.lc)
theorem Q27.entry (rec : RK (Bool × Int)) (x : (argH Q27.as).den) : seg tb (Q27.G N) Q27.A 0 rec (Q27.fin N) segFuel [.code (bodyOf Try.f27)] (initSt Try.f27 (encArgs Q27.as x) (encMem Q27.as x)) = Q27.e N x.1 x.2.1 x.2.2.1 := by kernel_rfl
theorem Q27.ok : FnOk Try.prog 27 (Q27.D N) := by
 refine fo ⟨Try.f27, Try.func27, by kernel_rfl, by kernel_rfl, fun x y h => ⟨Q27.G N, Q27.A, N, gamOf_ok (gc ⟨Q36.ok N, Q36.fit N⟩ (gc ⟨Q50.ok N, Q50.fit N⟩ (gc ⟨Q54.ok N, Q54.fit N⟩ gn))), ?_⟩⟩ (Q27.fit N)
 rw [absFn_n (n0 := 0) rfl (by kernel_rfl)]
 exact (Q27.entry N _ x).trans h
def Q28.as : List MK := [.d true qa, .d true qd, .d true qc]
def Q28.rs : List (Bool × HT) := [(true, (.prod (.own 3 tI) (.prod (.prod (.own 3 tI) (.own 3 tI)) (.d (.prod tI tI)))))]
def Q28.lc : List AC := []
def Q28.D : DFn := ⟨Q28.as, Q28.rs, TPos, fun x => Q28 N x.1 x.2.1 x.2.2.1, fun r o => r.1, fun b => (b, ()), fun b => (), none⟩
theorem Q28.fit : (Q28.D N).Fit := ⟨fun _ _ => rfl, fun _ _ => rfl, by kernel_rfl, (fun _ _ h => nomatch h), by kernel_rfl⟩
noncomputable def Q28.G : Gam := gamOf [(43, Q43.D N), (55, Q55.D N), (56, Q56.D N)]
def Q28.A : LA := fun _ => none
noncomputable def Q28.fin : St → Option TPos := resK tb Try.f28.results.toList (decRes (Q28.D N) Q28.lc)
theorem Q28.entry (rec : RK TPos) (x : (argH Q28.as).den) : seg tb (Q28.G N) Q28.A 0 rec (Q28.fin N) segFuel [.code (bodyOf Try.f28)] (initSt Try.f28 (encArgs Q28.as x) (encMem Q28.as x)) = Q28.e N x.1 x.2.1 x.2.2.1 := by kernel_rfl
theorem Q28.ok : FnOk Try.prog 28 (Q28.D N) := by
 refine fo ⟨Try.f28, Try.func28, by kernel_rfl, by kernel_rfl, fun x y h => ⟨Q28.G N, Q28.A, N, gamOf_ok (gc ⟨Q43.ok N, Q43.fit N⟩ (gc ⟨Q55.ok N, Q55.fit N⟩ (gc ⟨Q56.ok N, Q56.fit N⟩ gn))), ?_⟩⟩ (Q28.fit N)
 rw [absFn_n (n0 := 0) rfl (by kernel_rfl)]
 exact (Q28.entry N _ x).trans h
def Q12.as : List MK := [.d true qa, .d true qd, .d true qc]
def Q12.rs : List (Bool × HT) := [(true, (.prod (.own 3 tI) (.prod (.prod (.own 3 tI) (.own 3 tI)) (.d (.prod tI tI))))), (false, (.d tI))]
def Q12.lc : List AC := []
def Q12.D : DFn := ⟨Q12.as, Q12.rs, (TPos × Int), fun x => Q12 N x.1 x.2.1 x.2.2.1, fun r o => (r.1, r.2.1), fun b => (b.1, (b.2, ())), fun b => (), none⟩
theorem Q12.fit : (Q12.D N).Fit := ⟨fun _ _ => rfl, fun _ _ => rfl, by kernel_rfl, (fun _ _ h => nomatch h), by kernel_rfl⟩
noncomputable def Q12.G : Gam := gamOf [(27, Q27.D N), (28, Q28.D N)]
def Q12.A : LA := fun _ => none
noncomputable def Q12.fin : St → Option (TPos × Int) := resK tb Try.f12.results.toList (decRes (Q12.D N) Q12.lc)
theorem Q12.entry (rec : RK (TPos × Int)) (x : (argH Q12.as).den) : seg tb (Q12.G N) Q12.A 0 rec (Q12.fin N) segFuel [.code (bodyOf Try.f12)] (initSt Try.f12 (encArgs Q12.as x) (encMem Q12.as x)) = Q12.e N x.1 x.2.1 x.2.2.1 := by kernel_rfl
theorem Q12.ok : FnOk Try.prog 12 (Q12.D N) := by
 refine fo ⟨Try.f12, Try.func12, by kernel_rfl, by kernel_rfl, fun x y h => ⟨Q12.G N, Q12.A, N, gamOf_ok (gc ⟨Q27.ok N, Q27.fit N⟩ (gc ⟨Q28.ok N, Q28.fit N⟩ gn)), ?_⟩⟩ (Q12.fit N)
 rw [absFn_n (n0 := 0) rfl (by kernel_rfl)]
 exact (Q12.entry N _ x).trans h
def Q33.as : List MK := [.d false (.slice 39 (.prod qc (.prod tI tI))), .r (.prod qc (.prod tI tI)) (some 16)]
def Q33.rs : List (Bool × HT) := [(false, (.d tI))]
def Q33.lc : List AC := []
def Q33.D : DFn := ⟨Q33.as, Q33.rs, Int, fun x => Q33 N x.1 x.2.1, fun r o => r.1, fun b => (b, ()), fun b => (), none⟩
theorem Q33.fit : (Q33.D N).Fit := ⟨fun _ _ => rfl, fun _ _ => rfl, by kernel_rfl, (fun _ _ h => nomatch h), by kernel_rfl⟩
noncomputable def Q33.G (N : Nat) : Gam := gamI tb [(16, (Try.f16, gamOf []))] []
def Q33.A : LA := fun k => bif Nat.beq k 0 then some ⟨[0, 1, 7, 8], [], [], [], [], 0, false⟩ else none
noncomputable def Q33.fin : St → Option Int := resK tb Try.f33.results.toList (decRes (Q33.D N) Q33.lc)
noncomputable def Q33.k0 : List Item := stackAt [.r, .l, .r, .b] (bodyOf Try.f33) []
def Q33.st0 (s_ : (List (TMv × (Int × Int)))) (f_ : (TMv × (Int × Int))) (t8_ : Int) : St := ⟨[.one (.fro 39 (.prod qc (.prod tI tI)) s_), .one (.cfr 16 (.prod qc (.prod tI tI)) f_)] ++ rA 5 ++ [oi (s_.length : Int), oi t8_] ++ rA 10, []⟩
theorem Q33.step0 (rec : RK Int) (s_ : (List (TMv × (Int × Int)))) (f_ : (TMv × (Int × Int))) (t8_ : Int) : seg tb (Q33.G N) Q33.A 0 rec (Q33.fin N) segFuel (loopBody Q33.k0) (Q33.st0 s_ f_ t8_) = Q33.s0 N s_ f_ (fun t8_ => rec Q33.k0 (Q33.st0 s_ f_ t8_)) t8_ := by kernel_rfl
theorem Q33.entry (rec : RK Int) (x : (argH Q33.as).den) : seg tb (Q33.G N) Q33.A 0 rec (Q33.fin N) segFuel [.code (bodyOf Try.f33)] (initSt Try.f33 (encArgs Q33.as x) (encMem Q33.as x)) = Q33.e N (fun t8_ => rec Q33.k0 (Q33.st0 x.1 x.2.1 t8_)) x.1 x.2.1 := by kernel_rfl
theorem Q33.runs (N : Nat) (s_ : (List (TMv × (Int × Int)))) (f_ : (TMv × (Int × Int))) : ∀ n, (∀ (t8_ : Int), run tb (Q33.G N) Q33.A 0 (Q33.fin N) n Q33.k0 (Q33.st0 s_ f_ t8_) = Q33.l0 N s_ f_ n t8_)
 | 0 => fun _ => rfl
 | n + 1 => by
  have h0 := Q33.runs N s_ f_ n
  have e0 : (fun (t8_ : Int) => run tb (Q33.G N) Q33.A 0 (Q33.fin N) n Q33.k0 (Q33.st0 s_ f_ t8_)) = Q33.l0 N s_ f_ n := by funext t8_; exact h0 t8_
  have g0 : (∀ (t8_ : Int), run tb (Q33.G N) Q33.A 0 (Q33.fin N) (n + 1) Q33.k0 (Q33.st0 s_ f_ t8_) = Q33.l0 N s_ f_ (n + 1) t8_) := by
   intro t8_
   exact (run_succ (by kernel_rfl)).trans ((Q33.step0 N _ s_ f_ t8_).trans ((congrArg (fun r0 => Q33.s0 N s_ f_ r0 t8_) e0).trans (Q33.l0_s N s_ f_ n t8_).symm))
  exact g0
theorem Q33.ok : FnOk Try.prog 33 (Q33.D N) := by
 refine fo ⟨Try.f33, Try.func33, by kernel_rfl, by kernel_rfl, fun x y h => ⟨Q33.G N, Q33.A, N, gamI_ok tb_ok (Checked.mixed Try.checked) (by simp only [List.forall_mem_cons, List.not_mem_nil, false_implies, implies_true, and_true]; exact ⟨Try.func16, ⟨by kernel_rfl, by kernel_rfl⟩, gamOf_ok (fun p hp => nomatch hp)⟩) (fun p hp => nomatch hp), ?_⟩⟩ (Q33.fit N)
 rw [absFn_n (n0 := 0) rfl (by kernel_rfl)]
 refine (Q33.entry N (run tb (Q33.G N) Q33.A 0 (Q33.fin N) N) x).trans ?_
 have e0 : (fun (t8_ : Int) => run tb (Q33.G N) Q33.A 0 (Q33.fin N) N Q33.k0 (Q33.st0 x.1 x.2.1 t8_)) = Q33.l0 N x.1 x.2.1 N := by funext t8_; exact (Q33.runs N x.1 x.2.1 N) t8_
 have h' : (Q33.D N).f x = Q33.e N (Q33.l0 N x.1 x.2.1 N) x.1 x.2.1 := by kernel_rfl
 exact (congrArg (fun r0 => Q33.e N r0 x.1 x.2.1) e0).trans (h'.symm.trans h)
def Q15.as : List MK := [.d false (.slice 39 (.prod qc (.prod tI tI))), .r (.prod qc (.prod tI tI)) (some 16)]
def Q15.rs : List (Bool × HT) := [(false, (.d .bool))]
def Q15.lc : List AC := []
def Q15.D : DFn := ⟨Q15.as, Q15.rs, Bool, fun x => Q15 N x.1 x.2.1, fun r o => r.1, fun b => (b, ()), fun b => (), none⟩
theorem Q15.fit : (Q15.D N).Fit := ⟨fun _ _ => rfl, fun _ _ => rfl, by kernel_rfl, (fun _ _ h => nomatch h), by kernel_rfl⟩
noncomputable def Q15.G : Gam := gamOf [(33, Q33.D N)]
def Q15.A : LA := fun _ => none
noncomputable def Q15.fin : St → Option Bool := resK tb Try.f15.results.toList (decRes (Q15.D N) Q15.lc)
theorem Q15.entry (rec : RK Bool) (x : (argH Q15.as).den) : seg tb (Q15.G N) Q15.A 0 rec (Q15.fin N) segFuel [.code (bodyOf Try.f15)] (initSt Try.f15 (encArgs Q15.as x) (encMem Q15.as x)) = Q15.e N x.1 x.2.1 := by kernel_rfl
theorem Q15.ok : FnOk Try.prog 15 (Q15.D N) := by
 refine fo ⟨Try.f15, Try.func15, by kernel_rfl, by kernel_rfl, fun x y h => ⟨Q15.G N, Q15.A, N, gamOf_ok (gc ⟨Q33.ok N, Q33.fit N⟩ gn), ?_⟩⟩ (Q15.fit N)
 rw [absFn_n (n0 := 0) rfl (by kernel_rfl)]
 exact (Q15.entry N _ x).trans h
def Q3.as : List MK := [.d true qa, .d true qd, .d false tI]
def Q3.rs : List (Bool × HT) := [(false, (.d .bool))]
def Q3.lc : List AC := []
def Q3.D : DFn := ⟨Q3.as, Q3.rs, Bool, fun x => Q3 N x.1 x.2.1 x.2.2.1, fun r o => r.1, fun b => (b, ()), fun b => (), none⟩
theorem Q3.fit : (Q3.D N).Fit := ⟨fun _ _ => rfl, fun _ _ => rfl, by kernel_rfl, (fun _ _ h => nomatch h), by kernel_rfl⟩
noncomputable def Q3.G : Gam := gamOf [(6, Q6.D N), (7, Q7.D N), (5, Q5.D N), (8, Q8.D N), (9, Q9.D N), (10, Q10.D N), (11, Q11.D N), (12, Q12.D N), (13, Q13.D N), (14, Q14.D N), (15, Q15.D N)]
def Q3.A : LA := fun k => bif Nat.beq k 0 then some ⟨[3, 4, 11, 13, 14, 15, 93, 94, 95], [], [], [], [2, 3, 4, 5, 6, 7, 8, 9, 10, 11, 12, 13, 14, 15], 18, false⟩ else none
noncomputable def Q3.fin : St → Option Bool := resK tb Try.f3.results.toList (decRes (Q3.D N) Q3.lc)
noncomputable def Q3.k0 : List Item := stackAt [.r, .r, .r, .r, .r, .r, .r, .r, .l, .r, .b] (bodyOf Try.f3) []
def Q3.st0 (r_ : TRules) (p_ : TPos) (seed f_ sum t94_ t95_ : Int) (l_ : (List (TMv × (Int × Int)))) (m_ m_2 m_3 : Int) : St := ⟨rA 3 ++ [.one (.ptr 0 0), .one (.ptr 1 0)] ++ rA 6 ++ [.one (.own 16), oA, .one (.ptr 17 0), oi f_, oi sum] ++ rA 77 ++ [.one (.own 16), oi t94_, oi t95_] ++ rA 63, [vR r_, vP p_, .gone, .gone, .gone, .gone, .gone, .gone, .gone, .gone, .gone, .gone, .gone, .gone, .gone, .gone, .row 39 (.prod qc (.prod tI tI)) l_, .var 37 [.int .i64 m_, .int .i64 m_2, .int .i64 m_3]]⟩
theorem Q3.step0 (rec : RK Bool) (r_ : TRules) (p_ : TPos) (seed f_ sum t94_ t95_ : Int) (l_ : (List (TMv × (Int × Int)))) (m_ m_2 m_3 : Int) : seg tb (Q3.G N) Q3.A 0 rec (Q3.fin N) segFuel (loopBody Q3.k0) (Q3.st0 r_ p_ seed f_ sum t94_ t95_ l_ m_ m_2 m_3) = Q3.s0 N r_ p_ seed (fun f_ sum t94_ t95_ l_ m_ m_2 m_3 => rec Q3.k0 (Q3.st0 r_ p_ seed f_ sum t94_ t95_ l_ m_ m_2 m_3)) f_ sum t94_ t95_ l_ m_ m_2 m_3 := by kernel_rfl
theorem Q3.entry (rec : RK Bool) (x : (argH Q3.as).den) : seg tb (Q3.G N) Q3.A 0 rec (Q3.fin N) segFuel [.code (bodyOf Try.f3)] (initSt Try.f3 (encArgs Q3.as x) (encMem Q3.as x)) = Q3.e N (fun f_ sum t94_ t95_ l_ m_ m_2 m_3 => rec Q3.k0 (Q3.st0 x.1 x.2.1 x.2.2.1 f_ sum t94_ t95_ l_ m_ m_2 m_3)) x.1 x.2.1 x.2.2.1 := by kernel_rfl
theorem Q3.runs (N : Nat) (r_ : TRules) (p_ : TPos) (seed : Int) : ∀ n, (∀ (f_ sum t94_ t95_ : Int) (l_ : (List (TMv × (Int × Int)))) (m_ m_2 m_3 : Int), run tb (Q3.G N) Q3.A 0 (Q3.fin N) n Q3.k0 (Q3.st0 r_ p_ seed f_ sum t94_ t95_ l_ m_ m_2 m_3) = Q3.l0 N r_ p_ seed n f_ sum t94_ t95_ l_ m_ m_2 m_3)
 | 0 => fun _ _ _ _ _ _ _ _ => rfl
 | n + 1 => by
  have h0 := Q3.runs N r_ p_ seed n
  have e0 : (fun (f_ sum t94_ t95_ : Int) (l_ : (List (TMv × (Int × Int)))) (m_ m_2 m_3 : Int) => run tb (Q3.G N) Q3.A 0 (Q3.fin N) n Q3.k0 (Q3.st0 r_ p_ seed f_ sum t94_ t95_ l_ m_ m_2 m_3)) = Q3.l0 N r_ p_ seed n := by funext f_ sum t94_ t95_ l_ m_ m_2 m_3; exact h0 f_ sum t94_ t95_ l_ m_ m_2 m_3
  have g0 : (∀ (f_ sum t94_ t95_ : Int) (l_ : (List (TMv × (Int × Int)))) (m_ m_2 m_3 : Int), run tb (Q3.G N) Q3.A 0 (Q3.fin N) (n + 1) Q3.k0 (Q3.st0 r_ p_ seed f_ sum t94_ t95_ l_ m_ m_2 m_3) = Q3.l0 N r_ p_ seed (n + 1) f_ sum t94_ t95_ l_ m_ m_2 m_3) := by
   intro f_ sum t94_ t95_ l_ m_ m_2 m_3
   exact (run_succ (by kernel_rfl)).trans ((Q3.step0 N _ r_ p_ seed f_ sum t94_ t95_ l_ m_ m_2 m_3).trans ((congrArg (fun r0 => Q3.s0 N r_ p_ seed r0 f_ sum t94_ t95_ l_ m_ m_2 m_3) e0).trans (Q3.l0_s N r_ p_ seed n f_ sum t94_ t95_ l_ m_ m_2 m_3).symm))
  exact g0
theorem Q3.ok : FnOk Try.prog 3 (Q3.D N) := by
 refine fo ⟨Try.f3, Try.func3, by kernel_rfl, by kernel_rfl, fun x y h => ⟨Q3.G N, Q3.A, N, gamOf_ok (gc ⟨Q6.ok N, Q6.fit N⟩ (gc ⟨Q7.ok N, Q7.fit N⟩ (gc ⟨Q5.ok N, Q5.fit N⟩ (gc ⟨Q8.ok N, Q8.fit N⟩ (gc ⟨Q9.ok N, Q9.fit N⟩ (gc ⟨Q10.ok N, Q10.fit N⟩ (gc ⟨Q11.ok N, Q11.fit N⟩ (gc ⟨Q12.ok N, Q12.fit N⟩ (gc ⟨Q13.ok N, Q13.fit N⟩ (gc ⟨Q14.ok N, Q14.fit N⟩ (gc ⟨Q15.ok N, Q15.fit N⟩ gn))))))))))), ?_⟩⟩ (Q3.fit N)
 rw [absFn_n (n0 := 0) rfl (by kernel_rfl)]
 refine (Q3.entry N (run tb (Q3.G N) Q3.A 0 (Q3.fin N) N) x).trans ?_
 have e0 : (fun (f_ sum t94_ t95_ : Int) (l_ : (List (TMv × (Int × Int)))) (m_ m_2 m_3 : Int) => run tb (Q3.G N) Q3.A 0 (Q3.fin N) N Q3.k0 (Q3.st0 x.1 x.2.1 x.2.2.1 f_ sum t94_ t95_ l_ m_ m_2 m_3)) = Q3.l0 N x.1 x.2.1 x.2.2.1 N := by funext f_ sum t94_ t95_ l_ m_ m_2 m_3; exact (Q3.runs N x.1 x.2.1 x.2.2.1 N) f_ sum t94_ t95_ l_ m_ m_2 m_3
 have h' : (Q3.D N).f x = Q3.e N (Q3.l0 N x.1 x.2.1 x.2.2.1 N) x.1 x.2.1 x.2.2.1 := by kernel_rfl
 exact (congrArg (fun r0 => Q3.e N r0 x.1 x.2.1 x.2.2.1) e0).trans (h'.symm.trans h)
end
end Go.Proofs.Ytnddjmhpofhfjaa.Am
