/- PRINTED by gen.py: the abstract machine evaluates the loaded code to these functions. -/
import Derived.Test.YtfihdjjilofklaaGreatEvp3
set_option linter.unusedVariables false
set_option linter.unusedSimpArgs false
namespace Go.Proofs.YtfihdjjilofklaaGreat.Am
open Go
noncomputable section
variable (N : Nat)
set_option maxRecDepth 100000
def Q5.as : List MK := [.d true qa]
def Q5.rs : List (Bool × HT) := [(false, (.opt 63 (.prod (.prod (.d .str) (.prod (.d tI) (.prod (.d tI) (.prod (.own 89 qb) (.prod (.own 3 tI) (.prod (.d .bool) (.prod (.d .bool) (.prod (.own 91 qe) (.d qd))))))))) (.prod (.own 33 qc) (.prod (.own 23 (.slice 3 tI)) (.prod (.own 43 (.slice 80 qd)) (.prod (.own 35 (.prod tI tI)) (.mp false false .str tI)))))))), (false, (.d .bool))]
def Q5.lc : List AC := []
def Q5.D : DFn := ⟨Q5.as, Q5.rs, ((Option TTab) × Bool), fun x => Q5 N x.1, fun r o => (r.1, r.2.1), fun b => (b.1, (b.2, ())), fun b => (), none⟩
theorem Q5.fit : (Q5.D N).Fit := ⟨fun _ _ => rfl, fun _ _ => rfl, by kernel_rfl, (fun _ _ h => nomatch h), by kernel_rfl⟩
noncomputable def Q5.G : Gam := gamOf [(12, Q12.D N), (17, Q17.D N)]
def Q5.A : LA := fun _ => none
noncomputable def Q5.fin : St → Option ((Option TTab) × Bool) := resK tb Tryz.f5.results.toList (decRes (Q5.D N) Q5.lc)
theorem Q5.entry (rec : RK ((Option TTab) × Bool)) (x : (argH Q5.as).den) : seg tb (Q5.G N) Q5.A 0 rec (Q5.fin N) segFuel [.code (bodyOf Tryz.f5)] (initSt Tryz.f5 (encArgs Q5.as x) (encMem Q5.as x)) = Q5.e N x.1 := by kernel_rfl
theorem Q5.ok : FnOk Tryz.prog 5 (Q5.D N) := by
 refine FnOk_of tb_ok (Checked.mixed Tryz.checked) ⟨Tryz.f5, Tryz.func5, by kernel_rfl, by kernel_rfl, fun x y h => ⟨Q5.G N, Q5.A, N, gamOf_ok (gc ⟨Q12.ok N, Q12.fit N⟩ (gc ⟨Q17.ok N, Q17.fit N⟩ gn)), ?_⟩⟩ (Q5.fit N)
 rw [absFn_n (n0 := 0) rfl (by kernel_rfl)]
 exact (Q5.entry N _ x).trans h
def Q3.as : List MK := [.d true qa]
def Q3.rs : List (Bool × HT) := [(false, (.d .bool))]
def Q3.lc : List AC := []
def Q3.D : DFn := ⟨Q3.as, Q3.rs, Bool, fun x => Q3 N x.1, fun r o => r.1, fun b => (b, ()), fun b => (), none⟩
theorem Q3.fit : (Q3.D N).Fit := ⟨fun _ _ => rfl, fun _ _ => rfl, by kernel_rfl, (fun _ _ h => nomatch h), by kernel_rfl⟩
noncomputable def Q3.G : Gam := gamOf [(4, Q4.D N), (5, Q5.D N), (6, Q6.D N), (7, Q7.D N), (8, Q8.D N), (9, Q9.D N), (10, Q10.D N)]
def Q3.A : LA := fun _ => none
noncomputable def Q3.fin : St → Option Bool := resK tb Tryz.f3.results.toList (decRes (Q3.D N) Q3.lc)
theorem Q3.entry (rec : RK Bool) (x : (argH Q3.as).den) : seg tb (Q3.G N) Q3.A 0 rec (Q3.fin N) segFuel [.code (bodyOf Tryz.f3)] (initSt Tryz.f3 (encArgs Q3.as x) (encMem Q3.as x)) = Q3.e N x.1 := by kernel_rfl
theorem Q3.ok : FnOk Tryz.prog 3 (Q3.D N) := by
 refine FnOk_of tb_ok (Checked.mixed Tryz.checked) ⟨Tryz.f3, Tryz.func3, by kernel_rfl, by kernel_rfl, fun x y h => ⟨Q3.G N, Q3.A, N, gamOf_ok (gc ⟨Q4.ok N, Q4.fit N⟩ (gc ⟨Q5.ok N, Q5.fit N⟩ (gc ⟨Q6.ok N, Q6.fit N⟩ (gc ⟨Q7.ok N, Q7.fit N⟩ (gc ⟨Q8.ok N, Q8.fit N⟩ (gc ⟨Q9.ok N, Q9.fit N⟩ (gc ⟨Q10.ok N, Q10.fit N⟩ gn))))))), ?_⟩⟩ (Q3.fit N)
 rw [absFn_n (n0 := 0) rfl (by kernel_rfl)]
 exact (Q3.entry N _ x).trans h
end
end Go.Proofs.YtfihdjjilofklaaGreat.Am
