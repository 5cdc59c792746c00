/- PRINTED by gen.py: the abstract machine evaluates the loaded code to these functions. -/
import Derived.Test.YtpielijehhhobaaEvr2
set_option linter.unusedVariables false
set_option linter.unusedSimpArgs false
namespace Go.Proofs.Ytpielijehhhobaa.Am
open Go
noncomputable section
set_option maxRecDepth 100000
def Q19.as : List MK := [.d true (.prod .str (.prod tI (.prod tI (.prod (.slice 107 (.prod (.int .u8) (.prod tI (.prod tI (.slice 127 (.prod tI (.prod tI (.prod tI tI)))))))) (.prod (.slice 3 tI) (.prod .bool (.prod .bool (.prod (.slice 109 (.prod tI (.prod tI (.prod tI .bool)))) (.prod tI (.prod tI tI)))))))))), .d true (.prod (.slice 3 tI) (.prod (.prod (.slice 3 tI) (.slice 3 tI)) (.prod tI tI))), .d false tI]
def Q19.rs : List (Bool × HT) := [(false, (.d .bool))]
def Q19.lc : List AC := []
def Q19.D (N : Nat) : DFn := ⟨Q19.as, Q19.rs, Bool, fun x => Q19 N x.1 x.2.1 x.2.2.1, fun r o => r.1, fun b => (b, ()), fun b => (), none⟩
theorem Q19.fit (N : Nat) : (Q19.D N).Fit := ⟨fun _ _ => rfl, fun _ _ => rfl, by kernel_rfl, (fun _ _ h => nomatch h), by kernel_rfl⟩
noncomputable def Q19.G (N : Nat) : Gam := gamOf [(40, Q40.D N)]
def Q19.A : Nat → Option LoopAnn := fun _ => none
noncomputable def Q19.fin (N : Nat) : St → Option Bool := resK tb Try.f19.results.toList (decRes (Q19.D N) Q19.lc)
theorem Q19.entry (N : Nat) (rec : List Item → St → Option Bool) (x : (argH Q19.as).den) : seg tb (Q19.G N) Q19.A 0 rec (Q19.fin N) segFuel [.code (bodyOf Try.f19)] (initSt Try.f19 (encArgs Q19.as x) (encMem Q19.as x)) = Q19.e N x.1 x.2.1 x.2.2.1 := by kernel_rfl
theorem Q19.ok (N : Nat) : FnOk Try.prog 19 (Q19.D N) := by
 refine FnOk_of tb_ok (Checked.mixed Try.checked) ⟨Try.f19, Try.func19, by kernel_rfl, by kernel_rfl, fun x y h => ⟨Q19.G N, Q19.A, N, gamOf_ok (by simp only [List.forall_mem_cons, List.not_mem_nil, false_implies, implies_true, and_true]; exact ⟨Q40.ok N, Q40.fit N⟩), ?_⟩⟩ (Q19.fit N)
 rw [absFn_n (n0 := 0) rfl (by kernel_rfl)]
 exact (Q19.entry N _ x).trans h
def Q7.as : List MK := [.d true (.prod .str (.prod tI (.prod tI (.prod (.slice 107 (.prod (.int .u8) (.prod tI (.prod tI (.slice 127 (.prod tI (.prod tI (.prod tI tI)))))))) (.prod (.slice 3 tI) (.prod .bool (.prod .bool (.prod (.slice 109 (.prod tI (.prod tI (.prod tI .bool)))) (.prod tI (.prod tI tI)))))))))), .d true (.prod (.slice 3 tI) (.prod (.prod (.slice 3 tI) (.slice 3 tI)) (.prod tI tI))), .d false tI, .d false tI]
def Q7.rs : List (Bool × HT) := [(false, (.d .bool))]
def Q7.lc : List AC := []
def Q7.D (N : Nat) : DFn := ⟨Q7.as, Q7.rs, Bool, fun x => Q7 N x.1 x.2.1 x.2.2.1 x.2.2.2.1, fun r o => r.1, fun b => (b, ()), fun b => (), none⟩
theorem Q7.fit (N : Nat) : (Q7.D N).Fit := ⟨fun _ _ => rfl, fun _ _ => rfl, by kernel_rfl, (fun _ _ h => nomatch h), by kernel_rfl⟩
noncomputable def Q7.G (N : Nat) : Gam := gamOf [(9, Q9.D N), (18, Q18.D N), (19, Q19.D N), (10, Q10.D N), (20, Q20.D N), (21, Q21.D N)]
def Q7.A : Nat → Option LoopAnn := fun _ => none
noncomputable def Q7.fin (N : Nat) : St → Option Bool := resK tb Try.f7.results.toList (decRes (Q7.D N) Q7.lc)
theorem Q7.entry (N : Nat) (rec : List Item → St → Option Bool) (x : (argH Q7.as).den) : seg tb (Q7.G N) Q7.A 0 rec (Q7.fin N) segFuel [.code (bodyOf Try.f7)] (initSt Try.f7 (encArgs Q7.as x) (encMem Q7.as x)) = Q7.e N x.1 x.2.1 x.2.2.1 x.2.2.2.1 := by kernel_rfl
theorem Q7.ok (N : Nat) : FnOk Try.prog 7 (Q7.D N) := by
 refine FnOk_of tb_ok (Checked.mixed Try.checked) ⟨Try.f7, Try.func7, by kernel_rfl, by kernel_rfl, fun x y h => ⟨Q7.G N, Q7.A, N, gamOf_ok (by simp only [List.forall_mem_cons, List.not_mem_nil, false_implies, implies_true, and_true]; exact ⟨⟨Q9.ok N, Q9.fit N⟩, ⟨Q18.ok N, Q18.fit N⟩, ⟨Q19.ok N, Q19.fit N⟩, ⟨Q10.ok N, Q10.fit N⟩, ⟨Q20.ok N, Q20.fit N⟩, ⟨Q21.ok N, Q21.fit N⟩⟩), ?_⟩⟩ (Q7.fit N)
 rw [absFn_n (n0 := 0) rfl (by kernel_rfl)]
 exact (Q7.entry N _ x).trans h
end
end Go.Proofs.Ytpielijehhhobaa.Am
