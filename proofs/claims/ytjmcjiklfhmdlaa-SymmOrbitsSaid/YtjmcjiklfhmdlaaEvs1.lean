/- PRINTED by gen.py: the abstract machine evaluates the loaded code to these functions. -/
import Derived.Test.YtjmcjiklfhmdlaaEvs
set_option linter.unusedVariables false
set_option linter.unusedSimpArgs false
namespace Go.Proofs.Ytjmcjiklfhmdlaa.Am
open Go
set_option maxRecDepth 100000
/-! ### f89: slices.IndexFunc[[]gamehall/api.Errno,gamehall/api.Errno] -/
def slices_IndexFunc_api_Errno_api_Errno.as : List MK := [.d false (.slice 22 (.int .i64)), .f 61]
def slices_IndexFunc_api_Errno_api_Errno.rs : List (Bool × HT) := [(false, (.d (.int .i64)))]
def slices_IndexFunc_api_Errno_api_Errno.lc : List AC := []
def slices_IndexFunc_api_Errno_api_Errno.D (N : Nat) : DFn := ⟨slices_IndexFunc_api_Errno_api_Errno.as, slices_IndexFunc_api_Errno_api_Errno.rs, Int, fun x => slices_IndexFunc_api_Errno_api_Errno N x.1, fun r o => r.1, fun b => (b, ()), fun b => ()⟩
theorem slices_IndexFunc_api_Errno_api_Errno.fit (N : Nat) : (slices_IndexFunc_api_Errno_api_Errno.D N).Fit := ⟨fun _ _ => rfl, fun _ _ => rfl, by kernel_rfl⟩
noncomputable def slices_IndexFunc_api_Errno_api_Errno.G (N : Nat) : Gam := gamOf [(61, gamehallkeep1_fine_1.D N)]
def slices_IndexFunc_api_Errno_api_Errno.A : Nat → Option LoopAnn := fun k => bif Nat.beq k 0 then some ⟨[0, 1, 7, 8], [], [], [], [], 0, false⟩ else none
noncomputable def slices_IndexFunc_api_Errno_api_Errno.fin (N : Nat) : St → Option Int := resK tb Try.f89.results.toList (decRes (slices_IndexFunc_api_Errno_api_Errno.D N) slices_IndexFunc_api_Errno_api_Errno.lc)
noncomputable def slices_IndexFunc_api_Errno_api_Errno.k0 : List Item := stackAt [.r, .l, .r, .b] (bodyOf Try.f89) []
def slices_IndexFunc_api_Errno_api_Errno.st0 (s_ : (List Int)) (t8_ : Int) : St := ⟨[.one (.fro 22 (.int .i64) s_), .one (.fn 61)] ++ List.replicate 5 (.one .any) ++ [.one (.int .i64 (s_.length : Int)), .one (.int .i64 t8_)] ++ List.replicate 10 (.one .any), []⟩
theorem slices_IndexFunc_api_Errno_api_Errno.step0 (N : Nat) (rec : List Item → St → Option Int) (s_ : (List Int)) (t8_ : Int) : seg tb (slices_IndexFunc_api_Errno_api_Errno.G N) slices_IndexFunc_api_Errno_api_Errno.A 0 rec (slices_IndexFunc_api_Errno_api_Errno.fin N) segFuel (loopBody slices_IndexFunc_api_Errno_api_Errno.k0) (slices_IndexFunc_api_Errno_api_Errno.st0 s_ t8_) = slices_IndexFunc_api_Errno_api_Errno.s0 N s_ (fun t8_ => rec slices_IndexFunc_api_Errno_api_Errno.k0 (slices_IndexFunc_api_Errno_api_Errno.st0 s_ t8_)) t8_ := by kernel_rfl
theorem slices_IndexFunc_api_Errno_api_Errno.entry (N : Nat) (rec : List Item → St → Option Int) (x : (argH slices_IndexFunc_api_Errno_api_Errno.as).den) : seg tb (slices_IndexFunc_api_Errno_api_Errno.G N) slices_IndexFunc_api_Errno_api_Errno.A 0 rec (slices_IndexFunc_api_Errno_api_Errno.fin N) segFuel [.code (bodyOf Try.f89)] (initSt Try.f89 (encArgs slices_IndexFunc_api_Errno_api_Errno.as x) (encMem slices_IndexFunc_api_Errno_api_Errno.as x)) = slices_IndexFunc_api_Errno_api_Errno.e N (fun t8_ => rec slices_IndexFunc_api_Errno_api_Errno.k0 (slices_IndexFunc_api_Errno_api_Errno.st0 x.1 t8_)) x.1 := by kernel_rfl
theorem slices_IndexFunc_api_Errno_api_Errno.runs (N : Nat) (s_ : (List Int)) : ∀ n, (∀ (t8_ : Int), run tb (slices_IndexFunc_api_Errno_api_Errno.G N) slices_IndexFunc_api_Errno_api_Errno.A 0 (slices_IndexFunc_api_Errno_api_Errno.fin N) n slices_IndexFunc_api_Errno_api_Errno.k0 (slices_IndexFunc_api_Errno_api_Errno.st0 s_ t8_) = slices_IndexFunc_api_Errno_api_Errno.l0 N s_ n t8_)
  | 0 => fun _ => rfl
  | n + 1 => by
    have h0 := slices_IndexFunc_api_Errno_api_Errno.runs N s_ n
    have e0 : (fun (t8_ : Int) => run tb (slices_IndexFunc_api_Errno_api_Errno.G N) slices_IndexFunc_api_Errno_api_Errno.A 0 (slices_IndexFunc_api_Errno_api_Errno.fin N) n slices_IndexFunc_api_Errno_api_Errno.k0 (slices_IndexFunc_api_Errno_api_Errno.st0 s_ t8_)) = slices_IndexFunc_api_Errno_api_Errno.l0 N s_ n := by funext t8_; exact h0 t8_
    have g0 : (∀ (t8_ : Int), run tb (slices_IndexFunc_api_Errno_api_Errno.G N) slices_IndexFunc_api_Errno_api_Errno.A 0 (slices_IndexFunc_api_Errno_api_Errno.fin N) (n + 1) slices_IndexFunc_api_Errno_api_Errno.k0 (slices_IndexFunc_api_Errno_api_Errno.st0 s_ t8_) = slices_IndexFunc_api_Errno_api_Errno.l0 N s_ (n + 1) t8_) := by
      intro t8_
      exact (run_succ (by kernel_rfl)).trans ((slices_IndexFunc_api_Errno_api_Errno.step0 N _ s_ t8_).trans ((congrArg (fun r0 => slices_IndexFunc_api_Errno_api_Errno.s0 N s_ r0 t8_) e0).trans (slices_IndexFunc_api_Errno_api_Errno.l0_s N s_ n t8_).symm))
    exact g0
theorem slices_IndexFunc_api_Errno_api_Errno.ok (N : Nat) : FnOk Try.prog 89 (slices_IndexFunc_api_Errno_api_Errno.D N) := by
  refine FnOk_of tb_ok (Checked.mixed Try.checked) ⟨Try.f89, Try.func89, by kernel_rfl, by kernel_rfl, fun x y h => ⟨slices_IndexFunc_api_Errno_api_Errno.G N, slices_IndexFunc_api_Errno_api_Errno.A, N, gamOf_ok (by simp only [List.forall_mem_cons, List.not_mem_nil, false_implies, implies_true, and_true]; exact ⟨gamehallkeep1_fine_1.ok N, gamehallkeep1_fine_1.fit N⟩), ?_⟩⟩ (slices_IndexFunc_api_Errno_api_Errno.fit N)
  rw [absFn_n (n0 := 0) rfl (by kernel_rfl)]
  refine (slices_IndexFunc_api_Errno_api_Errno.entry N (run tb (slices_IndexFunc_api_Errno_api_Errno.G N) slices_IndexFunc_api_Errno_api_Errno.A 0 (slices_IndexFunc_api_Errno_api_Errno.fin N) N) x).trans ?_
  have e0 : (fun (t8_ : Int) => run tb (slices_IndexFunc_api_Errno_api_Errno.G N) slices_IndexFunc_api_Errno_api_Errno.A 0 (slices_IndexFunc_api_Errno_api_Errno.fin N) N slices_IndexFunc_api_Errno_api_Errno.k0 (slices_IndexFunc_api_Errno_api_Errno.st0 x.1 t8_)) = slices_IndexFunc_api_Errno_api_Errno.l0 N x.1 N := by funext t8_; exact (slices_IndexFunc_api_Errno_api_Errno.runs N x.1 N) t8_
  have h' : (slices_IndexFunc_api_Errno_api_Errno.D N).f x = slices_IndexFunc_api_Errno_api_Errno.e N (slices_IndexFunc_api_Errno_api_Errno.l0 N x.1 N) x.1 := by kernel_rfl
  exact (congrArg (fun r0 => slices_IndexFunc_api_Errno_api_Errno.e N r0 x.1) e0).trans (h'.symm.trans h)
/-! ### f60: slices.ContainsFunc[[]gamehall/api.Errno,gamehall/api.Errno] -/
def slices_ContainsFunc_api_Errno_api_Errno.as : List MK := [.d false (.slice 22 (.int .i64)), .f 61]
def slices_ContainsFunc_api_Errno_api_Errno.rs : List (Bool × HT) := [(false, (.d .bool))]
def slices_ContainsFunc_api_Errno_api_Errno.lc : List AC := []
def slices_ContainsFunc_api_Errno_api_Errno.D (N : Nat) : DFn := ⟨slices_ContainsFunc_api_Errno_api_Errno.as, slices_ContainsFunc_api_Errno_api_Errno.rs, Bool, fun x => slices_ContainsFunc_api_Errno_api_Errno N x.1, fun r o => r.1, fun b => (b, ()), fun b => ()⟩
theorem slices_ContainsFunc_api_Errno_api_Errno.fit (N : Nat) : (slices_ContainsFunc_api_Errno_api_Errno.D N).Fit := ⟨fun _ _ => rfl, fun _ _ => rfl, by kernel_rfl⟩
noncomputable def slices_ContainsFunc_api_Errno_api_Errno.G (N : Nat) : Gam := gamOf [(89, slices_IndexFunc_api_Errno_api_Errno.D N)]
def slices_ContainsFunc_api_Errno_api_Errno.A : Nat → Option LoopAnn := fun _ => none
noncomputable def slices_ContainsFunc_api_Errno_api_Errno.fin (N : Nat) : St → Option Bool := resK tb Try.f60.results.toList (decRes (slices_ContainsFunc_api_Errno_api_Errno.D N) slices_ContainsFunc_api_Errno_api_Errno.lc)
theorem slices_ContainsFunc_api_Errno_api_Errno.entry (N : Nat) (rec : List Item → St → Option Bool) (x : (argH slices_ContainsFunc_api_Errno_api_Errno.as).den) : seg tb (slices_ContainsFunc_api_Errno_api_Errno.G N) slices_ContainsFunc_api_Errno_api_Errno.A 0 rec (slices_ContainsFunc_api_Errno_api_Errno.fin N) segFuel [.code (bodyOf Try.f60)] (initSt Try.f60 (encArgs slices_ContainsFunc_api_Errno_api_Errno.as x) (encMem slices_ContainsFunc_api_Errno_api_Errno.as x)) = slices_ContainsFunc_api_Errno_api_Errno.e N x.1 := by kernel_rfl
theorem slices_ContainsFunc_api_Errno_api_Errno.ok (N : Nat) : FnOk Try.prog 60 (slices_ContainsFunc_api_Errno_api_Errno.D N) := by
  refine FnOk_of tb_ok (Checked.mixed Try.checked) ⟨Try.f60, Try.func60, by kernel_rfl, by kernel_rfl, fun x y h => ⟨slices_ContainsFunc_api_Errno_api_Errno.G N, slices_ContainsFunc_api_Errno_api_Errno.A, N, gamOf_ok (by simp only [List.forall_mem_cons, List.not_mem_nil, false_implies, implies_true, and_true]; exact ⟨slices_IndexFunc_api_Errno_api_Errno.ok N, slices_IndexFunc_api_Errno_api_Errno.fit N⟩), ?_⟩⟩ (slices_ContainsFunc_api_Errno_api_Errno.fit N)
  rw [absFn_n (n0 := 0) rfl (by kernel_rfl)]
  exact (slices_ContainsFunc_api_Errno_api_Errno.entry N _ x).trans h
/-! ### f18: gamehall/gamehallkeep1.fine -/
def gamehallkeep1_fine.as : List MK := [.d false (.slice 22 (.int .i64))]
def gamehallkeep1_fine.rs : List (Bool × HT) := [(false, (.d .bool))]
def gamehallkeep1_fine.lc : List AC := []
def gamehallkeep1_fine.D (N : Nat) : DFn := ⟨gamehallkeep1_fine.as, gamehallkeep1_fine.rs, Bool, fun x => gamehallkeep1_fine N x.1, fun r o => r.1, fun b => (b, ()), fun b => ()⟩
theorem gamehallkeep1_fine.fit (N : Nat) : (gamehallkeep1_fine.D N).Fit := ⟨fun _ _ => rfl, fun _ _ => rfl, by kernel_rfl⟩
noncomputable def gamehallkeep1_fine.G (N : Nat) : Gam := gamOf [(60, slices_ContainsFunc_api_Errno_api_Errno.D N)]
def gamehallkeep1_fine.A : Nat → Option LoopAnn := fun _ => none
noncomputable def gamehallkeep1_fine.fin (N : Nat) : St → Option Bool := resK tb Try.f18.results.toList (decRes (gamehallkeep1_fine.D N) gamehallkeep1_fine.lc)
theorem gamehallkeep1_fine.entry (N : Nat) (rec : List Item → St → Option Bool) (x : (argH gamehallkeep1_fine.as).den) : seg tb (gamehallkeep1_fine.G N) gamehallkeep1_fine.A 0 rec (gamehallkeep1_fine.fin N) segFuel [.code (bodyOf Try.f18)] (initSt Try.f18 (encArgs gamehallkeep1_fine.as x) (encMem gamehallkeep1_fine.as x)) = gamehallkeep1_fine.e N x.1 := by kernel_rfl
theorem gamehallkeep1_fine.ok (N : Nat) : FnOk Try.prog 18 (gamehallkeep1_fine.D N) := by
  refine FnOk_of tb_ok (Checked.mixed Try.checked) ⟨Try.f18, Try.func18, by kernel_rfl, by kernel_rfl, fun x y h => ⟨gamehallkeep1_fine.G N, gamehallkeep1_fine.A, N, gamOf_ok (by simp only [List.forall_mem_cons, List.not_mem_nil, false_implies, implies_true, and_true]; exact ⟨slices_ContainsFunc_api_Errno_api_Errno.ok N, slices_ContainsFunc_api_Errno_api_Errno.fit N⟩), ?_⟩⟩ (gamehallkeep1_fine.fit N)
  rw [absFn_n (n0 := 0) rfl (by kernel_rfl)]
  exact (gamehallkeep1_fine.entry N _ x).trans h
/-! ### f62: slices.Index[[]int,int] -/
def slices_Index_int_int.as : List MK := [.d false (.slice 3 (.int .i64)), .d false (.int .i64)]
def slices_Index_int_int.rs : List (Bool × HT) := [(false, (.d (.int .i64)))]
def slices_Index_int_int.lc : List AC := []
def slices_Index_int_int.D (N : Nat) : DFn := ⟨slices_Index_int_int.as, slices_Index_int_int.rs, Int, fun x => slices_Index_int_int N x.1 x.2.1, fun r o => r.1, fun b => (b, ()), fun b => ()⟩
theorem slices_Index_int_int.fit (N : Nat) : (slices_Index_int_int.D N).Fit := ⟨fun _ _ => rfl, fun _ _ => rfl, by kernel_rfl⟩
noncomputable def slices_Index_int_int.G (N : Nat) : Gam := gamOf []
def slices_Index_int_int.A : Nat → Option LoopAnn := fun k => bif Nat.beq k 0 then some ⟨[0, 1, 7, 8], [], [], [], [], 0, false⟩ else none
noncomputable def slices_Index_int_int.fin (N : Nat) : St → Option Int := resK tb Try.f62.results.toList (decRes (slices_Index_int_int.D N) slices_Index_int_int.lc)
noncomputable def slices_Index_int_int.k0 : List Item := stackAt [.r, .l, .r, .b] (bodyOf Try.f62) []
def slices_Index_int_int.st0 (s_ : (List Int)) (v_ : Int) (t8_ : Int) : St := ⟨[.one (.fro 3 (.int .i64) s_), .one (.int .i64 v_)] ++ List.replicate 5 (.one .any) ++ [.one (.int .i64 (s_.length : Int)), .one (.int .i64 t8_)] ++ List.replicate 10 (.one .any), []⟩
theorem slices_Index_int_int.step0 (N : Nat) (rec : List Item → St → Option Int) (s_ : (List Int)) (v_ : Int) (t8_ : Int) : seg tb (slices_Index_int_int.G N) slices_Index_int_int.A 0 rec (slices_Index_int_int.fin N) segFuel (loopBody slices_Index_int_int.k0) (slices_Index_int_int.st0 s_ v_ t8_) = slices_Index_int_int.s0 N s_ v_ (fun t8_ => rec slices_Index_int_int.k0 (slices_Index_int_int.st0 s_ v_ t8_)) t8_ := by kernel_rfl
theorem slices_Index_int_int.entry (N : Nat) (rec : List Item → St → Option Int) (x : (argH slices_Index_int_int.as).den) : seg tb (slices_Index_int_int.G N) slices_Index_int_int.A 0 rec (slices_Index_int_int.fin N) segFuel [.code (bodyOf Try.f62)] (initSt Try.f62 (encArgs slices_Index_int_int.as x) (encMem slices_Index_int_int.as x)) = slices_Index_int_int.e N (fun t8_ => rec slices_Index_int_int.k0 (slices_Index_int_int.st0 x.1 x.2.1 t8_)) x.1 x.2.1 := by kernel_rfl
theorem slices_Index_int_int.runs (N : Nat) (s_ : (List Int)) (v_ : Int) : ∀ n, (∀ (t8_ : Int), run tb (slices_Index_int_int.G N) slices_Index_int_int.A 0 (slices_Index_int_int.fin N) n slices_Index_int_int.k0 (slices_Index_int_int.st0 s_ v_ t8_) = slices_Index_int_int.l0 N s_ v_ n t8_)
  | 0 => fun _ => rfl
  | n + 1 => by
    have h0 := slices_Index_int_int.runs N s_ v_ n
    have e0 : (fun (t8_ : Int) => run tb (slices_Index_int_int.G N) slices_Index_int_int.A 0 (slices_Index_int_int.fin N) n slices_Index_int_int.k0 (slices_Index_int_int.st0 s_ v_ t8_)) = slices_Index_int_int.l0 N s_ v_ n := by funext t8_; exact h0 t8_
    have g0 : (∀ (t8_ : Int), run tb (slices_Index_int_int.G N) slices_Index_int_int.A 0 (slices_Index_int_int.fin N) (n + 1) slices_Index_int_int.k0 (slices_Index_int_int.st0 s_ v_ t8_) = slices_Index_int_int.l0 N s_ v_ (n + 1) t8_) := by
      intro t8_
      exact (run_succ (by kernel_rfl)).trans ((slices_Index_int_int.step0 N _ s_ v_ t8_).trans ((congrArg (fun r0 => slices_Index_int_int.s0 N s_ v_ r0 t8_) e0).trans (slices_Index_int_int.l0_s N s_ v_ n t8_).symm))
    exact g0
theorem slices_Index_int_int.ok (N : Nat) : FnOk Try.prog 62 (slices_Index_int_int.D N) := by
  refine FnOk_of tb_ok (Checked.mixed Try.checked) ⟨Try.f62, Try.func62, by kernel_rfl, by kernel_rfl, fun x y h => ⟨slices_Index_int_int.G N, slices_Index_int_int.A, N, gamOf_ok (fun p hp => nomatch hp), ?_⟩⟩ (slices_Index_int_int.fit N)
  rw [absFn_n (n0 := 0) rfl (by kernel_rfl)]
  refine (slices_Index_int_int.entry N (run tb (slices_Index_int_int.G N) slices_Index_int_int.A 0 (slices_Index_int_int.fin N) N) x).trans ?_
  have e0 : (fun (t8_ : Int) => run tb (slices_Index_int_int.G N) slices_Index_int_int.A 0 (slices_Index_int_int.fin N) N slices_Index_int_int.k0 (slices_Index_int_int.st0 x.1 x.2.1 t8_)) = slices_Index_int_int.l0 N x.1 x.2.1 N := by funext t8_; exact (slices_Index_int_int.runs N x.1 x.2.1 N) t8_
  have h' : (slices_Index_int_int.D N).f x = slices_Index_int_int.e N (slices_Index_int_int.l0 N x.1 x.2.1 N) x.1 x.2.1 := by kernel_rfl
  exact (congrArg (fun r0 => slices_Index_int_int.e N r0 x.1 x.2.1) e0).trans (h'.symm.trans h)
/-! ### f19: slices.Contains[[]int,int] -/
def slices_Contains_int_int.as : List MK := [.d false (.slice 3 (.int .i64)), .d false (.int .i64)]
def slices_Contains_int_int.rs : List (Bool × HT) := [(false, (.d .bool))]
def slices_Contains_int_int.lc : List AC := []
def slices_Contains_int_int.D (N : Nat) : DFn := ⟨slices_Contains_int_int.as, slices_Contains_int_int.rs, Bool, fun x => slices_Contains_int_int N x.1 x.2.1, fun r o => r.1, fun b => (b, ()), fun b => ()⟩
theorem slices_Contains_int_int.fit (N : Nat) : (slices_Contains_int_int.D N).Fit := ⟨fun _ _ => rfl, fun _ _ => rfl, by kernel_rfl⟩
noncomputable def slices_Contains_int_int.G (N : Nat) : Gam := gamOf [(62, slices_Index_int_int.D N)]
def slices_Contains_int_int.A : Nat → Option LoopAnn := fun _ => none
noncomputable def slices_Contains_int_int.fin (N : Nat) : St → Option Bool := resK tb Try.f19.results.toList (decRes (slices_Contains_int_int.D N) slices_Contains_int_int.lc)
theorem slices_Contains_int_int.entry (N : Nat) (rec : List Item → St → Option Bool) (x : (argH slices_Contains_int_int.as).den) : seg tb (slices_Contains_int_int.G N) slices_Contains_int_int.A 0 rec (slices_Contains_int_int.fin N) segFuel [.code (bodyOf Try.f19)] (initSt Try.f19 (encArgs slices_Contains_int_int.as x) (encMem slices_Contains_int_int.as x)) = slices_Contains_int_int.e N x.1 x.2.1 := by kernel_rfl
theorem slices_Contains_int_int.ok (N : Nat) : FnOk Try.prog 19 (slices_Contains_int_int.D N) := by
  refine FnOk_of tb_ok (Checked.mixed Try.checked) ⟨Try.f19, Try.func19, by kernel_rfl, by kernel_rfl, fun x y h => ⟨slices_Contains_int_int.G N, slices_Contains_int_int.A, N, gamOf_ok (by simp only [List.forall_mem_cons, List.not_mem_nil, false_implies, implies_true, and_true]; exact ⟨slices_Index_int_int.ok N, slices_Index_int_int.fit N⟩), ?_⟩⟩ (slices_Contains_int_int.fit N)
  rw [absFn_n (n0 := 0) rfl (by kernel_rfl)]
  exact (slices_Contains_int_int.entry N _ x).trans h
/-! ### f5: gamehall/gamehallkeep1.SymmOrbits -/
def gamehallkeep1_SymmOrbits.as : List MK := [.d false (.int .i64), .d false (.int .i64), .d false (.int .i64), .d false (.int .i64)]
def gamehallkeep1_SymmOrbits.rs : List (Bool × HT) := [(false, (.d .bool))]
def gamehallkeep1_SymmOrbits.lc : List AC := []
def gamehallkeep1_SymmOrbits.D (N : Nat) : DFn := ⟨gamehallkeep1_SymmOrbits.as, gamehallkeep1_SymmOrbits.rs, Bool, fun x => gamehallkeep1_SymmOrbits N x.1 x.2.1 x.2.2.1 x.2.2.2.1, fun r o => r.1, fun b => (b, ()), fun b => ()⟩
theorem gamehallkeep1_SymmOrbits.fit (N : Nat) : (gamehallkeep1_SymmOrbits.D N).Fit := ⟨fun _ _ => rfl, fun _ _ => rfl, by kernel_rfl⟩
noncomputable def gamehallkeep1_SymmOrbits.G (N : Nat) : Gam := gamOf [(29, symm_Orbit.D N), (24, slices_Equal_int_int.D N), (30, symm_All.D N), (31, gamehallkeep1_some_int.D N), (18, gamehallkeep1_fine.D N), (19, slices_Contains_int_int.D N)]
def gamehallkeep1_SymmOrbits.A : Nat → Option LoopAnn := fun _ => none
noncomputable def gamehallkeep1_SymmOrbits.fin (N : Nat) : St → Option Bool := resK tb Try.f5.results.toList (decRes (gamehallkeep1_SymmOrbits.D N) gamehallkeep1_SymmOrbits.lc)
theorem gamehallkeep1_SymmOrbits.entry (N : Nat) (rec : List Item → St → Option Bool) (x : (argH gamehallkeep1_SymmOrbits.as).den) : seg tb (gamehallkeep1_SymmOrbits.G N) gamehallkeep1_SymmOrbits.A 0 rec (gamehallkeep1_SymmOrbits.fin N) segFuel [.code (bodyOf Try.f5)] (initSt Try.f5 (encArgs gamehallkeep1_SymmOrbits.as x) (encMem gamehallkeep1_SymmOrbits.as x)) = gamehallkeep1_SymmOrbits.e N x.1 x.2.1 x.2.2.1 x.2.2.2.1 := by kernel_rfl
theorem gamehallkeep1_SymmOrbits.ok (N : Nat) : FnOk Try.prog 5 (gamehallkeep1_SymmOrbits.D N) := by
  refine FnOk_of tb_ok (Checked.mixed Try.checked) ⟨Try.f5, Try.func5, by kernel_rfl, by kernel_rfl, fun x y h => ⟨gamehallkeep1_SymmOrbits.G N, gamehallkeep1_SymmOrbits.A, N, gamOf_ok (by simp only [List.forall_mem_cons, List.not_mem_nil, false_implies, implies_true, and_true]; exact ⟨⟨symm_Orbit.ok N, symm_Orbit.fit N⟩, ⟨slices_Equal_int_int.ok N, slices_Equal_int_int.fit N⟩, ⟨symm_All.ok N, symm_All.fit N⟩, ⟨gamehallkeep1_some_int.ok N, gamehallkeep1_some_int.fit N⟩, ⟨gamehallkeep1_fine.ok N, gamehallkeep1_fine.fit N⟩, ⟨slices_Contains_int_int.ok N, slices_Contains_int_int.fit N⟩⟩), ?_⟩⟩ (gamehallkeep1_SymmOrbits.fit N)
  rw [absFn_n (n0 := 0) rfl (by kernel_rfl)]
  exact (gamehallkeep1_SymmOrbits.entry N _ x).trans h
end Go.Proofs.Ytjmcjiklfhmdlaa.Am
