/- PRINTED by gen.py: the abstract machine evaluates the loaded code to these functions. -/
import Derived.Test.YtiacnffpgdikoaaEvq1
set_option linter.unusedVariables false
set_option linter.unusedSimpArgs false
namespace Go.Proofs.Ytiacnffpgdikoaa.Am
open Go
noncomputable section
set_option maxRecDepth 100000
/-! ### f26: (*gamehall/plain.Game).Count -/
def plain_Game_Count.as : List MK := [.r (.prod (.prod .str (.prod (.int .i64) (.prod (.int .i64) (.prod (.slice 69 (.prod (.int .u8) (.prod (.int .i64) (.prod (.int .i64) (.slice 101 (.prod (.int .i64) (.prod (.int .i64) (.prod (.int .i64) (.int .i64))))))))) (.prod (.slice 3 (.int .i64)) (.prod .bool (.prod .bool (.prod (.slice 71 (.prod (.int .i64) (.prod (.int .i64) (.prod (.int .i64) .bool)))) (.prod (.int .i64) (.prod (.int .i64) (.int .i64))))))))))) (.prod (.slice 29 (.prod (.slice 3 (.int .i64)) (.prod (.prod (.slice 3 (.int .i64)) (.slice 3 (.int .i64))) (.prod (.int .i64) (.int .i64))))) (.slice 42 (.prod (.int .i64) (.prod (.int .i64) (.int .i64))))))]
def plain_Game_Count.rs : List (Bool × HT) := [(false, (.d (.int .i64)))]
def plain_Game_Count.lc : List AC := []
def plain_Game_Count.D (N : Nat) : DFn := ⟨plain_Game_Count.as, plain_Game_Count.rs, Int, fun x => plain_Game_Count N x.1, fun r o => r.1, fun b => (b, ()), fun b => ()⟩
theorem plain_Game_Count.fit (N : Nat) : (plain_Game_Count.D N).Fit := ⟨fun _ _ => rfl, fun _ _ => rfl, by kernel_rfl⟩
noncomputable def plain_Game_Count.G (N : Nat) : Gam := gamI tb [(45, (Try.f45, gamOf []))] [(48, place_Same.D N)]
def plain_Game_Count.A : Nat → Option LoopAnn := fun k => bif Nat.beq k 0 then some ⟨[0, 3, 9, 10, 11], [], [], [], [], 0, false⟩ else bif Nat.beq k 3000045 then some ⟨[], [], [], [], [], 0, false⟩ else none
noncomputable def plain_Game_Count.fin (N : Nat) : St → Option Int := resK tb Try.f26.results.toList (decRes (plain_Game_Count.D N) plain_Game_Count.lc)
noncomputable def plain_Game_Count.k0 : List Item := stackAt [.r, .r, .l, .r, .b] (bodyOf Try.f26) []
def plain_Game_Count.st0 (g_ : (TRules × ((List TPos) × LMv))) (n_ : Int) (t11_ : Int) : St := ⟨[.one (.fp (.prod (.prod .str (.prod (.int .i64) (.prod (.int .i64) (.prod (.slice 69 (.prod (.int .u8) (.prod (.int .i64) (.prod (.int .i64) (.slice 101 (.prod (.int .i64) (.prod (.int .i64) (.prod (.int .i64) (.int .i64))))))))) (.prod (.slice 3 (.int .i64)) (.prod .bool (.prod .bool (.prod (.slice 71 (.prod (.int .i64) (.prod (.int .i64) (.prod (.int .i64) .bool)))) (.prod (.int .i64) (.prod (.int .i64) (.int .i64))))))))))) (.prod (.slice 29 (.prod (.slice 3 (.int .i64)) (.prod (.prod (.slice 3 (.int .i64)) (.slice 3 (.int .i64))) (.prod (.int .i64) (.int .i64))))) (.slice 42 (.prod (.int .i64) (.prod (.int .i64) (.int .i64)))))) g_ 0), .one .any, .one .any, .one (.int .i64 n_)] ++ List.replicate 5 (.one .any) ++ [.one (.fro 29 (.prod (.slice 3 (.int .i64)) (.prod (.prod (.slice 3 (.int .i64)) (.slice 3 (.int .i64))) (.prod (.int .i64) (.int .i64)))) g_.2.1), .one (.int .i64 (g_.2.1.length : Int)), .one (.int .i64 t11_)] ++ List.replicate 11 (.one .any), []⟩
theorem plain_Game_Count.step0 (N : Nat) (rec : List Item → St → Option Int) (g_ : (TRules × ((List TPos) × LMv))) (n_ : Int) (t11_ : Int) : seg tb (plain_Game_Count.G N) plain_Game_Count.A 0 rec (plain_Game_Count.fin N) segFuel (loopBody plain_Game_Count.k0) (plain_Game_Count.st0 g_ n_ t11_) = plain_Game_Count.s0 N g_ (fun n_ t11_ => rec plain_Game_Count.k0 (plain_Game_Count.st0 g_ n_ t11_)) n_ t11_ := by kernel_rfl
theorem plain_Game_Count.entry (N : Nat) (rec : List Item → St → Option Int) (x : (argH plain_Game_Count.as).den) : seg tb (plain_Game_Count.G N) plain_Game_Count.A 0 rec (plain_Game_Count.fin N) segFuel [.code (bodyOf Try.f26)] (initSt Try.f26 (encArgs plain_Game_Count.as x) (encMem plain_Game_Count.as x)) = plain_Game_Count.e N (fun n_ t11_ => rec plain_Game_Count.k0 (plain_Game_Count.st0 x.1 n_ t11_)) x.1 := by kernel_rfl
theorem plain_Game_Count.runs (N : Nat) (g_ : (TRules × ((List TPos) × LMv))) : ∀ n, (∀ (n_ : Int) (t11_ : Int), run tb (plain_Game_Count.G N) plain_Game_Count.A 0 (plain_Game_Count.fin N) n plain_Game_Count.k0 (plain_Game_Count.st0 g_ n_ t11_) = plain_Game_Count.l0 N g_ n n_ t11_)
  | 0 => fun _ _ => rfl
  | n + 1 => by
    have h0 := plain_Game_Count.runs N g_ n
    have e0 : (fun (n_ : Int) (t11_ : Int) => run tb (plain_Game_Count.G N) plain_Game_Count.A 0 (plain_Game_Count.fin N) n plain_Game_Count.k0 (plain_Game_Count.st0 g_ n_ t11_)) = plain_Game_Count.l0 N g_ n := by funext n_ t11_; exact h0 n_ t11_
    have g0 : (∀ (n_ : Int) (t11_ : Int), run tb (plain_Game_Count.G N) plain_Game_Count.A 0 (plain_Game_Count.fin N) (n + 1) plain_Game_Count.k0 (plain_Game_Count.st0 g_ n_ t11_) = plain_Game_Count.l0 N g_ (n + 1) n_ t11_) := by
      intro n_ t11_
      exact (run_succ (by kernel_rfl)).trans ((plain_Game_Count.step0 N _ g_ n_ t11_).trans ((congrArg (fun r0 => plain_Game_Count.s0 N g_ r0 n_ t11_) e0).trans (plain_Game_Count.l0_s N g_ n n_ t11_).symm))
    exact g0
theorem plain_Game_Count.ok (N : Nat) : FnOk Try.prog 26 (plain_Game_Count.D N) := by
  refine FnOk_of tb_ok (Checked.mixed Try.checked) ⟨Try.f26, Try.func26, by kernel_rfl, by kernel_rfl, fun x y h => ⟨plain_Game_Count.G N, plain_Game_Count.A, N, gamI_ok tb_ok (Checked.mixed Try.checked) (by simp only [List.forall_mem_cons, List.not_mem_nil, false_implies, implies_true, and_true]; exact ⟨Try.func45, ⟨by kernel_rfl, by kernel_rfl⟩, gamOf_ok (fun p hp => nomatch hp)⟩) (by simp only [List.forall_mem_cons, List.not_mem_nil, false_implies, implies_true, and_true]; exact ⟨place_Same.ok N, place_Same.fit N⟩), ?_⟩⟩ (plain_Game_Count.fit N)
  rw [absFn_n (n0 := 0) rfl (by kernel_rfl)]
  refine (plain_Game_Count.entry N (run tb (plain_Game_Count.G N) plain_Game_Count.A 0 (plain_Game_Count.fin N) N) x).trans ?_
  have e0 : (fun (n_ : Int) (t11_ : Int) => run tb (plain_Game_Count.G N) plain_Game_Count.A 0 (plain_Game_Count.fin N) N plain_Game_Count.k0 (plain_Game_Count.st0 x.1 n_ t11_)) = plain_Game_Count.l0 N x.1 N := by funext n_ t11_; exact (plain_Game_Count.runs N x.1 N) n_ t11_
  have h' : (plain_Game_Count.D N).f x = plain_Game_Count.e N (plain_Game_Count.l0 N x.1 N) x.1 := by kernel_rfl
  exact (congrArg (fun r0 => plain_Game_Count.e N r0 x.1) e0).trans (h'.symm.trans h)
/-! ### f19: (*gamehall/plain.Game).Result -/
def plain_Game_Result.as : List MK := [.r (.prod (.prod .str (.prod (.int .i64) (.prod (.int .i64) (.prod (.slice 69 (.prod (.int .u8) (.prod (.int .i64) (.prod (.int .i64) (.slice 101 (.prod (.int .i64) (.prod (.int .i64) (.prod (.int .i64) (.int .i64))))))))) (.prod (.slice 3 (.int .i64)) (.prod .bool (.prod .bool (.prod (.slice 71 (.prod (.int .i64) (.prod (.int .i64) (.prod (.int .i64) .bool)))) (.prod (.int .i64) (.prod (.int .i64) (.int .i64))))))))))) (.prod (.slice 29 (.prod (.slice 3 (.int .i64)) (.prod (.prod (.slice 3 (.int .i64)) (.slice 3 (.int .i64))) (.prod (.int .i64) (.int .i64))))) (.slice 42 (.prod (.int .i64) (.prod (.int .i64) (.int .i64))))))]
def plain_Game_Result.rs : List (Bool × HT) := [(false, (.d (.int .i64)))]
def plain_Game_Result.lc : List AC := []
def plain_Game_Result.D (N : Nat) : DFn := ⟨plain_Game_Result.as, plain_Game_Result.rs, Int, fun x => plain_Game_Result N x.1, fun r o => r.1, fun b => (b, ()), fun b => ()⟩
theorem plain_Game_Result.fit (N : Nat) : (plain_Game_Result.D N).Fit := ⟨fun _ _ => rfl, fun _ _ => rfl, by kernel_rfl⟩
noncomputable def plain_Game_Result.G (N : Nat) : Gam := gamI tb [(45, (Try.f45, gamOf []))] [(46, ends_Result.D N), (26, plain_Game_Count.D N)]
def plain_Game_Result.A : Nat → Option LoopAnn := fun k => bif Nat.beq k 3000045 then some ⟨[], [], [], [], [], 0, false⟩ else none
noncomputable def plain_Game_Result.fin (N : Nat) : St → Option Int := resK tb Try.f19.results.toList (decRes (plain_Game_Result.D N) plain_Game_Result.lc)
theorem plain_Game_Result.entry (N : Nat) (rec : List Item → St → Option Int) (x : (argH plain_Game_Result.as).den) : seg tb (plain_Game_Result.G N) plain_Game_Result.A 0 rec (plain_Game_Result.fin N) segFuel [.code (bodyOf Try.f19)] (initSt Try.f19 (encArgs plain_Game_Result.as x) (encMem plain_Game_Result.as x)) = plain_Game_Result.e N x.1 := by kernel_rfl
theorem plain_Game_Result.ok (N : Nat) : FnOk Try.prog 19 (plain_Game_Result.D N) := by
  refine FnOk_of tb_ok (Checked.mixed Try.checked) ⟨Try.f19, Try.func19, by kernel_rfl, by kernel_rfl, fun x y h => ⟨plain_Game_Result.G N, plain_Game_Result.A, N, gamI_ok tb_ok (Checked.mixed Try.checked) (by simp only [List.forall_mem_cons, List.not_mem_nil, false_implies, implies_true, and_true]; exact ⟨Try.func45, ⟨by kernel_rfl, by kernel_rfl⟩, gamOf_ok (fun p hp => nomatch hp)⟩) (by simp only [List.forall_mem_cons, List.not_mem_nil, false_implies, implies_true, and_true]; exact ⟨⟨ends_Result.ok N, ends_Result.fit N⟩, ⟨plain_Game_Count.ok N, plain_Game_Count.fit N⟩⟩), ?_⟩⟩ (plain_Game_Result.fit N)
  rw [absFn_n (n0 := 0) rfl (by kernel_rfl)]
  exact (plain_Game_Result.entry N _ x).trans h
/-! ### f43: slices.Index[[]gamehall/api.Move,gamehall/api.Move] -/
def slices_Index_api_Move_api_Move.as : List MK := [.d false (.slice 42 (.prod (.int .i64) (.prod (.int .i64) (.int .i64)))), .d true (.prod (.int .i64) (.prod (.int .i64) (.int .i64)))]
def slices_Index_api_Move_api_Move.rs : List (Bool × HT) := [(false, (.d (.int .i64)))]
def slices_Index_api_Move_api_Move.lc : List AC := []
def slices_Index_api_Move_api_Move.D (N : Nat) : DFn := ⟨slices_Index_api_Move_api_Move.as, slices_Index_api_Move_api_Move.rs, Int, fun x => slices_Index_api_Move_api_Move N x.1 x.2.1, fun r o => r.1, fun b => (b, ()), fun b => ()⟩
theorem slices_Index_api_Move_api_Move.fit (N : Nat) : (slices_Index_api_Move_api_Move.D N).Fit := ⟨fun _ _ => rfl, fun _ _ => rfl, by kernel_rfl⟩
noncomputable def slices_Index_api_Move_api_Move.G (N : Nat) : Gam := gamOf []
def slices_Index_api_Move_api_Move.A : Nat → Option LoopAnn := fun k => bif Nat.beq k 0 then some ⟨[0, 3, 7, 8], [], [], [], [], 1, false⟩ else none
noncomputable def slices_Index_api_Move_api_Move.fin (N : Nat) : St → Option Int := resK tb Try.f43.results.toList (decRes (slices_Index_api_Move_api_Move.D N) slices_Index_api_Move_api_Move.lc)
noncomputable def slices_Index_api_Move_api_Move.k0 : List Item := stackAt [.r, .l, .r, .b] (bodyOf Try.f43) []
def slices_Index_api_Move_api_Move.st0 (s_ : LMv) (v_ : TMv) (t8_ : Int) : St := ⟨[.one (.fro 42 (.prod (.int .i64) (.prod (.int .i64) (.int .i64))) s_), .one .any, .one .any, .one (.ptr 0 0)] ++ List.replicate 3 (.one .any) ++ [.one (.int .i64 (s_.length : Int)), .one (.int .i64 t8_)] ++ List.replicate 10 (.one .any), [.var 42 [.int .i64 v_.1, .int .i64 v_.2.1, .int .i64 v_.2.2]]⟩
theorem slices_Index_api_Move_api_Move.step0 (N : Nat) (rec : List Item → St → Option Int) (s_ : LMv) (v_ : TMv) (t8_ : Int) : seg tb (slices_Index_api_Move_api_Move.G N) slices_Index_api_Move_api_Move.A 0 rec (slices_Index_api_Move_api_Move.fin N) segFuel (loopBody slices_Index_api_Move_api_Move.k0) (slices_Index_api_Move_api_Move.st0 s_ v_ t8_) = slices_Index_api_Move_api_Move.s0 N s_ v_ (fun t8_ => rec slices_Index_api_Move_api_Move.k0 (slices_Index_api_Move_api_Move.st0 s_ v_ t8_)) t8_ := by kernel_rfl
theorem slices_Index_api_Move_api_Move.entry (N : Nat) (rec : List Item → St → Option Int) (x : (argH slices_Index_api_Move_api_Move.as).den) : seg tb (slices_Index_api_Move_api_Move.G N) slices_Index_api_Move_api_Move.A 0 rec (slices_Index_api_Move_api_Move.fin N) segFuel [.code (bodyOf Try.f43)] (initSt Try.f43 (encArgs slices_Index_api_Move_api_Move.as x) (encMem slices_Index_api_Move_api_Move.as x)) = slices_Index_api_Move_api_Move.e N (fun t8_ => rec slices_Index_api_Move_api_Move.k0 (slices_Index_api_Move_api_Move.st0 x.1 x.2.1 t8_)) x.1 x.2.1 := by kernel_rfl
theorem slices_Index_api_Move_api_Move.runs (N : Nat) (s_ : LMv) (v_ : TMv) : ∀ n, (∀ (t8_ : Int), run tb (slices_Index_api_Move_api_Move.G N) slices_Index_api_Move_api_Move.A 0 (slices_Index_api_Move_api_Move.fin N) n slices_Index_api_Move_api_Move.k0 (slices_Index_api_Move_api_Move.st0 s_ v_ t8_) = slices_Index_api_Move_api_Move.l0 N s_ v_ n t8_)
  | 0 => fun _ => rfl
  | n + 1 => by
    have h0 := slices_Index_api_Move_api_Move.runs N s_ v_ n
    have e0 : (fun (t8_ : Int) => run tb (slices_Index_api_Move_api_Move.G N) slices_Index_api_Move_api_Move.A 0 (slices_Index_api_Move_api_Move.fin N) n slices_Index_api_Move_api_Move.k0 (slices_Index_api_Move_api_Move.st0 s_ v_ t8_)) = slices_Index_api_Move_api_Move.l0 N s_ v_ n := by funext t8_; exact h0 t8_
    have g0 : (∀ (t8_ : Int), run tb (slices_Index_api_Move_api_Move.G N) slices_Index_api_Move_api_Move.A 0 (slices_Index_api_Move_api_Move.fin N) (n + 1) slices_Index_api_Move_api_Move.k0 (slices_Index_api_Move_api_Move.st0 s_ v_ t8_) = slices_Index_api_Move_api_Move.l0 N s_ v_ (n + 1) t8_) := by
      intro t8_
      exact (run_succ (by kernel_rfl)).trans ((slices_Index_api_Move_api_Move.step0 N _ s_ v_ t8_).trans ((congrArg (fun r0 => slices_Index_api_Move_api_Move.s0 N s_ v_ r0 t8_) e0).trans (slices_Index_api_Move_api_Move.l0_s N s_ v_ n t8_).symm))
    exact g0
theorem slices_Index_api_Move_api_Move.ok (N : Nat) : FnOk Try.prog 43 (slices_Index_api_Move_api_Move.D N) := by
  refine FnOk_of tb_ok (Checked.mixed Try.checked) ⟨Try.f43, Try.func43, by kernel_rfl, by kernel_rfl, fun x y h => ⟨slices_Index_api_Move_api_Move.G N, slices_Index_api_Move_api_Move.A, N, gamOf_ok (fun p hp => nomatch hp), ?_⟩⟩ (slices_Index_api_Move_api_Move.fit N)
  rw [absFn_n (n0 := 0) rfl (by kernel_rfl)]
  refine (slices_Index_api_Move_api_Move.entry N (run tb (slices_Index_api_Move_api_Move.G N) slices_Index_api_Move_api_Move.A 0 (slices_Index_api_Move_api_Move.fin N) N) x).trans ?_
  have e0 : (fun (t8_ : Int) => run tb (slices_Index_api_Move_api_Move.G N) slices_Index_api_Move_api_Move.A 0 (slices_Index_api_Move_api_Move.fin N) N slices_Index_api_Move_api_Move.k0 (slices_Index_api_Move_api_Move.st0 x.1 x.2.1 t8_)) = slices_Index_api_Move_api_Move.l0 N x.1 x.2.1 N := by funext t8_; exact (slices_Index_api_Move_api_Move.runs N x.1 x.2.1 N) t8_
  have h' : (slices_Index_api_Move_api_Move.D N).f x = slices_Index_api_Move_api_Move.e N (slices_Index_api_Move_api_Move.l0 N x.1 x.2.1 N) x.1 x.2.1 := by kernel_rfl
  exact (congrArg (fun r0 => slices_Index_api_Move_api_Move.e N r0 x.1 x.2.1) e0).trans (h'.symm.trans h)
/-! ### f14: slices.Contains[[]gamehall/api.Move,gamehall/api.Move] -/
def slices_Contains_api_Move_api_Move.as : List MK := [.d false (.slice 42 (.prod (.int .i64) (.prod (.int .i64) (.int .i64)))), .d true (.prod (.int .i64) (.prod (.int .i64) (.int .i64)))]
def slices_Contains_api_Move_api_Move.rs : List (Bool × HT) := [(false, (.d .bool))]
def slices_Contains_api_Move_api_Move.lc : List AC := []
def slices_Contains_api_Move_api_Move.D (N : Nat) : DFn := ⟨slices_Contains_api_Move_api_Move.as, slices_Contains_api_Move_api_Move.rs, Bool, fun x => slices_Contains_api_Move_api_Move N x.1 x.2.1, fun r o => r.1, fun b => (b, ()), fun b => ()⟩
theorem slices_Contains_api_Move_api_Move.fit (N : Nat) : (slices_Contains_api_Move_api_Move.D N).Fit := ⟨fun _ _ => rfl, fun _ _ => rfl, by kernel_rfl⟩
noncomputable def slices_Contains_api_Move_api_Move.G (N : Nat) : Gam := gamOf [(43, slices_Index_api_Move_api_Move.D N)]
def slices_Contains_api_Move_api_Move.A : Nat → Option LoopAnn := fun _ => none
noncomputable def slices_Contains_api_Move_api_Move.fin (N : Nat) : St → Option Bool := resK tb Try.f14.results.toList (decRes (slices_Contains_api_Move_api_Move.D N) slices_Contains_api_Move_api_Move.lc)
theorem slices_Contains_api_Move_api_Move.entry (N : Nat) (rec : List Item → St → Option Bool) (x : (argH slices_Contains_api_Move_api_Move.as).den) : seg tb (slices_Contains_api_Move_api_Move.G N) slices_Contains_api_Move_api_Move.A 0 rec (slices_Contains_api_Move_api_Move.fin N) segFuel [.code (bodyOf Try.f14)] (initSt Try.f14 (encArgs slices_Contains_api_Move_api_Move.as x) (encMem slices_Contains_api_Move_api_Move.as x)) = slices_Contains_api_Move_api_Move.e N x.1 x.2.1 := by kernel_rfl
theorem slices_Contains_api_Move_api_Move.ok (N : Nat) : FnOk Try.prog 14 (slices_Contains_api_Move_api_Move.D N) := by
  refine FnOk_of tb_ok (Checked.mixed Try.checked) ⟨Try.f14, Try.func14, by kernel_rfl, by kernel_rfl, fun x y h => ⟨slices_Contains_api_Move_api_Move.G N, slices_Contains_api_Move_api_Move.A, N, gamOf_ok (by simp only [List.forall_mem_cons, List.not_mem_nil, false_implies, implies_true, and_true]; exact ⟨slices_Index_api_Move_api_Move.ok N, slices_Index_api_Move_api_Move.fit N⟩), ?_⟩⟩ (slices_Contains_api_Move_api_Move.fit N)
  rw [absFn_n (n0 := 0) rfl (by kernel_rfl)]
  exact (slices_Contains_api_Move_api_Move.entry N _ x).trans h
/-! ### f39: gamehall/moves.Legal -/
def moves_Legal.as : List MK := [.d true (.prod .str (.prod (.int .i64) (.prod (.int .i64) (.prod (.slice 69 (.prod (.int .u8) (.prod (.int .i64) (.prod (.int .i64) (.slice 101 (.prod (.int .i64) (.prod (.int .i64) (.prod (.int .i64) (.int .i64))))))))) (.prod (.slice 3 (.int .i64)) (.prod .bool (.prod .bool (.prod (.slice 71 (.prod (.int .i64) (.prod (.int .i64) (.prod (.int .i64) .bool)))) (.prod (.int .i64) (.prod (.int .i64) (.int .i64))))))))))), .d true (.prod (.slice 3 (.int .i64)) (.prod (.prod (.slice 3 (.int .i64)) (.slice 3 (.int .i64))) (.prod (.int .i64) (.int .i64)))), .d true (.prod (.int .i64) (.prod (.int .i64) (.int .i64)))]
def moves_Legal.rs : List (Bool × HT) := [(false, (.d .bool)), (false, (.d (.int .i64)))]
def moves_Legal.lc : List AC := []
def moves_Legal.D (N : Nat) : DFn := ⟨moves_Legal.as, moves_Legal.rs, (Bool × Int), fun x => moves_Legal N x.1 x.2.1 x.2.2.1, fun r o => (r.1, r.2.1), fun b => (b.1, (b.2, ())), fun b => ()⟩
theorem moves_Legal.fit (N : Nat) : (moves_Legal.D N).Fit := ⟨fun _ _ => rfl, fun _ _ => rfl, by kernel_rfl⟩
noncomputable def moves_Legal.G (N : Nat) : Gam := gamOf [(34, place_Check.D N), (40, moves_Gen.D N), (14, slices_Contains_api_Move_api_Move.D N)]
def moves_Legal.A : Nat → Option LoopAnn := fun _ => none
noncomputable def moves_Legal.fin (N : Nat) : St → Option (Bool × Int) := resK tb Try.f39.results.toList (decRes (moves_Legal.D N) moves_Legal.lc)
theorem moves_Legal.entry (N : Nat) (rec : List Item → St → Option (Bool × Int)) (x : (argH moves_Legal.as).den) : seg tb (moves_Legal.G N) moves_Legal.A 0 rec (moves_Legal.fin N) segFuel [.code (bodyOf Try.f39)] (initSt Try.f39 (encArgs moves_Legal.as x) (encMem moves_Legal.as x)) = moves_Legal.e N x.1 x.2.1 x.2.2.1 := by kernel_rfl
theorem moves_Legal.ok (N : Nat) : FnOk Try.prog 39 (moves_Legal.D N) := by
  refine FnOk_of tb_ok (Checked.mixed Try.checked) ⟨Try.f39, Try.func39, by kernel_rfl, by kernel_rfl, fun x y h => ⟨moves_Legal.G N, moves_Legal.A, N, gamOf_ok (by simp only [List.forall_mem_cons, List.not_mem_nil, false_implies, implies_true, and_true]; exact ⟨⟨place_Check.ok N, place_Check.fit N⟩, ⟨moves_Gen.ok N, moves_Gen.fit N⟩, ⟨slices_Contains_api_Move_api_Move.ok N, slices_Contains_api_Move_api_Move.fit N⟩⟩), ?_⟩⟩ (moves_Legal.fit N)
  rw [absFn_n (n0 := 0) rfl (by kernel_rfl)]
  exact (moves_Legal.entry N _ x).trans h
/-! ### f35: gamehall/place.Copy -/
def place_Copy.as : List MK := [.d true (.prod (.slice 3 (.int .i64)) (.prod (.prod (.slice 3 (.int .i64)) (.slice 3 (.int .i64))) (.prod (.int .i64) (.int .i64))))]
def place_Copy.rs : List (Bool × HT) := [(true, (.prod (.own 3 (.int .i64)) (.prod (.prod (.own 3 (.int .i64)) (.own 3 (.int .i64))) (.d (.prod (.int .i64) (.int .i64))))))]
def place_Copy.lc : List AC := []
def place_Copy.D (N : Nat) : DFn := ⟨place_Copy.as, place_Copy.rs, TPos, fun x => place_Copy N x.1, fun r o => r.1, fun b => (b, ()), fun b => ()⟩
theorem place_Copy.fit (N : Nat) : (place_Copy.D N).Fit := ⟨fun _ _ => rfl, fun _ _ => rfl, by kernel_rfl⟩
noncomputable def place_Copy.G (N : Nat) : Gam := gamOf [(59, slices_Clone_int_int.D N)]
def place_Copy.A : Nat → Option LoopAnn := fun k => bif Nat.beq k 0 then some ⟨[], [], [], [], [], 0, true⟩ else none
noncomputable def place_Copy.fin (N : Nat) : St → Option TPos := resK tb Try.f35.results.toList (decRes (place_Copy.D N) place_Copy.lc)
theorem place_Copy.entry (N : Nat) (rec : List Item → St → Option TPos) (x : (argH place_Copy.as).den) : seg tb (place_Copy.G N) place_Copy.A 0 rec (place_Copy.fin N) segFuel [.code (bodyOf Try.f35)] (initSt Try.f35 (encArgs place_Copy.as x) (encMem place_Copy.as x)) = place_Copy.e N x.1 := by kernel_rfl
theorem place_Copy.ok (N : Nat) : FnOk Try.prog 35 (place_Copy.D N) := by
  refine FnOk_of tb_ok (Checked.mixed Try.checked) ⟨Try.f35, Try.func35, by kernel_rfl, by kernel_rfl, fun x y h => ⟨place_Copy.G N, place_Copy.A, N, gamOf_ok (by simp only [List.forall_mem_cons, List.not_mem_nil, false_implies, implies_true, and_true]; exact ⟨slices_Clone_int_int.ok N, slices_Clone_int_int.fit N⟩), ?_⟩⟩ (place_Copy.fit N)
  rw [absFn_n (n0 := 0) rfl (by kernel_rfl)]
  exact (place_Copy.entry N _ x).trans h
/-! ### f57: gamehall/moves.Do -/
def moves_Do.as : List MK := [.d true (.prod .str (.prod (.int .i64) (.prod (.int .i64) (.prod (.slice 69 (.prod (.int .u8) (.prod (.int .i64) (.prod (.int .i64) (.slice 101 (.prod (.int .i64) (.prod (.int .i64) (.prod (.int .i64) (.int .i64))))))))) (.prod (.slice 3 (.int .i64)) (.prod .bool (.prod .bool (.prod (.slice 71 (.prod (.int .i64) (.prod (.int .i64) (.prod (.int .i64) .bool)))) (.prod (.int .i64) (.prod (.int .i64) (.int .i64))))))))))), .d true (.prod (.slice 3 (.int .i64)) (.prod (.prod (.slice 3 (.int .i64)) (.slice 3 (.int .i64))) (.prod (.int .i64) (.int .i64)))), .d true (.prod (.int .i64) (.prod (.int .i64) (.int .i64)))]
def moves_Do.rs : List (Bool × HT) := [(true, (.prod (.own 3 (.int .i64)) (.prod (.prod (.own 3 (.int .i64)) (.own 3 (.int .i64))) (.d (.prod (.int .i64) (.int .i64))))))]
def moves_Do.lc : List AC := []
def moves_Do.D (N : Nat) : DFn := ⟨moves_Do.as, moves_Do.rs, TPos, fun x => moves_Do N x.1 x.2.1 x.2.2.1, fun r o => r.1, fun b => (b, ()), fun b => ()⟩
theorem moves_Do.fit (N : Nat) : (moves_Do.D N).Fit := ⟨fun _ _ => rfl, fun _ _ => rfl, by kernel_rfl⟩
noncomputable def moves_Do.G (N : Nat) : Gam := gamOf [(35, place_Copy.D N), (63, moves_Kind.D N), (75, moves_Cell.D N)]
def moves_Do.A : Nat → Option LoopAnn := fun _ => none
noncomputable def moves_Do.fin (N : Nat) : St → Option TPos := resK tb Try.f57.results.toList (decRes (moves_Do.D N) moves_Do.lc)
theorem moves_Do.entry (N : Nat) (rec : List Item → St → Option TPos) (x : (argH moves_Do.as).den) : seg tb (moves_Do.G N) moves_Do.A 0 rec (moves_Do.fin N) segFuel [.code (bodyOf Try.f57)] (initSt Try.f57 (encArgs moves_Do.as x) (encMem moves_Do.as x)) = moves_Do.e N x.1 x.2.1 x.2.2.1 := by kernel_rfl
theorem moves_Do.ok (N : Nat) : FnOk Try.prog 57 (moves_Do.D N) := by
  refine FnOk_of tb_ok (Checked.mixed Try.checked) ⟨Try.f57, Try.func57, by kernel_rfl, by kernel_rfl, fun x y h => ⟨moves_Do.G N, moves_Do.A, N, gamOf_ok (by simp only [List.forall_mem_cons, List.not_mem_nil, false_implies, implies_true, and_true]; exact ⟨⟨place_Copy.ok N, place_Copy.fit N⟩, ⟨moves_Kind.ok N, moves_Kind.fit N⟩, ⟨moves_Cell.ok N, moves_Cell.fit N⟩⟩), ?_⟩⟩ (moves_Do.fit N)
  rw [absFn_n (n0 := 0) rfl (by kernel_rfl)]
  exact (moves_Do.entry N _ x).trans h
/-! ### f32: gamehall/moves.After -/
def moves_After.as : List MK := [.d true (.prod .str (.prod (.int .i64) (.prod (.int .i64) (.prod (.slice 69 (.prod (.int .u8) (.prod (.int .i64) (.prod (.int .i64) (.slice 101 (.prod (.int .i64) (.prod (.int .i64) (.prod (.int .i64) (.int .i64))))))))) (.prod (.slice 3 (.int .i64)) (.prod .bool (.prod .bool (.prod (.slice 71 (.prod (.int .i64) (.prod (.int .i64) (.prod (.int .i64) .bool)))) (.prod (.int .i64) (.prod (.int .i64) (.int .i64))))))))))), .d true (.prod (.slice 3 (.int .i64)) (.prod (.prod (.slice 3 (.int .i64)) (.slice 3 (.int .i64))) (.prod (.int .i64) (.int .i64)))), .d true (.prod (.int .i64) (.prod (.int .i64) (.int .i64)))]
def moves_After.rs : List (Bool × HT) := [(true, (.prod (.own 3 (.int .i64)) (.prod (.prod (.own 3 (.int .i64)) (.own 3 (.int .i64))) (.d (.prod (.int .i64) (.int .i64)))))), (false, (.d (.int .i64)))]
def moves_After.lc : List AC := []
def moves_After.D (N : Nat) : DFn := ⟨moves_After.as, moves_After.rs, (TPos × Int), fun x => moves_After N x.1 x.2.1 x.2.2.1, fun r o => (r.1, r.2.1), fun b => (b.1, (b.2, ())), fun b => ()⟩
theorem moves_After.fit (N : Nat) : (moves_After.D N).Fit := ⟨fun _ _ => rfl, fun _ _ => rfl, by kernel_rfl⟩
noncomputable def moves_After.G (N : Nat) : Gam := gamOf [(39, moves_Legal.D N), (57, moves_Do.D N)]
def moves_After.A : Nat → Option LoopAnn := fun _ => none
noncomputable def moves_After.fin (N : Nat) : St → Option (TPos × Int) := resK tb Try.f32.results.toList (decRes (moves_After.D N) moves_After.lc)
theorem moves_After.entry (N : Nat) (rec : List Item → St → Option (TPos × Int)) (x : (argH moves_After.as).den) : seg tb (moves_After.G N) moves_After.A 0 rec (moves_After.fin N) segFuel [.code (bodyOf Try.f32)] (initSt Try.f32 (encArgs moves_After.as x) (encMem moves_After.as x)) = moves_After.e N x.1 x.2.1 x.2.2.1 := by kernel_rfl
theorem moves_After.ok (N : Nat) : FnOk Try.prog 32 (moves_After.D N) := by
  refine FnOk_of tb_ok (Checked.mixed Try.checked) ⟨Try.f32, Try.func32, by kernel_rfl, by kernel_rfl, fun x y h => ⟨moves_After.G N, moves_After.A, N, gamOf_ok (by simp only [List.forall_mem_cons, List.not_mem_nil, false_implies, implies_true, and_true]; exact ⟨⟨moves_Legal.ok N, moves_Legal.fit N⟩, ⟨moves_Do.ok N, moves_Do.fit N⟩⟩), ?_⟩⟩ (moves_After.fit N)
  rw [absFn_n (n0 := 0) rfl (by kernel_rfl)]
  exact (moves_After.entry N _ x).trans h
/-! ### f20: (*gamehall/plain.Game).Play -/
def plain_Game_Play'.as : List MK := [.o (.ptr 83 (.prod (.prod (.d .str) (.prod (.d (.int .i64)) (.prod (.d (.int .i64)) (.prod (.own 69 (.prod (.int .u8) (.prod (.int .i64) (.prod (.int .i64) (.slice 101 (.prod (.int .i64) (.prod (.int .i64) (.prod (.int .i64) (.int .i64))))))))) (.prod (.own 3 (.int .i64)) (.prod (.d .bool) (.prod (.d .bool) (.prod (.own 71 (.prod (.int .i64) (.prod (.int .i64) (.prod (.int .i64) .bool)))) (.d (.prod (.int .i64) (.prod (.int .i64) (.int .i64)))))))))))) (.prod (.own 29 (.prod (.slice 3 (.int .i64)) (.prod (.prod (.slice 3 (.int .i64)) (.slice 3 (.int .i64))) (.prod (.int .i64) (.int .i64))))) (.own 42 (.prod (.int .i64) (.prod (.int .i64) (.int .i64))))))) true, .d true (.prod (.int .i64) (.prod (.int .i64) (.int .i64)))]
def plain_Game_Play'.rs : List (Bool × HT) := [(false, (.d (.int .i64)))]
def plain_Game_Play'.lc : List AC := [.ptr 0 0]
def plain_Game_Play'.D (N : Nat) : DFn := ⟨plain_Game_Play'.as, plain_Game_Play'.rs, (Int × (TRules × ((List TPos) × LMv))), fun x => plain_Game_Play' N x.1 x.2.1, fun r o => (r.1, o.1), fun b => (b.1, ()), fun b => (b.2, ())⟩
theorem plain_Game_Play'.fit (N : Nat) : (plain_Game_Play'.D N).Fit := ⟨fun _ _ => rfl, fun _ _ => rfl, by kernel_rfl⟩
noncomputable def plain_Game_Play'.G (N : Nat) : Gam := gamI tb [(45, (Try.f45, gamOf []))] [(19, plain_Game_Result.D N), (32, moves_After.D N)]
def plain_Game_Play'.A : Nat → Option LoopAnn := fun k => bif Nat.beq k 3000045 then some ⟨[], [], [], [], [], 0, false⟩ else bif Nat.beq k 3999999 then some ⟨[], [], [], [], [], 0, false⟩ else none
noncomputable def plain_Game_Play'.fin (N : Nat) : St → Option (Int × (TRules × ((List TPos) × LMv))) := resK tb Try.f20.results.toList (decRes (plain_Game_Play'.D N) plain_Game_Play'.lc)
theorem plain_Game_Play'.entry (N : Nat) (rec : List Item → St → Option (Int × (TRules × ((List TPos) × LMv)))) (x : (argH plain_Game_Play'.as).den) : seg tb (plain_Game_Play'.G N) plain_Game_Play'.A 6 rec (plain_Game_Play'.fin N) segFuel [.code (bodyOf Try.f20)] (initSt Try.f20 (encArgs plain_Game_Play'.as x) (encMem plain_Game_Play'.as x)) = plain_Game_Play'.e N x.1 x.2.1 := by kernel_rfl
theorem plain_Game_Play'.ok (N : Nat) : FnOk Try.prog 20 (plain_Game_Play'.D N) := by
  refine FnOk_of tb_ok (Checked.mixed Try.checked) ⟨Try.f20, Try.func20, by kernel_rfl, by kernel_rfl, fun x y h => ⟨plain_Game_Play'.G N, plain_Game_Play'.A, N, gamI_ok tb_ok (Checked.mixed Try.checked) (by simp only [List.forall_mem_cons, List.not_mem_nil, false_implies, implies_true, and_true]; exact ⟨Try.func45, ⟨by kernel_rfl, by kernel_rfl⟩, gamOf_ok (fun p hp => nomatch hp)⟩) (by simp only [List.forall_mem_cons, List.not_mem_nil, false_implies, implies_true, and_true]; exact ⟨⟨plain_Game_Result.ok N, plain_Game_Result.fit N⟩, ⟨moves_After.ok N, moves_After.fit N⟩⟩), ?_⟩⟩ (plain_Game_Play'.fit N)
  rw [absFn_n (n0 := 6) rfl (by kernel_rfl)]
  exact (plain_Game_Play'.entry N _ x).trans h
/-! ### f18: (*gamehall/plain.Game).Position -/
def plain_Game_Position.as : List MK := [.r (.prod (.prod .str (.prod (.int .i64) (.prod (.int .i64) (.prod (.slice 69 (.prod (.int .u8) (.prod (.int .i64) (.prod (.int .i64) (.slice 101 (.prod (.int .i64) (.prod (.int .i64) (.prod (.int .i64) (.int .i64))))))))) (.prod (.slice 3 (.int .i64)) (.prod .bool (.prod .bool (.prod (.slice 71 (.prod (.int .i64) (.prod (.int .i64) (.prod (.int .i64) .bool)))) (.prod (.int .i64) (.prod (.int .i64) (.int .i64))))))))))) (.prod (.slice 29 (.prod (.slice 3 (.int .i64)) (.prod (.prod (.slice 3 (.int .i64)) (.slice 3 (.int .i64))) (.prod (.int .i64) (.int .i64))))) (.slice 42 (.prod (.int .i64) (.prod (.int .i64) (.int .i64))))))]
def plain_Game_Position.rs : List (Bool × HT) := [(true, (.prod (.own 3 (.int .i64)) (.prod (.prod (.own 3 (.int .i64)) (.own 3 (.int .i64))) (.d (.prod (.int .i64) (.int .i64))))))]
def plain_Game_Position.lc : List AC := []
def plain_Game_Position.D (N : Nat) : DFn := ⟨plain_Game_Position.as, plain_Game_Position.rs, TPos, fun x => plain_Game_Position N x.1, fun r o => r.1, fun b => (b, ()), fun b => ()⟩
theorem plain_Game_Position.fit (N : Nat) : (plain_Game_Position.D N).Fit := ⟨fun _ _ => rfl, fun _ _ => rfl, by kernel_rfl⟩
noncomputable def plain_Game_Position.G (N : Nat) : Gam := gamI tb [(45, (Try.f45, gamOf []))] [(35, place_Copy.D N)]
def plain_Game_Position.A : Nat → Option LoopAnn := fun _ => none
noncomputable def plain_Game_Position.fin (N : Nat) : St → Option TPos := resK tb Try.f18.results.toList (decRes (plain_Game_Position.D N) plain_Game_Position.lc)
theorem plain_Game_Position.entry (N : Nat) (rec : List Item → St → Option TPos) (x : (argH plain_Game_Position.as).den) : seg tb (plain_Game_Position.G N) plain_Game_Position.A 0 rec (plain_Game_Position.fin N) segFuel [.code (bodyOf Try.f18)] (initSt Try.f18 (encArgs plain_Game_Position.as x) (encMem plain_Game_Position.as x)) = plain_Game_Position.e N x.1 := by kernel_rfl
theorem plain_Game_Position.ok (N : Nat) : FnOk Try.prog 18 (plain_Game_Position.D N) := by
  refine FnOk_of tb_ok (Checked.mixed Try.checked) ⟨Try.f18, Try.func18, by kernel_rfl, by kernel_rfl, fun x y h => ⟨plain_Game_Position.G N, plain_Game_Position.A, N, gamI_ok tb_ok (Checked.mixed Try.checked) (by simp only [List.forall_mem_cons, List.not_mem_nil, false_implies, implies_true, and_true]; exact ⟨Try.func45, ⟨by kernel_rfl, by kernel_rfl⟩, gamOf_ok (fun p hp => nomatch hp)⟩) (by simp only [List.forall_mem_cons, List.not_mem_nil, false_implies, implies_true, and_true]; exact ⟨place_Copy.ok N, place_Copy.fit N⟩), ?_⟩⟩ (plain_Game_Position.fit N)
  rw [absFn_n (n0 := 0) rfl (by kernel_rfl)]
  exact (plain_Game_Position.entry N _ x).trans h
/-! ### f22: gamehall/plain.Run -/
def plain_Run.as : List MK := [.d true (.prod .str (.prod (.int .i64) (.prod (.int .i64) (.prod (.slice 69 (.prod (.int .u8) (.prod (.int .i64) (.prod (.int .i64) (.slice 101 (.prod (.int .i64) (.prod (.int .i64) (.prod (.int .i64) (.int .i64))))))))) (.prod (.slice 3 (.int .i64)) (.prod .bool (.prod .bool (.prod (.slice 71 (.prod (.int .i64) (.prod (.int .i64) (.prod (.int .i64) .bool)))) (.prod (.int .i64) (.prod (.int .i64) (.int .i64))))))))))), .d false (.slice 42 (.prod (.int .i64) (.prod (.int .i64) (.int .i64))))]
def plain_Run.rs : List (Bool × HT) := [(true, (.prod (.own 3 (.int .i64)) (.prod (.prod (.own 3 (.int .i64)) (.own 3 (.int .i64))) (.d (.prod (.int .i64) (.int .i64)))))), (false, (.d (.int .i64))), (false, (.d (.int .i64)))]
def plain_Run.lc : List AC := []
def plain_Run.D (N : Nat) : DFn := ⟨plain_Run.as, plain_Run.rs, (TPos × Int × Int), fun x => plain_Run N x.1 x.2.1, fun r o => (r.1, r.2.1, r.2.2.1), fun b => (b.1, (b.2.1, (b.2.2, ()))), fun b => ()⟩
theorem plain_Run.fit (N : Nat) : (plain_Run.D N).Fit := ⟨fun _ _ => rfl, fun _ _ => rfl, by kernel_rfl⟩
noncomputable def plain_Run.G (N : Nat) : Gam := gamOf [(16, plain_New.D N), (20, plain_Game_Play'.D N), (18, plain_Game_Position.D N), (19, plain_Game_Result.D N)]
def plain_Run.A : Nat → Option LoopAnn := fun k => bif Nat.beq k 0 then some ⟨[4, 7, 21, 22, 23], [], [], [(true, 2, 3, 3), (true, 2, 4, 4), (true, 2, 7, 5), (true, 2, 11, 6), (true, 2, 12, 7)], [0], 8, false⟩ else none
noncomputable def plain_Run.fin (N : Nat) : St → Option (TPos × Int × Int) := resK tb Try.f22.results.toList (decRes (plain_Run.D N) plain_Run.lc)
noncomputable def plain_Run.k0 : List Item := stackAt [.r, .r, .r, .l, .r, .b] (bodyOf Try.f22) []
def plain_Run.st0 (r_ : TRules) (l_ : LMv) (t23_ : Int) (g_ : ByteArray) (g_2 : Int) (g_3 : Int) (g_4 : Bool) (g_5 : Bool) (g_6 : Int) (g_7 : Int) (g_8 : Int) (m3_ : (List TPiece)) (m4_ : LInt) (m5_ : (List TEnd)) (m6_ : (List TPos)) (m7_ : LMv) : St := ⟨List.replicate 4 (.one .any) ++ [.one (.ptr 1 0), .one .any, .one .any, .one (.ptr 2 0)] ++ List.replicate 13 (.one .any) ++ [.one (.fro 42 (.prod (.int .i64) (.prod (.int .i64) (.int .i64))) l_), .one (.int .i64 (l_.length : Int)), .one (.int .i64 t23_)] ++ List.replicate 15 (.one .any), [.gone, .var 29 [.nilS, .nilS, .nilS, .int .i64 0, .int .i64 0], .var 83 [.str g_, .int .i64 g_2, .int .i64 g_3, .own 3, .own 4, .bool g_4, .bool g_5, .own 5, .int .i64 g_6, .int .i64 g_7, .int .i64 g_8, .own 6, .own 7], .row 69 (.prod (.int .u8) (.prod (.int .i64) (.prod (.int .i64) (.slice 101 (.prod (.int .i64) (.prod (.int .i64) (.prod (.int .i64) (.int .i64)))))))) m3_, .row 3 (.int .i64) m4_, .row 71 (.prod (.int .i64) (.prod (.int .i64) (.prod (.int .i64) .bool))) m5_, .row 29 (.prod (.slice 3 (.int .i64)) (.prod (.prod (.slice 3 (.int .i64)) (.slice 3 (.int .i64))) (.prod (.int .i64) (.int .i64)))) m6_, .row 42 (.prod (.int .i64) (.prod (.int .i64) (.int .i64))) m7_]⟩
theorem plain_Run.step0 (N : Nat) (rec : List Item → St → Option (TPos × Int × Int)) (r_ : TRules) (l_ : LMv) (t23_ : Int) (g_ : ByteArray) (g_2 : Int) (g_3 : Int) (g_4 : Bool) (g_5 : Bool) (g_6 : Int) (g_7 : Int) (g_8 : Int) (m3_ : (List TPiece)) (m4_ : LInt) (m5_ : (List TEnd)) (m6_ : (List TPos)) (m7_ : LMv) : seg tb (plain_Run.G N) plain_Run.A 0 rec (plain_Run.fin N) segFuel (loopBody plain_Run.k0) (plain_Run.st0 r_ l_ t23_ g_ g_2 g_3 g_4 g_5 g_6 g_7 g_8 m3_ m4_ m5_ m6_ m7_) = plain_Run.s0 N r_ l_ (fun t23_ g_ g_2 g_3 g_4 g_5 g_6 g_7 g_8 m3_ m4_ m5_ m6_ m7_ => rec plain_Run.k0 (plain_Run.st0 r_ l_ t23_ g_ g_2 g_3 g_4 g_5 g_6 g_7 g_8 m3_ m4_ m5_ m6_ m7_)) t23_ g_ g_2 g_3 g_4 g_5 g_6 g_7 g_8 m3_ m4_ m5_ m6_ m7_ := by kernel_rfl
theorem plain_Run.entry (N : Nat) (rec : List Item → St → Option (TPos × Int × Int)) (x : (argH plain_Run.as).den) : seg tb (plain_Run.G N) plain_Run.A 0 rec (plain_Run.fin N) segFuel [.code (bodyOf Try.f22)] (initSt Try.f22 (encArgs plain_Run.as x) (encMem plain_Run.as x)) = plain_Run.e N (fun t23_ g_ g_2 g_3 g_4 g_5 g_6 g_7 g_8 m3_ m4_ m5_ m6_ m7_ => rec plain_Run.k0 (plain_Run.st0 x.1 x.2.1 t23_ g_ g_2 g_3 g_4 g_5 g_6 g_7 g_8 m3_ m4_ m5_ m6_ m7_)) x.1 x.2.1 := by kernel_rfl
theorem plain_Run.runs (N : Nat) (r_ : TRules) (l_ : LMv) : ∀ n, (∀ (t23_ : Int) (g_ : ByteArray) (g_2 : Int) (g_3 : Int) (g_4 : Bool) (g_5 : Bool) (g_6 : Int) (g_7 : Int) (g_8 : Int) (m3_ : (List TPiece)) (m4_ : LInt) (m5_ : (List TEnd)) (m6_ : (List TPos)) (m7_ : LMv), run tb (plain_Run.G N) plain_Run.A 0 (plain_Run.fin N) n plain_Run.k0 (plain_Run.st0 r_ l_ t23_ g_ g_2 g_3 g_4 g_5 g_6 g_7 g_8 m3_ m4_ m5_ m6_ m7_) = plain_Run.l0 N r_ l_ n t23_ g_ g_2 g_3 g_4 g_5 g_6 g_7 g_8 m3_ m4_ m5_ m6_ m7_)
  | 0 => fun _ _ _ _ _ _ _ _ _ _ _ _ _ _ => rfl
  | n + 1 => by
    have h0 := plain_Run.runs N r_ l_ n
    have e0 : (fun (t23_ : Int) (g_ : ByteArray) (g_2 : Int) (g_3 : Int) (g_4 : Bool) (g_5 : Bool) (g_6 : Int) (g_7 : Int) (g_8 : Int) (m3_ : (List TPiece)) (m4_ : LInt) (m5_ : (List TEnd)) (m6_ : (List TPos)) (m7_ : LMv) => run tb (plain_Run.G N) plain_Run.A 0 (plain_Run.fin N) n plain_Run.k0 (plain_Run.st0 r_ l_ t23_ g_ g_2 g_3 g_4 g_5 g_6 g_7 g_8 m3_ m4_ m5_ m6_ m7_)) = plain_Run.l0 N r_ l_ n := by funext t23_ g_ g_2 g_3 g_4 g_5 g_6 g_7 g_8 m3_ m4_ m5_ m6_ m7_; exact h0 t23_ g_ g_2 g_3 g_4 g_5 g_6 g_7 g_8 m3_ m4_ m5_ m6_ m7_
    have g0 : (∀ (t23_ : Int) (g_ : ByteArray) (g_2 : Int) (g_3 : Int) (g_4 : Bool) (g_5 : Bool) (g_6 : Int) (g_7 : Int) (g_8 : Int) (m3_ : (List TPiece)) (m4_ : LInt) (m5_ : (List TEnd)) (m6_ : (List TPos)) (m7_ : LMv), run tb (plain_Run.G N) plain_Run.A 0 (plain_Run.fin N) (n + 1) plain_Run.k0 (plain_Run.st0 r_ l_ t23_ g_ g_2 g_3 g_4 g_5 g_6 g_7 g_8 m3_ m4_ m5_ m6_ m7_) = plain_Run.l0 N r_ l_ (n + 1) t23_ g_ g_2 g_3 g_4 g_5 g_6 g_7 g_8 m3_ m4_ m5_ m6_ m7_) := by
      intro t23_ g_ g_2 g_3 g_4 g_5 g_6 g_7 g_8 m3_ m4_ m5_ m6_ m7_
      exact (run_succ (by kernel_rfl)).trans ((plain_Run.step0 N _ r_ l_ t23_ g_ g_2 g_3 g_4 g_5 g_6 g_7 g_8 m3_ m4_ m5_ m6_ m7_).trans ((congrArg (fun r0 => plain_Run.s0 N r_ l_ r0 t23_ g_ g_2 g_3 g_4 g_5 g_6 g_7 g_8 m3_ m4_ m5_ m6_ m7_) e0).trans (plain_Run.l0_s N r_ l_ n t23_ g_ g_2 g_3 g_4 g_5 g_6 g_7 g_8 m3_ m4_ m5_ m6_ m7_).symm))
    exact g0
theorem plain_Run.ok (N : Nat) : FnOk Try.prog 22 (plain_Run.D N) := by
  refine FnOk_of tb_ok (Checked.mixed Try.checked) ⟨Try.f22, Try.func22, by kernel_rfl, by kernel_rfl, fun x y h => ⟨plain_Run.G N, plain_Run.A, N, gamOf_ok (by simp only [List.forall_mem_cons, List.not_mem_nil, false_implies, implies_true, and_true]; exact ⟨⟨plain_New.ok N, plain_New.fit N⟩, ⟨plain_Game_Play'.ok N, plain_Game_Play'.fit N⟩, ⟨plain_Game_Position.ok N, plain_Game_Position.fit N⟩, ⟨plain_Game_Result.ok N, plain_Game_Result.fit N⟩⟩), ?_⟩⟩ (plain_Run.fit N)
  rw [absFn_n (n0 := 0) rfl (by kernel_rfl)]
  refine (plain_Run.entry N (run tb (plain_Run.G N) plain_Run.A 0 (plain_Run.fin N) N) x).trans ?_
  have e0 : (fun (t23_ : Int) (g_ : ByteArray) (g_2 : Int) (g_3 : Int) (g_4 : Bool) (g_5 : Bool) (g_6 : Int) (g_7 : Int) (g_8 : Int) (m3_ : (List TPiece)) (m4_ : LInt) (m5_ : (List TEnd)) (m6_ : (List TPos)) (m7_ : LMv) => run tb (plain_Run.G N) plain_Run.A 0 (plain_Run.fin N) N plain_Run.k0 (plain_Run.st0 x.1 x.2.1 t23_ g_ g_2 g_3 g_4 g_5 g_6 g_7 g_8 m3_ m4_ m5_ m6_ m7_)) = plain_Run.l0 N x.1 x.2.1 N := by funext t23_ g_ g_2 g_3 g_4 g_5 g_6 g_7 g_8 m3_ m4_ m5_ m6_ m7_; exact (plain_Run.runs N x.1 x.2.1 N) t23_ g_ g_2 g_3 g_4 g_5 g_6 g_7 g_8 m3_ m4_ m5_ m6_ m7_
  have h' : (plain_Run.D N).f x = plain_Run.e N (plain_Run.l0 N x.1 x.2.1 N) x.1 x.2.1 := by kernel_rfl
  exact (congrArg (fun r0 => plain_Run.e N r0 x.1 x.2.1) e0).trans (h'.symm.trans h)
/-! ### f42: gamehall/gamehallkeep1.fine$1 -/
def gamehallkeep1_fine_1.as : List MK := [.d false (.int .i64)]
def gamehallkeep1_fine_1.rs : List (Bool × HT) := [(false, (.d .bool))]
def gamehallkeep1_fine_1.lc : List AC := []
def gamehallkeep1_fine_1.D (N : Nat) : DFn := ⟨gamehallkeep1_fine_1.as, gamehallkeep1_fine_1.rs, Bool, fun x => gamehallkeep1_fine_1 N x.1, fun r o => r.1, fun b => (b, ()), fun b => ()⟩
theorem gamehallkeep1_fine_1.fit (N : Nat) : (gamehallkeep1_fine_1.D N).Fit := ⟨fun _ _ => rfl, fun _ _ => rfl, by kernel_rfl⟩
noncomputable def gamehallkeep1_fine_1.G (N : Nat) : Gam := gamOf []
def gamehallkeep1_fine_1.A : Nat → Option LoopAnn := fun _ => none
noncomputable def gamehallkeep1_fine_1.fin (N : Nat) : St → Option Bool := resK tb Try.f42.results.toList (decRes (gamehallkeep1_fine_1.D N) gamehallkeep1_fine_1.lc)
theorem gamehallkeep1_fine_1.entry (N : Nat) (rec : List Item → St → Option Bool) (x : (argH gamehallkeep1_fine_1.as).den) : seg tb (gamehallkeep1_fine_1.G N) gamehallkeep1_fine_1.A 0 rec (gamehallkeep1_fine_1.fin N) segFuel [.code (bodyOf Try.f42)] (initSt Try.f42 (encArgs gamehallkeep1_fine_1.as x) (encMem gamehallkeep1_fine_1.as x)) = gamehallkeep1_fine_1.e N x.1 := by kernel_rfl
theorem gamehallkeep1_fine_1.ok (N : Nat) : FnOk Try.prog 42 (gamehallkeep1_fine_1.D N) := by
  refine FnOk_of tb_ok (Checked.mixed Try.checked) ⟨Try.f42, Try.func42, by kernel_rfl, by kernel_rfl, fun x y h => ⟨gamehallkeep1_fine_1.G N, gamehallkeep1_fine_1.A, N, gamOf_ok (fun p hp => nomatch hp), ?_⟩⟩ (gamehallkeep1_fine_1.fit N)
  rw [absFn_n (n0 := 0) rfl (by kernel_rfl)]
  exact (gamehallkeep1_fine_1.entry N _ x).trans h
/-! ### f68: slices.IndexFunc[[]gamehall/api.Errno,gamehall/api.Errno] -/
def slices_IndexFunc_api_Errno_api_Errno.as : List MK := [.d false (.slice 30 (.int .i64)), .f 42]
def slices_IndexFunc_api_Errno_api_Errno.rs : List (Bool × HT) := [(false, (.d (.int .i64)))]
def slices_IndexFunc_api_Errno_api_Errno.lc : List AC := []
def slices_IndexFunc_api_Errno_api_Errno.D (N : Nat) : DFn := ⟨slices_IndexFunc_api_Errno_api_Errno.as, slices_IndexFunc_api_Errno_api_Errno.rs, Int, fun x => slices_IndexFunc_api_Errno_api_Errno N x.1, fun r o => r.1, fun b => (b, ()), fun b => ()⟩
theorem slices_IndexFunc_api_Errno_api_Errno.fit (N : Nat) : (slices_IndexFunc_api_Errno_api_Errno.D N).Fit := ⟨fun _ _ => rfl, fun _ _ => rfl, by kernel_rfl⟩
noncomputable def slices_IndexFunc_api_Errno_api_Errno.G (N : Nat) : Gam := gamOf [(42, gamehallkeep1_fine_1.D N)]
def slices_IndexFunc_api_Errno_api_Errno.A : Nat → Option LoopAnn := fun k => bif Nat.beq k 0 then some ⟨[0, 1, 7, 8], [], [], [], [], 0, false⟩ else none
noncomputable def slices_IndexFunc_api_Errno_api_Errno.fin (N : Nat) : St → Option Int := resK tb Try.f68.results.toList (decRes (slices_IndexFunc_api_Errno_api_Errno.D N) slices_IndexFunc_api_Errno_api_Errno.lc)
noncomputable def slices_IndexFunc_api_Errno_api_Errno.k0 : List Item := stackAt [.r, .l, .r, .b] (bodyOf Try.f68) []
def slices_IndexFunc_api_Errno_api_Errno.st0 (s_ : LInt) (t8_ : Int) : St := ⟨[.one (.fro 30 (.int .i64) s_), .one (.fn 42)] ++ List.replicate 5 (.one .any) ++ [.one (.int .i64 (s_.length : Int)), .one (.int .i64 t8_)] ++ List.replicate 10 (.one .any), []⟩
theorem slices_IndexFunc_api_Errno_api_Errno.step0 (N : Nat) (rec : List Item → St → Option Int) (s_ : LInt) (t8_ : Int) : seg tb (slices_IndexFunc_api_Errno_api_Errno.G N) slices_IndexFunc_api_Errno_api_Errno.A 0 rec (slices_IndexFunc_api_Errno_api_Errno.fin N) segFuel (loopBody slices_IndexFunc_api_Errno_api_Errno.k0) (slices_IndexFunc_api_Errno_api_Errno.st0 s_ t8_) = slices_IndexFunc_api_Errno_api_Errno.s0 N s_ (fun t8_ => rec slices_IndexFunc_api_Errno_api_Errno.k0 (slices_IndexFunc_api_Errno_api_Errno.st0 s_ t8_)) t8_ := by kernel_rfl
theorem slices_IndexFunc_api_Errno_api_Errno.entry (N : Nat) (rec : List Item → St → Option Int) (x : (argH slices_IndexFunc_api_Errno_api_Errno.as).den) : seg tb (slices_IndexFunc_api_Errno_api_Errno.G N) slices_IndexFunc_api_Errno_api_Errno.A 0 rec (slices_IndexFunc_api_Errno_api_Errno.fin N) segFuel [.code (bodyOf Try.f68)] (initSt Try.f68 (encArgs slices_IndexFunc_api_Errno_api_Errno.as x) (encMem slices_IndexFunc_api_Errno_api_Errno.as x)) = slices_IndexFunc_api_Errno_api_Errno.e N (fun t8_ => rec slices_IndexFunc_api_Errno_api_Errno.k0 (slices_IndexFunc_api_Errno_api_Errno.st0 x.1 t8_)) x.1 := by kernel_rfl
theorem slices_IndexFunc_api_Errno_api_Errno.runs (N : Nat) (s_ : LInt) : ∀ n, (∀ (t8_ : Int), run tb (slices_IndexFunc_api_Errno_api_Errno.G N) slices_IndexFunc_api_Errno_api_Errno.A 0 (slices_IndexFunc_api_Errno_api_Errno.fin N) n slices_IndexFunc_api_Errno_api_Errno.k0 (slices_IndexFunc_api_Errno_api_Errno.st0 s_ t8_) = slices_IndexFunc_api_Errno_api_Errno.l0 N s_ n t8_)
  | 0 => fun _ => rfl
  | n + 1 => by
    have h0 := slices_IndexFunc_api_Errno_api_Errno.runs N s_ n
    have e0 : (fun (t8_ : Int) => run tb (slices_IndexFunc_api_Errno_api_Errno.G N) slices_IndexFunc_api_Errno_api_Errno.A 0 (slices_IndexFunc_api_Errno_api_Errno.fin N) n slices_IndexFunc_api_Errno_api_Errno.k0 (slices_IndexFunc_api_Errno_api_Errno.st0 s_ t8_)) = slices_IndexFunc_api_Errno_api_Errno.l0 N s_ n := by funext t8_; exact h0 t8_
    have g0 : (∀ (t8_ : Int), run tb (slices_IndexFunc_api_Errno_api_Errno.G N) slices_IndexFunc_api_Errno_api_Errno.A 0 (slices_IndexFunc_api_Errno_api_Errno.fin N) (n + 1) slices_IndexFunc_api_Errno_api_Errno.k0 (slices_IndexFunc_api_Errno_api_Errno.st0 s_ t8_) = slices_IndexFunc_api_Errno_api_Errno.l0 N s_ (n + 1) t8_) := by
      intro t8_
      exact (run_succ (by kernel_rfl)).trans ((slices_IndexFunc_api_Errno_api_Errno.step0 N _ s_ t8_).trans ((congrArg (fun r0 => slices_IndexFunc_api_Errno_api_Errno.s0 N s_ r0 t8_) e0).trans (slices_IndexFunc_api_Errno_api_Errno.l0_s N s_ n t8_).symm))
    exact g0
theorem slices_IndexFunc_api_Errno_api_Errno.ok (N : Nat) : FnOk Try.prog 68 (slices_IndexFunc_api_Errno_api_Errno.D N) := by
  refine FnOk_of tb_ok (Checked.mixed Try.checked) ⟨Try.f68, Try.func68, by kernel_rfl, by kernel_rfl, fun x y h => ⟨slices_IndexFunc_api_Errno_api_Errno.G N, slices_IndexFunc_api_Errno_api_Errno.A, N, gamOf_ok (by simp only [List.forall_mem_cons, List.not_mem_nil, false_implies, implies_true, and_true]; exact ⟨gamehallkeep1_fine_1.ok N, gamehallkeep1_fine_1.fit N⟩), ?_⟩⟩ (slices_IndexFunc_api_Errno_api_Errno.fit N)
  rw [absFn_n (n0 := 0) rfl (by kernel_rfl)]
  refine (slices_IndexFunc_api_Errno_api_Errno.entry N (run tb (slices_IndexFunc_api_Errno_api_Errno.G N) slices_IndexFunc_api_Errno_api_Errno.A 0 (slices_IndexFunc_api_Errno_api_Errno.fin N) N) x).trans ?_
  have e0 : (fun (t8_ : Int) => run tb (slices_IndexFunc_api_Errno_api_Errno.G N) slices_IndexFunc_api_Errno_api_Errno.A 0 (slices_IndexFunc_api_Errno_api_Errno.fin N) N slices_IndexFunc_api_Errno_api_Errno.k0 (slices_IndexFunc_api_Errno_api_Errno.st0 x.1 t8_)) = slices_IndexFunc_api_Errno_api_Errno.l0 N x.1 N := by funext t8_; exact (slices_IndexFunc_api_Errno_api_Errno.runs N x.1 N) t8_
  have h' : (slices_IndexFunc_api_Errno_api_Errno.D N).f x = slices_IndexFunc_api_Errno_api_Errno.e N (slices_IndexFunc_api_Errno_api_Errno.l0 N x.1 N) x.1 := by kernel_rfl
  exact (congrArg (fun r0 => slices_IndexFunc_api_Errno_api_Errno.e N r0 x.1) e0).trans (h'.symm.trans h)
/-! ### f41: slices.ContainsFunc[[]gamehall/api.Errno,gamehall/api.Errno] -/
def slices_ContainsFunc_api_Errno_api_Errno.as : List MK := [.d false (.slice 30 (.int .i64)), .f 42]
def slices_ContainsFunc_api_Errno_api_Errno.rs : List (Bool × HT) := [(false, (.d .bool))]
def slices_ContainsFunc_api_Errno_api_Errno.lc : List AC := []
def slices_ContainsFunc_api_Errno_api_Errno.D (N : Nat) : DFn := ⟨slices_ContainsFunc_api_Errno_api_Errno.as, slices_ContainsFunc_api_Errno_api_Errno.rs, Bool, fun x => slices_ContainsFunc_api_Errno_api_Errno N x.1, fun r o => r.1, fun b => (b, ()), fun b => ()⟩
theorem slices_ContainsFunc_api_Errno_api_Errno.fit (N : Nat) : (slices_ContainsFunc_api_Errno_api_Errno.D N).Fit := ⟨fun _ _ => rfl, fun _ _ => rfl, by kernel_rfl⟩
noncomputable def slices_ContainsFunc_api_Errno_api_Errno.G (N : Nat) : Gam := gamOf [(68, slices_IndexFunc_api_Errno_api_Errno.D N)]
def slices_ContainsFunc_api_Errno_api_Errno.A : Nat → Option LoopAnn := fun _ => none
noncomputable def slices_ContainsFunc_api_Errno_api_Errno.fin (N : Nat) : St → Option Bool := resK tb Try.f41.results.toList (decRes (slices_ContainsFunc_api_Errno_api_Errno.D N) slices_ContainsFunc_api_Errno_api_Errno.lc)
theorem slices_ContainsFunc_api_Errno_api_Errno.entry (N : Nat) (rec : List Item → St → Option Bool) (x : (argH slices_ContainsFunc_api_Errno_api_Errno.as).den) : seg tb (slices_ContainsFunc_api_Errno_api_Errno.G N) slices_ContainsFunc_api_Errno_api_Errno.A 0 rec (slices_ContainsFunc_api_Errno_api_Errno.fin N) segFuel [.code (bodyOf Try.f41)] (initSt Try.f41 (encArgs slices_ContainsFunc_api_Errno_api_Errno.as x) (encMem slices_ContainsFunc_api_Errno_api_Errno.as x)) = slices_ContainsFunc_api_Errno_api_Errno.e N x.1 := by kernel_rfl
theorem slices_ContainsFunc_api_Errno_api_Errno.ok (N : Nat) : FnOk Try.prog 41 (slices_ContainsFunc_api_Errno_api_Errno.D N) := by
  refine FnOk_of tb_ok (Checked.mixed Try.checked) ⟨Try.f41, Try.func41, by kernel_rfl, by kernel_rfl, fun x y h => ⟨slices_ContainsFunc_api_Errno_api_Errno.G N, slices_ContainsFunc_api_Errno_api_Errno.A, N, gamOf_ok (by simp only [List.forall_mem_cons, List.not_mem_nil, false_implies, implies_true, and_true]; exact ⟨slices_IndexFunc_api_Errno_api_Errno.ok N, slices_IndexFunc_api_Errno_api_Errno.fit N⟩), ?_⟩⟩ (slices_ContainsFunc_api_Errno_api_Errno.fit N)
  rw [absFn_n (n0 := 0) rfl (by kernel_rfl)]
  exact (slices_ContainsFunc_api_Errno_api_Errno.entry N _ x).trans h
/-! ### f12: gamehall/gamehallkeep1.fine -/
def gamehallkeep1_fine.as : List MK := [.d false (.slice 30 (.int .i64))]
def gamehallkeep1_fine.rs : List (Bool × HT) := [(false, (.d .bool))]
def gamehallkeep1_fine.lc : List AC := []
def gamehallkeep1_fine.D (N : Nat) : DFn := ⟨gamehallkeep1_fine.as, gamehallkeep1_fine.rs, Bool, fun x => gamehallkeep1_fine N x.1, fun r o => r.1, fun b => (b, ()), fun b => ()⟩
theorem gamehallkeep1_fine.fit (N : Nat) : (gamehallkeep1_fine.D N).Fit := ⟨fun _ _ => rfl, fun _ _ => rfl, by kernel_rfl⟩
noncomputable def gamehallkeep1_fine.G (N : Nat) : Gam := gamOf [(41, slices_ContainsFunc_api_Errno_api_Errno.D N)]
def gamehallkeep1_fine.A : Nat → Option LoopAnn := fun _ => none
noncomputable def gamehallkeep1_fine.fin (N : Nat) : St → Option Bool := resK tb Try.f12.results.toList (decRes (gamehallkeep1_fine.D N) gamehallkeep1_fine.lc)
theorem gamehallkeep1_fine.entry (N : Nat) (rec : List Item → St → Option Bool) (x : (argH gamehallkeep1_fine.as).den) : seg tb (gamehallkeep1_fine.G N) gamehallkeep1_fine.A 0 rec (gamehallkeep1_fine.fin N) segFuel [.code (bodyOf Try.f12)] (initSt Try.f12 (encArgs gamehallkeep1_fine.as x) (encMem gamehallkeep1_fine.as x)) = gamehallkeep1_fine.e N x.1 := by kernel_rfl
theorem gamehallkeep1_fine.ok (N : Nat) : FnOk Try.prog 12 (gamehallkeep1_fine.D N) := by
  refine FnOk_of tb_ok (Checked.mixed Try.checked) ⟨Try.f12, Try.func12, by kernel_rfl, by kernel_rfl, fun x y h => ⟨gamehallkeep1_fine.G N, gamehallkeep1_fine.A, N, gamOf_ok (by simp only [List.forall_mem_cons, List.not_mem_nil, false_implies, implies_true, and_true]; exact ⟨slices_ContainsFunc_api_Errno_api_Errno.ok N, slices_ContainsFunc_api_Errno_api_Errno.fit N⟩), ?_⟩⟩ (gamehallkeep1_fine.fit N)
  rw [absFn_n (n0 := 0) rfl (by kernel_rfl)]
  exact (gamehallkeep1_fine.entry N _ x).trans h
/-! ### f17: (*gamehall/plain.Game).Back -/
def plain_Game_Back'.as : List MK := [.o (.ptr 83 (.prod (.prod (.d .str) (.prod (.d (.int .i64)) (.prod (.d (.int .i64)) (.prod (.own 69 (.prod (.int .u8) (.prod (.int .i64) (.prod (.int .i64) (.slice 101 (.prod (.int .i64) (.prod (.int .i64) (.prod (.int .i64) (.int .i64))))))))) (.prod (.own 3 (.int .i64)) (.prod (.d .bool) (.prod (.d .bool) (.prod (.own 71 (.prod (.int .i64) (.prod (.int .i64) (.prod (.int .i64) .bool)))) (.d (.prod (.int .i64) (.prod (.int .i64) (.int .i64)))))))))))) (.prod (.own 29 (.prod (.slice 3 (.int .i64)) (.prod (.prod (.slice 3 (.int .i64)) (.slice 3 (.int .i64))) (.prod (.int .i64) (.int .i64))))) (.own 42 (.prod (.int .i64) (.prod (.int .i64) (.int .i64))))))) true]
def plain_Game_Back'.rs : List (Bool × HT) := [(false, (.d (.int .i64)))]
def plain_Game_Back'.lc : List AC := [.ptr 0 0]
def plain_Game_Back'.D (N : Nat) : DFn := ⟨plain_Game_Back'.as, plain_Game_Back'.rs, (Int × (TRules × ((List TPos) × LMv))), fun x => plain_Game_Back' N x.1, fun r o => (r.1, o.1), fun b => (b.1, ()), fun b => (b.2, ())⟩
theorem plain_Game_Back'.fit (N : Nat) : (plain_Game_Back'.D N).Fit := ⟨fun _ _ => rfl, fun _ _ => rfl, by kernel_rfl⟩
noncomputable def plain_Game_Back'.G (N : Nat) : Gam := gamOf []
def plain_Game_Back'.A : Nat → Option LoopAnn := fun _ => none
noncomputable def plain_Game_Back'.fin (N : Nat) : St → Option (Int × (TRules × ((List TPos) × LMv))) := resK tb Try.f17.results.toList (decRes (plain_Game_Back'.D N) plain_Game_Back'.lc)
theorem plain_Game_Back'.entry (N : Nat) (rec : List Item → St → Option (Int × (TRules × ((List TPos) × LMv)))) (x : (argH plain_Game_Back'.as).den) : seg tb (plain_Game_Back'.G N) plain_Game_Back'.A 6 rec (plain_Game_Back'.fin N) segFuel [.code (bodyOf Try.f17)] (initSt Try.f17 (encArgs plain_Game_Back'.as x) (encMem plain_Game_Back'.as x)) = plain_Game_Back'.e N x.1 := by kernel_rfl
theorem plain_Game_Back'.ok (N : Nat) : FnOk Try.prog 17 (plain_Game_Back'.D N) := by
  refine FnOk_of tb_ok (Checked.mixed Try.checked) ⟨Try.f17, Try.func17, by kernel_rfl, by kernel_rfl, fun x y h => ⟨plain_Game_Back'.G N, plain_Game_Back'.A, N, gamOf_ok (fun p hp => nomatch hp), ?_⟩⟩ (plain_Game_Back'.fit N)
  rw [absFn_n (n0 := 6) rfl (by kernel_rfl)]
  exact (plain_Game_Back'.entry N _ x).trans h
/-! ### f23: (*gamehall/plain.Game).Moves -/
def plain_Game_Moves.as : List MK := [.r (.prod (.prod .str (.prod (.int .i64) (.prod (.int .i64) (.prod (.slice 69 (.prod (.int .u8) (.prod (.int .i64) (.prod (.int .i64) (.slice 101 (.prod (.int .i64) (.prod (.int .i64) (.prod (.int .i64) (.int .i64))))))))) (.prod (.slice 3 (.int .i64)) (.prod .bool (.prod .bool (.prod (.slice 71 (.prod (.int .i64) (.prod (.int .i64) (.prod (.int .i64) .bool)))) (.prod (.int .i64) (.prod (.int .i64) (.int .i64))))))))))) (.prod (.slice 29 (.prod (.slice 3 (.int .i64)) (.prod (.prod (.slice 3 (.int .i64)) (.slice 3 (.int .i64))) (.prod (.int .i64) (.int .i64))))) (.slice 42 (.prod (.int .i64) (.prod (.int .i64) (.int .i64))))))]
def plain_Game_Moves.rs : List (Bool × HT) := [(false, (.own 42 (.prod (.int .i64) (.prod (.int .i64) (.int .i64)))))]
def plain_Game_Moves.lc : List AC := []
def plain_Game_Moves.D (N : Nat) : DFn := ⟨plain_Game_Moves.as, plain_Game_Moves.rs, LMv, fun x => plain_Game_Moves N x.1, fun r o => r.1, fun b => (b, ()), fun b => ()⟩
theorem plain_Game_Moves.fit (N : Nat) : (plain_Game_Moves.D N).Fit := ⟨fun _ _ => rfl, fun _ _ => rfl, by kernel_rfl⟩
noncomputable def plain_Game_Moves.G (N : Nat) : Gam := gamOf []
def plain_Game_Moves.A : Nat → Option LoopAnn := fun _ => none
noncomputable def plain_Game_Moves.fin (N : Nat) : St → Option LMv := resK tb Try.f23.results.toList (decRes (plain_Game_Moves.D N) plain_Game_Moves.lc)
theorem plain_Game_Moves.entry (N : Nat) (rec : List Item → St → Option LMv) (x : (argH plain_Game_Moves.as).den) : seg tb (plain_Game_Moves.G N) plain_Game_Moves.A 0 rec (plain_Game_Moves.fin N) segFuel [.code (bodyOf Try.f23)] (initSt Try.f23 (encArgs plain_Game_Moves.as x) (encMem plain_Game_Moves.as x)) = plain_Game_Moves.e N x.1 := by kernel_rfl
theorem plain_Game_Moves.ok (N : Nat) : FnOk Try.prog 23 (plain_Game_Moves.D N) := by
  refine FnOk_of tb_ok (Checked.mixed Try.checked) ⟨Try.f23, Try.func23, by kernel_rfl, by kernel_rfl, fun x y h => ⟨plain_Game_Moves.G N, plain_Game_Moves.A, N, gamOf_ok (fun p hp => nomatch hp), ?_⟩⟩ (plain_Game_Moves.fit N)
  rw [absFn_n (n0 := 0) rfl (by kernel_rfl)]
  exact (plain_Game_Moves.entry N _ x).trans h
/-! ### f15: gamehall/gamehallkeep1.played -/
def gamehallkeep1_played.as : List MK := []
def gamehallkeep1_played.rs : List (Bool × HT) := [(false, (.d .bool))]
def gamehallkeep1_played.lc : List AC := []
def gamehallkeep1_played.D (N : Nat) : DFn := ⟨gamehallkeep1_played.as, gamehallkeep1_played.rs, Bool, fun x => gamehallkeep1_played N, fun r o => r.1, fun b => (b, ()), fun b => ()⟩
theorem gamehallkeep1_played.fit (N : Nat) : (gamehallkeep1_played.D N).Fit := ⟨fun _ _ => rfl, fun _ _ => rfl, by kernel_rfl⟩
noncomputable def gamehallkeep1_played.G (N : Nat) : Gam := gamOf [(8, gamehallkeep1_three.D N), (28, gamehallkeep1_put.D N), (22, plain_Run.D N), (16, plain_New.D N), (12, gamehallkeep1_fine.D N), (20, plain_Game_Play'.D N), (26, plain_Game_Count.D N), (17, plain_Game_Back'.D N), (23, plain_Game_Moves.D N)]
def gamehallkeep1_played.A : Nat → Option LoopAnn := fun _ => none
noncomputable def gamehallkeep1_played.fin (N : Nat) : St → Option Bool := resK tb Try.f15.results.toList (decRes (gamehallkeep1_played.D N) gamehallkeep1_played.lc)
theorem gamehallkeep1_played.entry (N : Nat) (rec : List Item → St → Option Bool) (x : (argH gamehallkeep1_played.as).den) : seg tb (gamehallkeep1_played.G N) gamehallkeep1_played.A 0 rec (gamehallkeep1_played.fin N) segFuel [.code (bodyOf Try.f15)] (initSt Try.f15 (encArgs gamehallkeep1_played.as x) (encMem gamehallkeep1_played.as x)) = gamehallkeep1_played.e N := by kernel_rfl
theorem gamehallkeep1_played.ok (N : Nat) : FnOk Try.prog 15 (gamehallkeep1_played.D N) := by
  refine FnOk_of tb_ok (Checked.mixed Try.checked) ⟨Try.f15, Try.func15, by kernel_rfl, by kernel_rfl, fun x y h => ⟨gamehallkeep1_played.G N, gamehallkeep1_played.A, N, gamOf_ok (by simp only [List.forall_mem_cons, List.not_mem_nil, false_implies, implies_true, and_true]; exact ⟨⟨gamehallkeep1_three.ok N, gamehallkeep1_three.fit N⟩, ⟨gamehallkeep1_put.ok N, gamehallkeep1_put.fit N⟩, ⟨plain_Run.ok N, plain_Run.fit N⟩, ⟨plain_New.ok N, plain_New.fit N⟩, ⟨gamehallkeep1_fine.ok N, gamehallkeep1_fine.fit N⟩, ⟨plain_Game_Play'.ok N, plain_Game_Play'.fit N⟩, ⟨plain_Game_Count.ok N, plain_Game_Count.fit N⟩, ⟨plain_Game_Back'.ok N, plain_Game_Back'.fit N⟩, ⟨plain_Game_Moves.ok N, plain_Game_Moves.fit N⟩⟩), ?_⟩⟩ (gamehallkeep1_played.fit N)
  rw [absFn_n (n0 := 0) rfl (by kernel_rfl)]
  exact (gamehallkeep1_played.entry N _ x).trans h
/-! ### f11: gamehall/moves.All -/
def moves_All.as : List MK := [.d true (.prod .str (.prod (.int .i64) (.prod (.int .i64) (.prod (.slice 69 (.prod (.int .u8) (.prod (.int .i64) (.prod (.int .i64) (.slice 101 (.prod (.int .i64) (.prod (.int .i64) (.prod (.int .i64) (.int .i64))))))))) (.prod (.slice 3 (.int .i64)) (.prod .bool (.prod .bool (.prod (.slice 71 (.prod (.int .i64) (.prod (.int .i64) (.prod (.int .i64) .bool)))) (.prod (.int .i64) (.prod (.int .i64) (.int .i64))))))))))), .d true (.prod (.slice 3 (.int .i64)) (.prod (.prod (.slice 3 (.int .i64)) (.slice 3 (.int .i64))) (.prod (.int .i64) (.int .i64))))]
def moves_All.rs : List (Bool × HT) := [(false, (.own 42 (.prod (.int .i64) (.prod (.int .i64) (.int .i64))))), (false, (.d (.int .i64)))]
def moves_All.lc : List AC := []
def moves_All.D (N : Nat) : DFn := ⟨moves_All.as, moves_All.rs, (LMv × Int), fun x => moves_All N x.1 x.2.1, fun r o => (r.1, r.2.1), fun b => (b.1, (b.2, ())), fun b => ()⟩
theorem moves_All.fit (N : Nat) : (moves_All.D N).Fit := ⟨fun _ _ => rfl, fun _ _ => rfl, by kernel_rfl⟩
noncomputable def moves_All.G (N : Nat) : Gam := gamOf [(34, place_Check.D N), (40, moves_Gen.D N)]
def moves_All.A : Nat → Option LoopAnn := fun _ => none
noncomputable def moves_All.fin (N : Nat) : St → Option (LMv × Int) := resK tb Try.f11.results.toList (decRes (moves_All.D N) moves_All.lc)
theorem moves_All.entry (N : Nat) (rec : List Item → St → Option (LMv × Int)) (x : (argH moves_All.as).den) : seg tb (moves_All.G N) moves_All.A 0 rec (moves_All.fin N) segFuel [.code (bodyOf Try.f11)] (initSt Try.f11 (encArgs moves_All.as x) (encMem moves_All.as x)) = moves_All.e N x.1 x.2.1 := by kernel_rfl
theorem moves_All.ok (N : Nat) : FnOk Try.prog 11 (moves_All.D N) := by
  refine FnOk_of tb_ok (Checked.mixed Try.checked) ⟨Try.f11, Try.func11, by kernel_rfl, by kernel_rfl, fun x y h => ⟨moves_All.G N, moves_All.A, N, gamOf_ok (by simp only [List.forall_mem_cons, List.not_mem_nil, false_implies, implies_true, and_true]; exact ⟨⟨place_Check.ok N, place_Check.fit N⟩, ⟨moves_Gen.ok N, moves_Gen.fit N⟩⟩), ?_⟩⟩ (moves_All.fit N)
  rw [absFn_n (n0 := 0) rfl (by kernel_rfl)]
  exact (moves_All.entry N _ x).trans h
/-! ### f10: gamehall/gamehallkeep1.plays -/
def gamehallkeep1_plays.as : List MK := []
def gamehallkeep1_plays.rs : List (Bool × HT) := [(false, (.d .bool))]
def gamehallkeep1_plays.lc : List AC := []
def gamehallkeep1_plays.D (N : Nat) : DFn := ⟨gamehallkeep1_plays.as, gamehallkeep1_plays.rs, Bool, fun x => gamehallkeep1_plays N, fun r o => r.1, fun b => (b, ()), fun b => ()⟩
theorem gamehallkeep1_plays.fit (N : Nat) : (gamehallkeep1_plays.D N).Fit := ⟨fun _ _ => rfl, fun _ _ => rfl, by kernel_rfl⟩
noncomputable def gamehallkeep1_plays.G (N : Nat) : Gam := gamOf [(8, gamehallkeep1_three.D N), (38, place_Begin.D N), (11, moves_All.D N), (28, gamehallkeep1_put.D N), (32, moves_After.D N), (39, moves_Legal.D N), (12, gamehallkeep1_fine.D N)]
def gamehallkeep1_plays.A : Nat → Option LoopAnn := fun _ => none
noncomputable def gamehallkeep1_plays.fin (N : Nat) : St → Option Bool := resK tb Try.f10.results.toList (decRes (gamehallkeep1_plays.D N) gamehallkeep1_plays.lc)
theorem gamehallkeep1_plays.entry (N : Nat) (rec : List Item → St → Option Bool) (x : (argH gamehallkeep1_plays.as).den) : seg tb (gamehallkeep1_plays.G N) gamehallkeep1_plays.A 0 rec (gamehallkeep1_plays.fin N) segFuel [.code (bodyOf Try.f10)] (initSt Try.f10 (encArgs gamehallkeep1_plays.as x) (encMem gamehallkeep1_plays.as x)) = gamehallkeep1_plays.e N := by kernel_rfl
theorem gamehallkeep1_plays.ok (N : Nat) : FnOk Try.prog 10 (gamehallkeep1_plays.D N) := by
  refine FnOk_of tb_ok (Checked.mixed Try.checked) ⟨Try.f10, Try.func10, by kernel_rfl, by kernel_rfl, fun x y h => ⟨gamehallkeep1_plays.G N, gamehallkeep1_plays.A, N, gamOf_ok (by simp only [List.forall_mem_cons, List.not_mem_nil, false_implies, implies_true, and_true]; exact ⟨⟨gamehallkeep1_three.ok N, gamehallkeep1_three.fit N⟩, ⟨place_Begin.ok N, place_Begin.fit N⟩, ⟨moves_All.ok N, moves_All.fit N⟩, ⟨gamehallkeep1_put.ok N, gamehallkeep1_put.fit N⟩, ⟨moves_After.ok N, moves_After.fit N⟩, ⟨moves_Legal.ok N, moves_Legal.fit N⟩, ⟨gamehallkeep1_fine.ok N, gamehallkeep1_fine.fit N⟩⟩), ?_⟩⟩ (gamehallkeep1_plays.fit N)
  rw [absFn_n (n0 := 0) rfl (by kernel_rfl)]
  exact (gamehallkeep1_plays.entry N _ x).trans h
/-! ### f21: gamehall/gamehallkeep1.some[gamehall/api.Move] -/
def gamehallkeep1_some_api_Move.as : List MK := [.d false (.slice 42 (.prod (.int .i64) (.prod (.int .i64) (.int .i64)))), .d false (.int .i64)]
def gamehallkeep1_some_api_Move.rs : List (Bool × HT) := [(true, (.d (.prod (.int .i64) (.prod (.int .i64) (.int .i64)))))]
def gamehallkeep1_some_api_Move.lc : List AC := []
def gamehallkeep1_some_api_Move.D (N : Nat) : DFn := ⟨gamehallkeep1_some_api_Move.as, gamehallkeep1_some_api_Move.rs, TMv, fun x => gamehallkeep1_some_api_Move N x.1 x.2.1, fun r o => r.1, fun b => (b, ()), fun b => ()⟩
theorem gamehallkeep1_some_api_Move.fit (N : Nat) : (gamehallkeep1_some_api_Move.D N).Fit := ⟨fun _ _ => rfl, fun _ _ => rfl, by kernel_rfl⟩
noncomputable def gamehallkeep1_some_api_Move.G (N : Nat) : Gam := gamOf []
def gamehallkeep1_some_api_Move.A : Nat → Option LoopAnn := fun _ => none
noncomputable def gamehallkeep1_some_api_Move.fin (N : Nat) : St → Option TMv := resK tb Try.f21.results.toList (decRes (gamehallkeep1_some_api_Move.D N) gamehallkeep1_some_api_Move.lc)
theorem gamehallkeep1_some_api_Move.entry (N : Nat) (rec : List Item → St → Option TMv) (x : (argH gamehallkeep1_some_api_Move.as).den) : seg tb (gamehallkeep1_some_api_Move.G N) gamehallkeep1_some_api_Move.A 0 rec (gamehallkeep1_some_api_Move.fin N) segFuel [.code (bodyOf Try.f21)] (initSt Try.f21 (encArgs gamehallkeep1_some_api_Move.as x) (encMem gamehallkeep1_some_api_Move.as x)) = gamehallkeep1_some_api_Move.e N x.1 x.2.1 := by kernel_rfl
theorem gamehallkeep1_some_api_Move.ok (N : Nat) : FnOk Try.prog 21 (gamehallkeep1_some_api_Move.D N) := by
  refine FnOk_of tb_ok (Checked.mixed Try.checked) ⟨Try.f21, Try.func21, by kernel_rfl, by kernel_rfl, fun x y h => ⟨gamehallkeep1_some_api_Move.G N, gamehallkeep1_some_api_Move.A, N, gamOf_ok (fun p hp => nomatch hp), ?_⟩⟩ (gamehallkeep1_some_api_Move.fit N)
  rw [absFn_n (n0 := 0) rfl (by kernel_rfl)]
  exact (gamehallkeep1_some_api_Move.entry N _ x).trans h
/-! ### f5: gamehall/gamehallkeep1.PlainRepeats -/
def gamehallkeep1_PlainRepeats.as : List MK := [.d true (.prod .str (.prod (.int .i64) (.prod (.int .i64) (.prod (.slice 69 (.prod (.int .u8) (.prod (.int .i64) (.prod (.int .i64) (.slice 101 (.prod (.int .i64) (.prod (.int .i64) (.prod (.int .i64) (.int .i64))))))))) (.prod (.slice 3 (.int .i64)) (.prod .bool (.prod .bool (.prod (.slice 71 (.prod (.int .i64) (.prod (.int .i64) (.prod (.int .i64) .bool)))) (.prod (.int .i64) (.prod (.int .i64) (.int .i64))))))))))), .d false (.slice 3 (.int .i64))]
def gamehallkeep1_PlainRepeats.rs : List (Bool × HT) := [(false, (.d .bool))]
def gamehallkeep1_PlainRepeats.lc : List AC := []
def gamehallkeep1_PlainRepeats.D (N : Nat) : DFn := ⟨gamehallkeep1_PlainRepeats.as, gamehallkeep1_PlainRepeats.rs, Bool, fun x => gamehallkeep1_PlainRepeats N x.1 x.2.1, fun r o => r.1, fun b => (b, ()), fun b => ()⟩
theorem gamehallkeep1_PlainRepeats.fit (N : Nat) : (gamehallkeep1_PlainRepeats.D N).Fit := ⟨fun _ _ => rfl, fun _ _ => rfl, by kernel_rfl⟩
noncomputable def gamehallkeep1_PlainRepeats.G (N : Nat) : Gam := gamOf [(9, gamehallkeep1_near.D N), (8, gamehallkeep1_three.D N), (25, ends_Of.D N), (15, gamehallkeep1_played.D N), (10, gamehallkeep1_plays.D N), (16, plain_New.D N), (18, plain_Game_Position.D N), (26, plain_Game_Count.D N), (19, plain_Game_Result.D N), (23, plain_Game_Moves.D N), (11, moves_All.D N), (21, gamehallkeep1_some_api_Move.D N), (20, plain_Game_Play'.D N)]
def gamehallkeep1_PlainRepeats.A : Nat → Option LoopAnn := fun k => bif Nat.beq k 0 then some ⟨[2, 8, 59, 60, 61], [], [], [(true, 8, 3, 9), (true, 8, 4, 10), (true, 8, 7, 11), (true, 8, 11, 12), (true, 8, 12, 13)], [1, 2, 3, 4, 5, 6, 7], 14, false⟩ else none
noncomputable def gamehallkeep1_PlainRepeats.fin (N : Nat) : St → Option Bool := resK tb Try.f5.results.toList (decRes (gamehallkeep1_PlainRepeats.D N) gamehallkeep1_PlainRepeats.lc)
noncomputable def gamehallkeep1_PlainRepeats.k0 : List Item := stackAt [.r, .r, .r, .r, .r, .r, .l, .r, .b] (bodyOf Try.f5) []
def gamehallkeep1_PlainRepeats.st0 (r_ : TRules) (picks : LInt) (t59_ : LInt) (t60_ : Int) (t61_ : Int) (g_ : ByteArray) (g_2 : Int) (g_3 : Int) (g_4 : Bool) (g_5 : Bool) (g_6 : Int) (g_7 : Int) (g_8 : Int) (m9_ : (List TPiece)) (m10_ : LInt) (m11_ : (List TEnd)) (m12_ : (List TPos)) (m13_ : LMv) : St := ⟨[.one .any, .one .any, .one (.ptr 0 0)] ++ List.replicate 5 (.one .any) ++ [.one (.ptr 8 0)] ++ List.replicate 50 (.one .any) ++ [.one (.fro 3 (.int .i64) t59_), .one (.int .i64 t60_), .one (.int .i64 t61_)] ++ List.replicate 69 (.one .any), [.var 26 [.str r_.1, .int .i64 r_.2.1, .int .i64 r_.2.2.1, .fro 69 (.prod (.int .u8) (.prod (.int .i64) (.prod (.int .i64) (.slice 101 (.prod (.int .i64) (.prod (.int .i64) (.prod (.int .i64) (.int .i64)))))))) r_.2.2.2.1, .fro 3 (.int .i64) r_.2.2.2.2.1, .bool r_.2.2.2.2.2.1, .bool r_.2.2.2.2.2.2.1, .fro 71 (.prod (.int .i64) (.prod (.int .i64) (.prod (.int .i64) .bool))) r_.2.2.2.2.2.2.2.1, .int .i64 r_.2.2.2.2.2.2.2.2.1, .int .i64 r_.2.2.2.2.2.2.2.2.2.1, .int .i64 r_.2.2.2.2.2.2.2.2.2.2], .gone, .gone, .gone, .gone, .gone, .gone, .gone, .var 83 [.str g_, .int .i64 g_2, .int .i64 g_3, .own 9, .own 10, .bool g_4, .bool g_5, .own 11, .int .i64 g_6, .int .i64 g_7, .int .i64 g_8, .own 12, .own 13], .row 69 (.prod (.int .u8) (.prod (.int .i64) (.prod (.int .i64) (.slice 101 (.prod (.int .i64) (.prod (.int .i64) (.prod (.int .i64) (.int .i64)))))))) m9_, .row 3 (.int .i64) m10_, .row 71 (.prod (.int .i64) (.prod (.int .i64) (.prod (.int .i64) .bool))) m11_, .row 29 (.prod (.slice 3 (.int .i64)) (.prod (.prod (.slice 3 (.int .i64)) (.slice 3 (.int .i64))) (.prod (.int .i64) (.int .i64)))) m12_, .row 42 (.prod (.int .i64) (.prod (.int .i64) (.int .i64))) m13_]⟩
theorem gamehallkeep1_PlainRepeats.step0 (N : Nat) (rec : List Item → St → Option Bool) (r_ : TRules) (picks : LInt) (t59_ : LInt) (t60_ : Int) (t61_ : Int) (g_ : ByteArray) (g_2 : Int) (g_3 : Int) (g_4 : Bool) (g_5 : Bool) (g_6 : Int) (g_7 : Int) (g_8 : Int) (m9_ : (List TPiece)) (m10_ : LInt) (m11_ : (List TEnd)) (m12_ : (List TPos)) (m13_ : LMv) : seg tb (gamehallkeep1_PlainRepeats.G N) gamehallkeep1_PlainRepeats.A 0 rec (gamehallkeep1_PlainRepeats.fin N) segFuel (loopBody gamehallkeep1_PlainRepeats.k0) (gamehallkeep1_PlainRepeats.st0 r_ picks t59_ t60_ t61_ g_ g_2 g_3 g_4 g_5 g_6 g_7 g_8 m9_ m10_ m11_ m12_ m13_) = gamehallkeep1_PlainRepeats.s0 N r_ picks (fun t59_ t60_ t61_ g_ g_2 g_3 g_4 g_5 g_6 g_7 g_8 m9_ m10_ m11_ m12_ m13_ => rec gamehallkeep1_PlainRepeats.k0 (gamehallkeep1_PlainRepeats.st0 r_ picks t59_ t60_ t61_ g_ g_2 g_3 g_4 g_5 g_6 g_7 g_8 m9_ m10_ m11_ m12_ m13_)) t59_ t60_ t61_ g_ g_2 g_3 g_4 g_5 g_6 g_7 g_8 m9_ m10_ m11_ m12_ m13_ := by kernel_rfl
theorem gamehallkeep1_PlainRepeats.entry (N : Nat) (rec : List Item → St → Option Bool) (x : (argH gamehallkeep1_PlainRepeats.as).den) : seg tb (gamehallkeep1_PlainRepeats.G N) gamehallkeep1_PlainRepeats.A 0 rec (gamehallkeep1_PlainRepeats.fin N) segFuel [.code (bodyOf Try.f5)] (initSt Try.f5 (encArgs gamehallkeep1_PlainRepeats.as x) (encMem gamehallkeep1_PlainRepeats.as x)) = gamehallkeep1_PlainRepeats.e N (fun t59_ t60_ t61_ g_ g_2 g_3 g_4 g_5 g_6 g_7 g_8 m9_ m10_ m11_ m12_ m13_ => rec gamehallkeep1_PlainRepeats.k0 (gamehallkeep1_PlainRepeats.st0 x.1 x.2.1 t59_ t60_ t61_ g_ g_2 g_3 g_4 g_5 g_6 g_7 g_8 m9_ m10_ m11_ m12_ m13_)) x.1 x.2.1 := by kernel_rfl
theorem gamehallkeep1_PlainRepeats.runs (N : Nat) (r_ : TRules) (picks : LInt) : ∀ n, (∀ (t59_ : LInt) (t60_ : Int) (t61_ : Int) (g_ : ByteArray) (g_2 : Int) (g_3 : Int) (g_4 : Bool) (g_5 : Bool) (g_6 : Int) (g_7 : Int) (g_8 : Int) (m9_ : (List TPiece)) (m10_ : LInt) (m11_ : (List TEnd)) (m12_ : (List TPos)) (m13_ : LMv), run tb (gamehallkeep1_PlainRepeats.G N) gamehallkeep1_PlainRepeats.A 0 (gamehallkeep1_PlainRepeats.fin N) n gamehallkeep1_PlainRepeats.k0 (gamehallkeep1_PlainRepeats.st0 r_ picks t59_ t60_ t61_ g_ g_2 g_3 g_4 g_5 g_6 g_7 g_8 m9_ m10_ m11_ m12_ m13_) = gamehallkeep1_PlainRepeats.l0 N r_ picks n t59_ t60_ t61_ g_ g_2 g_3 g_4 g_5 g_6 g_7 g_8 m9_ m10_ m11_ m12_ m13_)
  | 0 => fun _ _ _ _ _ _ _ _ _ _ _ _ _ _ _ _ => rfl
  | n + 1 => by
    have h0 := gamehallkeep1_PlainRepeats.runs N r_ picks n
    have e0 : (fun (t59_ : LInt) (t60_ : Int) (t61_ : Int) (g_ : ByteArray) (g_2 : Int) (g_3 : Int) (g_4 : Bool) (g_5 : Bool) (g_6 : Int) (g_7 : Int) (g_8 : Int) (m9_ : (List TPiece)) (m10_ : LInt) (m11_ : (List TEnd)) (m12_ : (List TPos)) (m13_ : LMv) => run tb (gamehallkeep1_PlainRepeats.G N) gamehallkeep1_PlainRepeats.A 0 (gamehallkeep1_PlainRepeats.fin N) n gamehallkeep1_PlainRepeats.k0 (gamehallkeep1_PlainRepeats.st0 r_ picks t59_ t60_ t61_ g_ g_2 g_3 g_4 g_5 g_6 g_7 g_8 m9_ m10_ m11_ m12_ m13_)) = gamehallkeep1_PlainRepeats.l0 N r_ picks n := by funext t59_ t60_ t61_ g_ g_2 g_3 g_4 g_5 g_6 g_7 g_8 m9_ m10_ m11_ m12_ m13_; exact h0 t59_ t60_ t61_ g_ g_2 g_3 g_4 g_5 g_6 g_7 g_8 m9_ m10_ m11_ m12_ m13_
    have g0 : (∀ (t59_ : LInt) (t60_ : Int) (t61_ : Int) (g_ : ByteArray) (g_2 : Int) (g_3 : Int) (g_4 : Bool) (g_5 : Bool) (g_6 : Int) (g_7 : Int) (g_8 : Int) (m9_ : (List TPiece)) (m10_ : LInt) (m11_ : (List TEnd)) (m12_ : (List TPos)) (m13_ : LMv), run tb (gamehallkeep1_PlainRepeats.G N) gamehallkeep1_PlainRepeats.A 0 (gamehallkeep1_PlainRepeats.fin N) (n + 1) gamehallkeep1_PlainRepeats.k0 (gamehallkeep1_PlainRepeats.st0 r_ picks t59_ t60_ t61_ g_ g_2 g_3 g_4 g_5 g_6 g_7 g_8 m9_ m10_ m11_ m12_ m13_) = gamehallkeep1_PlainRepeats.l0 N r_ picks (n + 1) t59_ t60_ t61_ g_ g_2 g_3 g_4 g_5 g_6 g_7 g_8 m9_ m10_ m11_ m12_ m13_) := by
      intro t59_ t60_ t61_ g_ g_2 g_3 g_4 g_5 g_6 g_7 g_8 m9_ m10_ m11_ m12_ m13_
      exact (run_succ (by kernel_rfl)).trans ((gamehallkeep1_PlainRepeats.step0 N _ r_ picks t59_ t60_ t61_ g_ g_2 g_3 g_4 g_5 g_6 g_7 g_8 m9_ m10_ m11_ m12_ m13_).trans ((congrArg (fun r0 => gamehallkeep1_PlainRepeats.s0 N r_ picks r0 t59_ t60_ t61_ g_ g_2 g_3 g_4 g_5 g_6 g_7 g_8 m9_ m10_ m11_ m12_ m13_) e0).trans (gamehallkeep1_PlainRepeats.l0_s N r_ picks n t59_ t60_ t61_ g_ g_2 g_3 g_4 g_5 g_6 g_7 g_8 m9_ m10_ m11_ m12_ m13_).symm))
    exact g0
theorem gamehallkeep1_PlainRepeats.ok (N : Nat) : FnOk Try.prog 5 (gamehallkeep1_PlainRepeats.D N) := by
  refine FnOk_of tb_ok (Checked.mixed Try.checked) ⟨Try.f5, Try.func5, by kernel_rfl, by kernel_rfl, fun x y h => ⟨gamehallkeep1_PlainRepeats.G N, gamehallkeep1_PlainRepeats.A, N, gamOf_ok (by simp only [List.forall_mem_cons, List.not_mem_nil, false_implies, implies_true, and_true]; exact ⟨⟨gamehallkeep1_near.ok N, gamehallkeep1_near.fit N⟩, ⟨gamehallkeep1_three.ok N, gamehallkeep1_three.fit N⟩, ⟨ends_Of.ok N, ends_Of.fit N⟩, ⟨gamehallkeep1_played.ok N, gamehallkeep1_played.fit N⟩, ⟨gamehallkeep1_plays.ok N, gamehallkeep1_plays.fit N⟩, ⟨plain_New.ok N, plain_New.fit N⟩, ⟨plain_Game_Position.ok N, plain_Game_Position.fit N⟩, ⟨plain_Game_Count.ok N, plain_Game_Count.fit N⟩, ⟨plain_Game_Result.ok N, plain_Game_Result.fit N⟩, ⟨plain_Game_Moves.ok N, plain_Game_Moves.fit N⟩, ⟨moves_All.ok N, moves_All.fit N⟩, ⟨gamehallkeep1_some_api_Move.ok N, gamehallkeep1_some_api_Move.fit N⟩, ⟨plain_Game_Play'.ok N, plain_Game_Play'.fit N⟩⟩), ?_⟩⟩ (gamehallkeep1_PlainRepeats.fit N)
  rw [absFn_n (n0 := 0) rfl (by kernel_rfl)]
  refine (gamehallkeep1_PlainRepeats.entry N (run tb (gamehallkeep1_PlainRepeats.G N) gamehallkeep1_PlainRepeats.A 0 (gamehallkeep1_PlainRepeats.fin N) N) x).trans ?_
  have e0 : (fun (t59_ : LInt) (t60_ : Int) (t61_ : Int) (g_ : ByteArray) (g_2 : Int) (g_3 : Int) (g_4 : Bool) (g_5 : Bool) (g_6 : Int) (g_7 : Int) (g_8 : Int) (m9_ : (List TPiece)) (m10_ : LInt) (m11_ : (List TEnd)) (m12_ : (List TPos)) (m13_ : LMv) => run tb (gamehallkeep1_PlainRepeats.G N) gamehallkeep1_PlainRepeats.A 0 (gamehallkeep1_PlainRepeats.fin N) N gamehallkeep1_PlainRepeats.k0 (gamehallkeep1_PlainRepeats.st0 x.1 x.2.1 t59_ t60_ t61_ g_ g_2 g_3 g_4 g_5 g_6 g_7 g_8 m9_ m10_ m11_ m12_ m13_)) = gamehallkeep1_PlainRepeats.l0 N x.1 x.2.1 N := by funext t59_ t60_ t61_ g_ g_2 g_3 g_4 g_5 g_6 g_7 g_8 m9_ m10_ m11_ m12_ m13_; exact (gamehallkeep1_PlainRepeats.runs N x.1 x.2.1 N) t59_ t60_ t61_ g_ g_2 g_3 g_4 g_5 g_6 g_7 g_8 m9_ m10_ m11_ m12_ m13_
  have h' : (gamehallkeep1_PlainRepeats.D N).f x = gamehallkeep1_PlainRepeats.e N (gamehallkeep1_PlainRepeats.l0 N x.1 x.2.1 N) x.1 x.2.1 := by kernel_rfl
  exact (congrArg (fun r0 => gamehallkeep1_PlainRepeats.e N r0 x.1 x.2.1) e0).trans (h'.symm.trans h)
end
end Go.Proofs.Ytiacnffpgdikoaa.Am
