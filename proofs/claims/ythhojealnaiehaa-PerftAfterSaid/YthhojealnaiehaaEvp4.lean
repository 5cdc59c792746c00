/- PRINTED by gen.py: the abstract machine evaluates the loaded code to these functions. -/
import Derived.Test.YthhojealnaiehaaEvp2
set_option linter.unusedVariables false
set_option linter.unusedSimpArgs false
namespace Go.Proofs.Ythhojealnaiehaa.Am
open Go
noncomputable section
set_option maxRecDepth 100000
/-! ### f87: gamehall/place.Fresh -/
def place_Fresh.as : List MK := [.d true (.prod .str (.prod (.int .i64) (.prod (.int .i64) (.prod (.slice 96 (.prod (.int .u8) (.prod (.int .i64) (.prod (.int .i64) (.slice 130 (.prod (.int .i64) (.prod (.int .i64) (.prod (.int .i64) (.int .i64))))))))) (.prod (.slice 3 (.int .i64)) (.prod .bool (.prod .bool (.prod (.slice 98 (.prod (.int .i64) (.prod (.int .i64) (.prod (.int .i64) .bool)))) (.prod (.int .i64) (.prod (.int .i64) (.int .i64)))))))))))]
def place_Fresh.rs : List (Bool × HT) := [(true, (.prod (.own 3 (.int .i64)) (.prod (.prod (.own 3 (.int .i64)) (.own 3 (.int .i64))) (.d (.prod (.int .i64) (.int .i64))))))]
def place_Fresh.lc : List AC := []
def place_Fresh.D (N : Nat) : DFn := ⟨place_Fresh.as, place_Fresh.rs, ((List Int) × (((List Int) × (List Int)) × (Int × Int))), fun x => place_Fresh N x.1, fun r o => r.1, fun b => (b, ()), fun b => ()⟩
theorem place_Fresh.fit (N : Nat) : (place_Fresh.D N).Fit := ⟨fun _ _ => rfl, fun _ _ => rfl, by kernel_rfl⟩
noncomputable def place_Fresh.G (N : Nat) : Gam := gamOf [(94, slices_Clone_int_int.D N)]
def place_Fresh.A : Nat → Option LoopAnn := fun k => bif Nat.beq k 0 then some ⟨[1, 2, 3, 11], [], [(3, 1, 3), (3, 2, 3)], [], [], 6, false⟩ else bif Nat.beq k 2 then some ⟨[1, 2, 3, 4, 11, 15, 16, 17], [], [(3, 1, 3), (3, 2, 3)], [(true, 3, 1, 4), (true, 3, 2, 5)], [], 6, false⟩ else bif Nat.beq k 1000008 then some ⟨[4], [], [], [], [], 2, false⟩ else none
noncomputable def place_Fresh.fin (N : Nat) : St → Option ((List Int) × (((List Int) × (List Int)) × (Int × Int))) := resK tb Try.f87.results.toList (decRes (place_Fresh.D N) place_Fresh.lc)
noncomputable def place_Fresh.k0 : List Item := stackAt [.r, .r, .l, .r, .b] (bodyOf Try.f87) []
def place_Fresh.st0 (r_ : (ByteArray × (Int × (Int × ((List (Int × (Int × (Int × (List (Int × (Int × (Int × Int)))))))) × ((List Int) × (Bool × (Bool × ((List (Int × (Int × (Int × Bool)))) × (Int × (Int × Int))))))))))) (t11_ : Int) (m2_ : (List Int)) (m4_ : (List Int)) (m5_ : (List Int)) : St := ⟨[.one .any, .one (.ptr 0 0), .one (.ptr 1 0), .one (.ptr 3 0)] ++ List.replicate 7 (.one .any) ++ [.one (.int .i64 t11_)] ++ List.replicate 23 (.one .any), [.var 26 [.str r_.1, .int .i64 r_.2.1, .int .i64 r_.2.2.1, .fro 96 (.prod (.int .u8) (.prod (.int .i64) (.prod (.int .i64) (.slice 130 (.prod (.int .i64) (.prod (.int .i64) (.prod (.int .i64) (.int .i64)))))))) r_.2.2.2.1, .fro 3 (.int .i64) r_.2.2.2.2.1, .bool r_.2.2.2.2.2.1, .bool r_.2.2.2.2.2.2.1, .fro 98 (.prod (.int .i64) (.prod (.int .i64) (.prod (.int .i64) .bool))) r_.2.2.2.2.2.2.2.1, .int .i64 r_.2.2.2.2.2.2.2.2.1, .int .i64 r_.2.2.2.2.2.2.2.2.2.1, .int .i64 r_.2.2.2.2.2.2.2.2.2.2], .var 38 [.nilS, .nilS, .nilS, .int .i64 0, .int .i64 0], .row 3 (.int .i64) m2_, .var 38 [.own 2, .own 4, .own 5, .int .i64 0, .int .i64 0], .row 3 (.int .i64) m4_, .row 3 (.int .i64) m5_]⟩
noncomputable def place_Fresh.k1 : List Item := stackAt [.r, .r, .l, .r, .b, .w, .r, .r, .l, .b, .r, .r, .b] (bodyOf Try.f87) []
def place_Fresh.st1 (r_ : (ByteArray × (Int × (Int × ((List (Int × (Int × (Int × (List (Int × (Int × (Int × Int)))))))) × ((List Int) × (Bool × (Bool × ((List (Int × (Int × (Int × Bool)))) × (Int × (Int × Int))))))))))) (o_ : Int) (t11_ : Int) (t16_ : Int) (t17_ : Int) (m2_ : (List Int)) (m4_ : (List Int)) (m5_ : (List Int)) : St := ⟨[.one .any, .one (.ptr 0 0), .one (.ptr 1 0), .one (.ptr 3 0), .one (.int .i64 o_)] ++ List.replicate 6 (.one .any) ++ [.one (.int .i64 t11_)] ++ List.replicate 3 (.one .any) ++ [.one (.fro 96 (.prod (.int .u8) (.prod (.int .i64) (.prod (.int .i64) (.slice 130 (.prod (.int .i64) (.prod (.int .i64) (.prod (.int .i64) (.int .i64)))))))) r_.2.2.2.1), .one (.int .i64 t16_), .one (.int .i64 t17_)] ++ List.replicate 17 (.one .any), [.var 26 [.str r_.1, .int .i64 r_.2.1, .int .i64 r_.2.2.1, .fro 96 (.prod (.int .u8) (.prod (.int .i64) (.prod (.int .i64) (.slice 130 (.prod (.int .i64) (.prod (.int .i64) (.prod (.int .i64) (.int .i64)))))))) r_.2.2.2.1, .fro 3 (.int .i64) r_.2.2.2.2.1, .bool r_.2.2.2.2.2.1, .bool r_.2.2.2.2.2.2.1, .fro 98 (.prod (.int .i64) (.prod (.int .i64) (.prod (.int .i64) .bool))) r_.2.2.2.2.2.2.2.1, .int .i64 r_.2.2.2.2.2.2.2.2.1, .int .i64 r_.2.2.2.2.2.2.2.2.2.1, .int .i64 r_.2.2.2.2.2.2.2.2.2.2], .var 38 [.nilS, .nilS, .nilS, .int .i64 0, .int .i64 0], .row 3 (.int .i64) m2_, .var 38 [.own 2, .own 4, .own 5, .int .i64 0, .int .i64 0], .row 3 (.int .i64) m4_, .row 3 (.int .i64) m5_]⟩
theorem place_Fresh.step0 (N : Nat) (rec : List Item → St → Option ((List Int) × (((List Int) × (List Int)) × (Int × Int)))) (r_ : (ByteArray × (Int × (Int × ((List (Int × (Int × (Int × (List (Int × (Int × (Int × Int)))))))) × ((List Int) × (Bool × (Bool × ((List (Int × (Int × (Int × Bool)))) × (Int × (Int × Int))))))))))) (t11_ : Int) (m2_ : (List Int)) (m4_ : (List Int)) (m5_ : (List Int)) : seg tb (place_Fresh.G N) place_Fresh.A 0 rec (place_Fresh.fin N) segFuel (loopBody place_Fresh.k0) (place_Fresh.st0 r_ t11_ m2_ m4_ m5_) = place_Fresh.s0 N r_ (fun t11_ m2_ m4_ m5_ => rec place_Fresh.k0 (place_Fresh.st0 r_ t11_ m2_ m4_ m5_)) (fun o_ t11_ t16_ t17_ m2_ m4_ m5_ => rec place_Fresh.k1 (place_Fresh.st1 r_ o_ t11_ t16_ t17_ m2_ m4_ m5_)) t11_ m2_ m4_ m5_ := by kernel_rfl
theorem place_Fresh.step1 (N : Nat) (rec : List Item → St → Option ((List Int) × (((List Int) × (List Int)) × (Int × Int)))) (r_ : (ByteArray × (Int × (Int × ((List (Int × (Int × (Int × (List (Int × (Int × (Int × Int)))))))) × ((List Int) × (Bool × (Bool × ((List (Int × (Int × (Int × Bool)))) × (Int × (Int × Int))))))))))) (o_ : Int) (t11_ : Int) (t16_ : Int) (t17_ : Int) (m2_ : (List Int)) (m4_ : (List Int)) (m5_ : (List Int)) : seg tb (place_Fresh.G N) place_Fresh.A 0 rec (place_Fresh.fin N) segFuel (loopBody place_Fresh.k1) (place_Fresh.st1 r_ o_ t11_ t16_ t17_ m2_ m4_ m5_) = place_Fresh.s1 N r_ (fun t11_ m2_ m4_ m5_ => rec place_Fresh.k0 (place_Fresh.st0 r_ t11_ m2_ m4_ m5_)) (fun o_ t11_ t16_ t17_ m2_ m4_ m5_ => rec place_Fresh.k1 (place_Fresh.st1 r_ o_ t11_ t16_ t17_ m2_ m4_ m5_)) o_ t11_ t16_ t17_ m2_ m4_ m5_ := by kernel_rfl
theorem place_Fresh.entry (N : Nat) (rec : List Item → St → Option ((List Int) × (((List Int) × (List Int)) × (Int × Int)))) (x : (argH place_Fresh.as).den) : seg tb (place_Fresh.G N) place_Fresh.A 0 rec (place_Fresh.fin N) segFuel [.code (bodyOf Try.f87)] (initSt Try.f87 (encArgs place_Fresh.as x) (encMem place_Fresh.as x)) = place_Fresh.e N (fun t11_ m2_ m4_ m5_ => rec place_Fresh.k0 (place_Fresh.st0 x.1 t11_ m2_ m4_ m5_)) (fun o_ t11_ t16_ t17_ m2_ m4_ m5_ => rec place_Fresh.k1 (place_Fresh.st1 x.1 o_ t11_ t16_ t17_ m2_ m4_ m5_)) x.1 := by kernel_rfl
theorem place_Fresh.runs (N : Nat) (r_ : (ByteArray × (Int × (Int × ((List (Int × (Int × (Int × (List (Int × (Int × (Int × Int)))))))) × ((List Int) × (Bool × (Bool × ((List (Int × (Int × (Int × Bool)))) × (Int × (Int × Int))))))))))) : ∀ n, (∀ (t11_ : Int) (m2_ : (List Int)) (m4_ : (List Int)) (m5_ : (List Int)), run tb (place_Fresh.G N) place_Fresh.A 0 (place_Fresh.fin N) n place_Fresh.k0 (place_Fresh.st0 r_ t11_ m2_ m4_ m5_) = place_Fresh.l0 N r_ n t11_ m2_ m4_ m5_) ∧ (∀ (o_ : Int) (t11_ : Int) (t16_ : Int) (t17_ : Int) (m2_ : (List Int)) (m4_ : (List Int)) (m5_ : (List Int)), run tb (place_Fresh.G N) place_Fresh.A 0 (place_Fresh.fin N) n place_Fresh.k1 (place_Fresh.st1 r_ o_ t11_ t16_ t17_ m2_ m4_ m5_) = place_Fresh.l1 N r_ n o_ t11_ t16_ t17_ m2_ m4_ m5_)
  | 0 => ⟨fun _ _ _ _ => rfl, fun _ _ _ _ _ _ _ => rfl⟩
  | n + 1 => by
    obtain ⟨h0, h1⟩ := place_Fresh.runs N r_ n
    have e0 : (fun (t11_ : Int) (m2_ : (List Int)) (m4_ : (List Int)) (m5_ : (List Int)) => run tb (place_Fresh.G N) place_Fresh.A 0 (place_Fresh.fin N) n place_Fresh.k0 (place_Fresh.st0 r_ t11_ m2_ m4_ m5_)) = place_Fresh.l0 N r_ n := by funext t11_ m2_ m4_ m5_; exact h0 t11_ m2_ m4_ m5_
    have e1 : (fun (o_ : Int) (t11_ : Int) (t16_ : Int) (t17_ : Int) (m2_ : (List Int)) (m4_ : (List Int)) (m5_ : (List Int)) => run tb (place_Fresh.G N) place_Fresh.A 0 (place_Fresh.fin N) n place_Fresh.k1 (place_Fresh.st1 r_ o_ t11_ t16_ t17_ m2_ m4_ m5_)) = place_Fresh.l1 N r_ n := by funext o_ t11_ t16_ t17_ m2_ m4_ m5_; exact h1 o_ t11_ t16_ t17_ m2_ m4_ m5_
    have g0 : (∀ (t11_ : Int) (m2_ : (List Int)) (m4_ : (List Int)) (m5_ : (List Int)), run tb (place_Fresh.G N) place_Fresh.A 0 (place_Fresh.fin N) (n + 1) place_Fresh.k0 (place_Fresh.st0 r_ t11_ m2_ m4_ m5_) = place_Fresh.l0 N r_ (n + 1) t11_ m2_ m4_ m5_) := by
      intro t11_ m2_ m4_ m5_
      exact (run_succ (by kernel_rfl)).trans ((place_Fresh.step0 N _ r_ t11_ m2_ m4_ m5_).trans ((congr (congrArg (fun r0 r1 => place_Fresh.s0 N r_ r0 r1 t11_ m2_ m4_ m5_) e0) e1).trans (place_Fresh.l0_s N r_ n t11_ m2_ m4_ m5_).symm))
    have g1 : (∀ (o_ : Int) (t11_ : Int) (t16_ : Int) (t17_ : Int) (m2_ : (List Int)) (m4_ : (List Int)) (m5_ : (List Int)), run tb (place_Fresh.G N) place_Fresh.A 0 (place_Fresh.fin N) (n + 1) place_Fresh.k1 (place_Fresh.st1 r_ o_ t11_ t16_ t17_ m2_ m4_ m5_) = place_Fresh.l1 N r_ (n + 1) o_ t11_ t16_ t17_ m2_ m4_ m5_) := by
      intro o_ t11_ t16_ t17_ m2_ m4_ m5_
      exact (run_succ (by kernel_rfl)).trans ((place_Fresh.step1 N _ r_ o_ t11_ t16_ t17_ m2_ m4_ m5_).trans ((congr (congrArg (fun r0 r1 => place_Fresh.s1 N r_ r0 r1 o_ t11_ t16_ t17_ m2_ m4_ m5_) e0) e1).trans (place_Fresh.l1_s N r_ n o_ t11_ t16_ t17_ m2_ m4_ m5_).symm))
    exact ⟨g0, g1⟩
theorem place_Fresh.ok (N : Nat) : FnOk Try.prog 87 (place_Fresh.D N) := by
  refine FnOk_of tb_ok (Checked.mixed Try.checked) ⟨Try.f87, Try.func87, by kernel_rfl, by kernel_rfl, fun x y h => ⟨place_Fresh.G N, place_Fresh.A, N, gamOf_ok (by simp only [List.forall_mem_cons, List.not_mem_nil, false_implies, implies_true, and_true]; exact ⟨slices_Clone_int_int.ok N, slices_Clone_int_int.fit N⟩), ?_⟩⟩ (place_Fresh.fit N)
  rw [absFn_n (n0 := 0) rfl (by kernel_rfl)]
  refine (place_Fresh.entry N (run tb (place_Fresh.G N) place_Fresh.A 0 (place_Fresh.fin N) N) x).trans ?_
  have e0 : (fun (t11_ : Int) (m2_ : (List Int)) (m4_ : (List Int)) (m5_ : (List Int)) => run tb (place_Fresh.G N) place_Fresh.A 0 (place_Fresh.fin N) N place_Fresh.k0 (place_Fresh.st0 x.1 t11_ m2_ m4_ m5_)) = place_Fresh.l0 N x.1 N := by funext t11_ m2_ m4_ m5_; exact (place_Fresh.runs N x.1 N).1 t11_ m2_ m4_ m5_
  have e1 : (fun (o_ : Int) (t11_ : Int) (t16_ : Int) (t17_ : Int) (m2_ : (List Int)) (m4_ : (List Int)) (m5_ : (List Int)) => run tb (place_Fresh.G N) place_Fresh.A 0 (place_Fresh.fin N) N place_Fresh.k1 (place_Fresh.st1 x.1 o_ t11_ t16_ t17_ m2_ m4_ m5_)) = place_Fresh.l1 N x.1 N := by funext o_ t11_ t16_ t17_ m2_ m4_ m5_; exact (place_Fresh.runs N x.1 N).2 o_ t11_ t16_ t17_ m2_ m4_ m5_
  have h' : (place_Fresh.D N).f x = place_Fresh.e N (place_Fresh.l0 N x.1 N) (place_Fresh.l1 N x.1 N) x.1 := by kernel_rfl
  exact (congr (congrArg (fun r0 r1 => place_Fresh.e N r0 r1 x.1) e0) e1).trans (h'.symm.trans h)
/-! ### f58: gamehall/place.Begin -/
def place_Begin.as : List MK := [.d true (.prod .str (.prod (.int .i64) (.prod (.int .i64) (.prod (.slice 96 (.prod (.int .u8) (.prod (.int .i64) (.prod (.int .i64) (.slice 130 (.prod (.int .i64) (.prod (.int .i64) (.prod (.int .i64) (.int .i64))))))))) (.prod (.slice 3 (.int .i64)) (.prod .bool (.prod .bool (.prod (.slice 98 (.prod (.int .i64) (.prod (.int .i64) (.prod (.int .i64) .bool)))) (.prod (.int .i64) (.prod (.int .i64) (.int .i64)))))))))))]
def place_Begin.rs : List (Bool × HT) := [(true, (.prod (.own 3 (.int .i64)) (.prod (.prod (.own 3 (.int .i64)) (.own 3 (.int .i64))) (.d (.prod (.int .i64) (.int .i64)))))), (false, (.d (.int .i64)))]
def place_Begin.lc : List AC := []
def place_Begin.D (N : Nat) : DFn := ⟨place_Begin.as, place_Begin.rs, (((List Int) × (((List Int) × (List Int)) × (Int × Int))) × Int), fun x => place_Begin N x.1, fun r o => (r.1, r.2.1), fun b => (b.1, (b.2, ())), fun b => ()⟩
theorem place_Begin.fit (N : Nat) : (place_Begin.D N).Fit := ⟨fun _ _ => rfl, fun _ _ => rfl, by kernel_rfl⟩
noncomputable def place_Begin.G (N : Nat) : Gam := gamOf [(86, rules_Check.D N), (87, place_Fresh.D N)]
def place_Begin.A : Nat → Option LoopAnn := fun _ => none
noncomputable def place_Begin.fin (N : Nat) : St → Option (((List Int) × (((List Int) × (List Int)) × (Int × Int))) × Int) := resK tb Try.f58.results.toList (decRes (place_Begin.D N) place_Begin.lc)
theorem place_Begin.entry (N : Nat) (rec : List Item → St → Option (((List Int) × (((List Int) × (List Int)) × (Int × Int))) × Int)) (x : (argH place_Begin.as).den) : seg tb (place_Begin.G N) place_Begin.A 0 rec (place_Begin.fin N) segFuel [.code (bodyOf Try.f58)] (initSt Try.f58 (encArgs place_Begin.as x) (encMem place_Begin.as x)) = place_Begin.e N x.1 := by kernel_rfl
theorem place_Begin.ok (N : Nat) : FnOk Try.prog 58 (place_Begin.D N) := by
  refine FnOk_of tb_ok (Checked.mixed Try.checked) ⟨Try.f58, Try.func58, by kernel_rfl, by kernel_rfl, fun x y h => ⟨place_Begin.G N, place_Begin.A, N, gamOf_ok (by simp only [List.forall_mem_cons, List.not_mem_nil, false_implies, implies_true, and_true]; exact ⟨⟨rules_Check.ok N, rules_Check.fit N⟩, ⟨place_Fresh.ok N, place_Fresh.fit N⟩⟩), ?_⟩⟩ (place_Begin.fit N)
  rw [absFn_n (n0 := 0) rfl (by kernel_rfl)]
  exact (place_Begin.entry N _ x).trans h
/-! ### f19: gamehall/moves.All -/
def moves_All.as : List MK := [.d true (.prod .str (.prod (.int .i64) (.prod (.int .i64) (.prod (.slice 96 (.prod (.int .u8) (.prod (.int .i64) (.prod (.int .i64) (.slice 130 (.prod (.int .i64) (.prod (.int .i64) (.prod (.int .i64) (.int .i64))))))))) (.prod (.slice 3 (.int .i64)) (.prod .bool (.prod .bool (.prod (.slice 98 (.prod (.int .i64) (.prod (.int .i64) (.prod (.int .i64) .bool)))) (.prod (.int .i64) (.prod (.int .i64) (.int .i64))))))))))), .d true (.prod (.slice 3 (.int .i64)) (.prod (.prod (.slice 3 (.int .i64)) (.slice 3 (.int .i64))) (.prod (.int .i64) (.int .i64))))]
def moves_All.rs : List (Bool × HT) := [(false, (.own 43 (.prod (.int .i64) (.prod (.int .i64) (.int .i64))))), (false, (.d (.int .i64)))]
def moves_All.lc : List AC := []
def moves_All.D (N : Nat) : DFn := ⟨moves_All.as, moves_All.rs, ((List (Int × (Int × Int))) × Int), fun x => moves_All N x.1 x.2.1, fun r o => (r.1, r.2.1), fun b => (b.1, (b.2, ())), fun b => ()⟩
theorem moves_All.fit (N : Nat) : (moves_All.D N).Fit := ⟨fun _ _ => rfl, fun _ _ => rfl, by kernel_rfl⟩
noncomputable def moves_All.G (N : Nat) : Gam := gamOf [(61, place_Check.D N), (62, moves_Gen.D N)]
def moves_All.A : Nat → Option LoopAnn := fun _ => none
noncomputable def moves_All.fin (N : Nat) : St → Option ((List (Int × (Int × Int))) × Int) := resK tb Try.f19.results.toList (decRes (moves_All.D N) moves_All.lc)
theorem moves_All.entry (N : Nat) (rec : List Item → St → Option ((List (Int × (Int × Int))) × Int)) (x : (argH moves_All.as).den) : seg tb (moves_All.G N) moves_All.A 0 rec (moves_All.fin N) segFuel [.code (bodyOf Try.f19)] (initSt Try.f19 (encArgs moves_All.as x) (encMem moves_All.as x)) = moves_All.e N x.1 x.2.1 := by kernel_rfl
theorem moves_All.ok (N : Nat) : FnOk Try.prog 19 (moves_All.D N) := by
  refine FnOk_of tb_ok (Checked.mixed Try.checked) ⟨Try.f19, Try.func19, by kernel_rfl, by kernel_rfl, fun x y h => ⟨moves_All.G N, moves_All.A, N, gamOf_ok (by simp only [List.forall_mem_cons, List.not_mem_nil, false_implies, implies_true, and_true]; exact ⟨⟨place_Check.ok N, place_Check.fit N⟩, ⟨moves_Gen.ok N, moves_Gen.fit N⟩⟩), ?_⟩⟩ (moves_All.fit N)
  rw [absFn_n (n0 := 0) rfl (by kernel_rfl)]
  exact (moves_All.entry N _ x).trans h
/-! ### f104: slices.Index[[]gamehall/api.Move,gamehall/api.Move] -/
def slices_Index_api_Move_api_Move.as : List MK := [.d false (.slice 43 (.prod (.int .i64) (.prod (.int .i64) (.int .i64)))), .d true (.prod (.int .i64) (.prod (.int .i64) (.int .i64)))]
def slices_Index_api_Move_api_Move.rs : List (Bool × HT) := [(false, (.d (.int .i64)))]
def slices_Index_api_Move_api_Move.lc : List AC := []
def slices_Index_api_Move_api_Move.D (N : Nat) : DFn := ⟨slices_Index_api_Move_api_Move.as, slices_Index_api_Move_api_Move.rs, Int, fun x => slices_Index_api_Move_api_Move N x.1 x.2.1, fun r o => r.1, fun b => (b, ()), fun b => ()⟩
theorem slices_Index_api_Move_api_Move.fit (N : Nat) : (slices_Index_api_Move_api_Move.D N).Fit := ⟨fun _ _ => rfl, fun _ _ => rfl, by kernel_rfl⟩
noncomputable def slices_Index_api_Move_api_Move.G (N : Nat) : Gam := gamOf []
def slices_Index_api_Move_api_Move.A : Nat → Option LoopAnn := fun k => bif Nat.beq k 0 then some ⟨[0, 3, 7, 8], [], [], [], [], 1, false⟩ else none
noncomputable def slices_Index_api_Move_api_Move.fin (N : Nat) : St → Option Int := resK tb Try.f104.results.toList (decRes (slices_Index_api_Move_api_Move.D N) slices_Index_api_Move_api_Move.lc)
noncomputable def slices_Index_api_Move_api_Move.k0 : List Item := stackAt [.r, .l, .r, .b] (bodyOf Try.f104) []
def slices_Index_api_Move_api_Move.st0 (s_ : (List (Int × (Int × Int)))) (v_ : (Int × (Int × Int))) (t8_ : Int) : St := ⟨[.one (.fro 43 (.prod (.int .i64) (.prod (.int .i64) (.int .i64))) s_), .one .any, .one .any, .one (.ptr 0 0)] ++ List.replicate 3 (.one .any) ++ [.one (.int .i64 (s_.length : Int)), .one (.int .i64 t8_)] ++ List.replicate 10 (.one .any), [.var 43 [.int .i64 v_.1, .int .i64 v_.2.1, .int .i64 v_.2.2]]⟩
theorem slices_Index_api_Move_api_Move.step0 (N : Nat) (rec : List Item → St → Option Int) (s_ : (List (Int × (Int × Int)))) (v_ : (Int × (Int × Int))) (t8_ : Int) : seg tb (slices_Index_api_Move_api_Move.G N) slices_Index_api_Move_api_Move.A 0 rec (slices_Index_api_Move_api_Move.fin N) segFuel (loopBody slices_Index_api_Move_api_Move.k0) (slices_Index_api_Move_api_Move.st0 s_ v_ t8_) = slices_Index_api_Move_api_Move.s0 N s_ v_ (fun t8_ => rec slices_Index_api_Move_api_Move.k0 (slices_Index_api_Move_api_Move.st0 s_ v_ t8_)) t8_ := by kernel_rfl
theorem slices_Index_api_Move_api_Move.entry (N : Nat) (rec : List Item → St → Option Int) (x : (argH slices_Index_api_Move_api_Move.as).den) : seg tb (slices_Index_api_Move_api_Move.G N) slices_Index_api_Move_api_Move.A 0 rec (slices_Index_api_Move_api_Move.fin N) segFuel [.code (bodyOf Try.f104)] (initSt Try.f104 (encArgs slices_Index_api_Move_api_Move.as x) (encMem slices_Index_api_Move_api_Move.as x)) = slices_Index_api_Move_api_Move.e N (fun t8_ => rec slices_Index_api_Move_api_Move.k0 (slices_Index_api_Move_api_Move.st0 x.1 x.2.1 t8_)) x.1 x.2.1 := by kernel_rfl
theorem slices_Index_api_Move_api_Move.runs (N : Nat) (s_ : (List (Int × (Int × Int)))) (v_ : (Int × (Int × Int))) : ∀ n, (∀ (t8_ : Int), run tb (slices_Index_api_Move_api_Move.G N) slices_Index_api_Move_api_Move.A 0 (slices_Index_api_Move_api_Move.fin N) n slices_Index_api_Move_api_Move.k0 (slices_Index_api_Move_api_Move.st0 s_ v_ t8_) = slices_Index_api_Move_api_Move.l0 N s_ v_ n t8_)
  | 0 => fun _ => rfl
  | n + 1 => by
    have h0 := slices_Index_api_Move_api_Move.runs N s_ v_ n
    have e0 : (fun (t8_ : Int) => run tb (slices_Index_api_Move_api_Move.G N) slices_Index_api_Move_api_Move.A 0 (slices_Index_api_Move_api_Move.fin N) n slices_Index_api_Move_api_Move.k0 (slices_Index_api_Move_api_Move.st0 s_ v_ t8_)) = slices_Index_api_Move_api_Move.l0 N s_ v_ n := by funext t8_; exact h0 t8_
    have g0 : (∀ (t8_ : Int), run tb (slices_Index_api_Move_api_Move.G N) slices_Index_api_Move_api_Move.A 0 (slices_Index_api_Move_api_Move.fin N) (n + 1) slices_Index_api_Move_api_Move.k0 (slices_Index_api_Move_api_Move.st0 s_ v_ t8_) = slices_Index_api_Move_api_Move.l0 N s_ v_ (n + 1) t8_) := by
      intro t8_
      exact (run_succ (by kernel_rfl)).trans ((slices_Index_api_Move_api_Move.step0 N _ s_ v_ t8_).trans ((congrArg (fun r0 => slices_Index_api_Move_api_Move.s0 N s_ v_ r0 t8_) e0).trans (slices_Index_api_Move_api_Move.l0_s N s_ v_ n t8_).symm))
    exact g0
theorem slices_Index_api_Move_api_Move.ok (N : Nat) : FnOk Try.prog 104 (slices_Index_api_Move_api_Move.D N) := by
  refine FnOk_of tb_ok (Checked.mixed Try.checked) ⟨Try.f104, Try.func104, by kernel_rfl, by kernel_rfl, fun x y h => ⟨slices_Index_api_Move_api_Move.G N, slices_Index_api_Move_api_Move.A, N, gamOf_ok (fun p hp => nomatch hp), ?_⟩⟩ (slices_Index_api_Move_api_Move.fit N)
  rw [absFn_n (n0 := 0) rfl (by kernel_rfl)]
  refine (slices_Index_api_Move_api_Move.entry N (run tb (slices_Index_api_Move_api_Move.G N) slices_Index_api_Move_api_Move.A 0 (slices_Index_api_Move_api_Move.fin N) N) x).trans ?_
  have e0 : (fun (t8_ : Int) => run tb (slices_Index_api_Move_api_Move.G N) slices_Index_api_Move_api_Move.A 0 (slices_Index_api_Move_api_Move.fin N) N slices_Index_api_Move_api_Move.k0 (slices_Index_api_Move_api_Move.st0 x.1 x.2.1 t8_)) = slices_Index_api_Move_api_Move.l0 N x.1 x.2.1 N := by funext t8_; exact (slices_Index_api_Move_api_Move.runs N x.1 x.2.1 N) t8_
  have h' : (slices_Index_api_Move_api_Move.D N).f x = slices_Index_api_Move_api_Move.e N (slices_Index_api_Move_api_Move.l0 N x.1 x.2.1 N) x.1 x.2.1 := by kernel_rfl
  exact (congrArg (fun r0 => slices_Index_api_Move_api_Move.e N r0 x.1 x.2.1) e0).trans (h'.symm.trans h)
/-! ### f82: slices.Contains[[]gamehall/api.Move,gamehall/api.Move] -/
def slices_Contains_api_Move_api_Move.as : List MK := [.d false (.slice 43 (.prod (.int .i64) (.prod (.int .i64) (.int .i64)))), .d true (.prod (.int .i64) (.prod (.int .i64) (.int .i64)))]
def slices_Contains_api_Move_api_Move.rs : List (Bool × HT) := [(false, (.d .bool))]
def slices_Contains_api_Move_api_Move.lc : List AC := []
def slices_Contains_api_Move_api_Move.D (N : Nat) : DFn := ⟨slices_Contains_api_Move_api_Move.as, slices_Contains_api_Move_api_Move.rs, Bool, fun x => slices_Contains_api_Move_api_Move N x.1 x.2.1, fun r o => r.1, fun b => (b, ()), fun b => ()⟩
theorem slices_Contains_api_Move_api_Move.fit (N : Nat) : (slices_Contains_api_Move_api_Move.D N).Fit := ⟨fun _ _ => rfl, fun _ _ => rfl, by kernel_rfl⟩
noncomputable def slices_Contains_api_Move_api_Move.G (N : Nat) : Gam := gamOf [(104, slices_Index_api_Move_api_Move.D N)]
def slices_Contains_api_Move_api_Move.A : Nat → Option LoopAnn := fun _ => none
noncomputable def slices_Contains_api_Move_api_Move.fin (N : Nat) : St → Option Bool := resK tb Try.f82.results.toList (decRes (slices_Contains_api_Move_api_Move.D N) slices_Contains_api_Move_api_Move.lc)
theorem slices_Contains_api_Move_api_Move.entry (N : Nat) (rec : List Item → St → Option Bool) (x : (argH slices_Contains_api_Move_api_Move.as).den) : seg tb (slices_Contains_api_Move_api_Move.G N) slices_Contains_api_Move_api_Move.A 0 rec (slices_Contains_api_Move_api_Move.fin N) segFuel [.code (bodyOf Try.f82)] (initSt Try.f82 (encArgs slices_Contains_api_Move_api_Move.as x) (encMem slices_Contains_api_Move_api_Move.as x)) = slices_Contains_api_Move_api_Move.e N x.1 x.2.1 := by kernel_rfl
theorem slices_Contains_api_Move_api_Move.ok (N : Nat) : FnOk Try.prog 82 (slices_Contains_api_Move_api_Move.D N) := by
  refine FnOk_of tb_ok (Checked.mixed Try.checked) ⟨Try.f82, Try.func82, by kernel_rfl, by kernel_rfl, fun x y h => ⟨slices_Contains_api_Move_api_Move.G N, slices_Contains_api_Move_api_Move.A, N, gamOf_ok (by simp only [List.forall_mem_cons, List.not_mem_nil, false_implies, implies_true, and_true]; exact ⟨slices_Index_api_Move_api_Move.ok N, slices_Index_api_Move_api_Move.fit N⟩), ?_⟩⟩ (slices_Contains_api_Move_api_Move.fit N)
  rw [absFn_n (n0 := 0) rfl (by kernel_rfl)]
  exact (slices_Contains_api_Move_api_Move.entry N _ x).trans h
/-! ### f59: gamehall/moves.Legal -/
def moves_Legal.as : List MK := [.d true (.prod .str (.prod (.int .i64) (.prod (.int .i64) (.prod (.slice 96 (.prod (.int .u8) (.prod (.int .i64) (.prod (.int .i64) (.slice 130 (.prod (.int .i64) (.prod (.int .i64) (.prod (.int .i64) (.int .i64))))))))) (.prod (.slice 3 (.int .i64)) (.prod .bool (.prod .bool (.prod (.slice 98 (.prod (.int .i64) (.prod (.int .i64) (.prod (.int .i64) .bool)))) (.prod (.int .i64) (.prod (.int .i64) (.int .i64))))))))))), .d true (.prod (.slice 3 (.int .i64)) (.prod (.prod (.slice 3 (.int .i64)) (.slice 3 (.int .i64))) (.prod (.int .i64) (.int .i64)))), .d true (.prod (.int .i64) (.prod (.int .i64) (.int .i64)))]
def moves_Legal.rs : List (Bool × HT) := [(false, (.d .bool)), (false, (.d (.int .i64)))]
def moves_Legal.lc : List AC := []
def moves_Legal.D (N : Nat) : DFn := ⟨moves_Legal.as, moves_Legal.rs, (Bool × Int), fun x => moves_Legal N x.1 x.2.1 x.2.2.1, fun r o => (r.1, r.2.1), fun b => (b.1, (b.2, ())), fun b => ()⟩
theorem moves_Legal.fit (N : Nat) : (moves_Legal.D N).Fit := ⟨fun _ _ => rfl, fun _ _ => rfl, by kernel_rfl⟩
noncomputable def moves_Legal.G (N : Nat) : Gam := gamOf [(61, place_Check.D N), (62, moves_Gen.D N), (82, slices_Contains_api_Move_api_Move.D N)]
def moves_Legal.A : Nat → Option LoopAnn := fun _ => none
noncomputable def moves_Legal.fin (N : Nat) : St → Option (Bool × Int) := resK tb Try.f59.results.toList (decRes (moves_Legal.D N) moves_Legal.lc)
theorem moves_Legal.entry (N : Nat) (rec : List Item → St → Option (Bool × Int)) (x : (argH moves_Legal.as).den) : seg tb (moves_Legal.G N) moves_Legal.A 0 rec (moves_Legal.fin N) segFuel [.code (bodyOf Try.f59)] (initSt Try.f59 (encArgs moves_Legal.as x) (encMem moves_Legal.as x)) = moves_Legal.e N x.1 x.2.1 x.2.2.1 := by kernel_rfl
theorem moves_Legal.ok (N : Nat) : FnOk Try.prog 59 (moves_Legal.D N) := by
  refine FnOk_of tb_ok (Checked.mixed Try.checked) ⟨Try.f59, Try.func59, by kernel_rfl, by kernel_rfl, fun x y h => ⟨moves_Legal.G N, moves_Legal.A, N, gamOf_ok (by simp only [List.forall_mem_cons, List.not_mem_nil, false_implies, implies_true, and_true]; exact ⟨⟨place_Check.ok N, place_Check.fit N⟩, ⟨moves_Gen.ok N, moves_Gen.fit N⟩, ⟨slices_Contains_api_Move_api_Move.ok N, slices_Contains_api_Move_api_Move.fit N⟩⟩), ?_⟩⟩ (moves_Legal.fit N)
  rw [absFn_n (n0 := 0) rfl (by kernel_rfl)]
  exact (moves_Legal.entry N _ x).trans h
/-! ### f73: gamehall/moves.Do -/
def moves_Do.as : List MK := [.d true (.prod .str (.prod (.int .i64) (.prod (.int .i64) (.prod (.slice 96 (.prod (.int .u8) (.prod (.int .i64) (.prod (.int .i64) (.slice 130 (.prod (.int .i64) (.prod (.int .i64) (.prod (.int .i64) (.int .i64))))))))) (.prod (.slice 3 (.int .i64)) (.prod .bool (.prod .bool (.prod (.slice 98 (.prod (.int .i64) (.prod (.int .i64) (.prod (.int .i64) .bool)))) (.prod (.int .i64) (.prod (.int .i64) (.int .i64))))))))))), .d true (.prod (.slice 3 (.int .i64)) (.prod (.prod (.slice 3 (.int .i64)) (.slice 3 (.int .i64))) (.prod (.int .i64) (.int .i64)))), .d true (.prod (.int .i64) (.prod (.int .i64) (.int .i64)))]
def moves_Do.rs : List (Bool × HT) := [(true, (.prod (.own 3 (.int .i64)) (.prod (.prod (.own 3 (.int .i64)) (.own 3 (.int .i64))) (.d (.prod (.int .i64) (.int .i64))))))]
def moves_Do.lc : List AC := []
def moves_Do.D (N : Nat) : DFn := ⟨moves_Do.as, moves_Do.rs, ((List Int) × (((List Int) × (List Int)) × (Int × Int))), fun x => moves_Do N x.1 x.2.1 x.2.2.1, fun r o => r.1, fun b => (b, ()), fun b => ()⟩
theorem moves_Do.fit (N : Nat) : (moves_Do.D N).Fit := ⟨fun _ _ => rfl, fun _ _ => rfl, by kernel_rfl⟩
noncomputable def moves_Do.G (N : Nat) : Gam := gamOf [(63, place_Copy.D N), (81, moves_Kind.D N), (98, moves_Cell.D N)]
def moves_Do.A : Nat → Option LoopAnn := fun _ => none
noncomputable def moves_Do.fin (N : Nat) : St → Option ((List Int) × (((List Int) × (List Int)) × (Int × Int))) := resK tb Try.f73.results.toList (decRes (moves_Do.D N) moves_Do.lc)
theorem moves_Do.entry (N : Nat) (rec : List Item → St → Option ((List Int) × (((List Int) × (List Int)) × (Int × Int)))) (x : (argH moves_Do.as).den) : seg tb (moves_Do.G N) moves_Do.A 0 rec (moves_Do.fin N) segFuel [.code (bodyOf Try.f73)] (initSt Try.f73 (encArgs moves_Do.as x) (encMem moves_Do.as x)) = moves_Do.e N x.1 x.2.1 x.2.2.1 := by kernel_rfl
theorem moves_Do.ok (N : Nat) : FnOk Try.prog 73 (moves_Do.D N) := by
  refine FnOk_of tb_ok (Checked.mixed Try.checked) ⟨Try.f73, Try.func73, by kernel_rfl, by kernel_rfl, fun x y h => ⟨moves_Do.G N, moves_Do.A, N, gamOf_ok (by simp only [List.forall_mem_cons, List.not_mem_nil, false_implies, implies_true, and_true]; exact ⟨⟨place_Copy.ok N, place_Copy.fit N⟩, ⟨moves_Kind.ok N, moves_Kind.fit N⟩, ⟨moves_Cell.ok N, moves_Cell.fit N⟩⟩), ?_⟩⟩ (moves_Do.fit N)
  rw [absFn_n (n0 := 0) rfl (by kernel_rfl)]
  exact (moves_Do.entry N _ x).trans h
/-! ### f39: gamehall/moves.After -/
def moves_After.as : List MK := [.d true (.prod .str (.prod (.int .i64) (.prod (.int .i64) (.prod (.slice 96 (.prod (.int .u8) (.prod (.int .i64) (.prod (.int .i64) (.slice 130 (.prod (.int .i64) (.prod (.int .i64) (.prod (.int .i64) (.int .i64))))))))) (.prod (.slice 3 (.int .i64)) (.prod .bool (.prod .bool (.prod (.slice 98 (.prod (.int .i64) (.prod (.int .i64) (.prod (.int .i64) .bool)))) (.prod (.int .i64) (.prod (.int .i64) (.int .i64))))))))))), .d true (.prod (.slice 3 (.int .i64)) (.prod (.prod (.slice 3 (.int .i64)) (.slice 3 (.int .i64))) (.prod (.int .i64) (.int .i64)))), .d true (.prod (.int .i64) (.prod (.int .i64) (.int .i64)))]
def moves_After.rs : List (Bool × HT) := [(true, (.prod (.own 3 (.int .i64)) (.prod (.prod (.own 3 (.int .i64)) (.own 3 (.int .i64))) (.d (.prod (.int .i64) (.int .i64)))))), (false, (.d (.int .i64)))]
def moves_After.lc : List AC := []
def moves_After.D (N : Nat) : DFn := ⟨moves_After.as, moves_After.rs, (((List Int) × (((List Int) × (List Int)) × (Int × Int))) × Int), fun x => moves_After N x.1 x.2.1 x.2.2.1, fun r o => (r.1, r.2.1), fun b => (b.1, (b.2, ())), fun b => ()⟩
theorem moves_After.fit (N : Nat) : (moves_After.D N).Fit := ⟨fun _ _ => rfl, fun _ _ => rfl, by kernel_rfl⟩
noncomputable def moves_After.G (N : Nat) : Gam := gamOf [(59, moves_Legal.D N), (73, moves_Do.D N)]
def moves_After.A : Nat → Option LoopAnn := fun _ => none
noncomputable def moves_After.fin (N : Nat) : St → Option (((List Int) × (((List Int) × (List Int)) × (Int × Int))) × Int) := resK tb Try.f39.results.toList (decRes (moves_After.D N) moves_After.lc)
theorem moves_After.entry (N : Nat) (rec : List Item → St → Option (((List Int) × (((List Int) × (List Int)) × (Int × Int))) × Int)) (x : (argH moves_After.as).den) : seg tb (moves_After.G N) moves_After.A 0 rec (moves_After.fin N) segFuel [.code (bodyOf Try.f39)] (initSt Try.f39 (encArgs moves_After.as x) (encMem moves_After.as x)) = moves_After.e N x.1 x.2.1 x.2.2.1 := by kernel_rfl
theorem moves_After.ok (N : Nat) : FnOk Try.prog 39 (moves_After.D N) := by
  refine FnOk_of tb_ok (Checked.mixed Try.checked) ⟨Try.f39, Try.func39, by kernel_rfl, by kernel_rfl, fun x y h => ⟨moves_After.G N, moves_After.A, N, gamOf_ok (by simp only [List.forall_mem_cons, List.not_mem_nil, false_implies, implies_true, and_true]; exact ⟨⟨moves_Legal.ok N, moves_Legal.fit N⟩, ⟨moves_Do.ok N, moves_Do.fit N⟩⟩), ?_⟩⟩ (moves_After.fit N)
  rw [absFn_n (n0 := 0) rfl (by kernel_rfl)]
  exact (moves_After.entry N _ x).trans h
/-! ### f16: gamehall/gamehallkeep1.plays -/
def gamehallkeep1_plays.as : List MK := []
def gamehallkeep1_plays.rs : List (Bool × HT) := [(false, (.d .bool))]
def gamehallkeep1_plays.lc : List AC := []
def gamehallkeep1_plays.D (N : Nat) : DFn := ⟨gamehallkeep1_plays.as, gamehallkeep1_plays.rs, Bool, fun x => gamehallkeep1_plays N, fun r o => r.1, fun b => (b, ()), fun b => ()⟩
theorem gamehallkeep1_plays.fit (N : Nat) : (gamehallkeep1_plays.D N).Fit := ⟨fun _ _ => rfl, fun _ _ => rfl, by kernel_rfl⟩
noncomputable def gamehallkeep1_plays.G (N : Nat) : Gam := gamOf [(29, gamehallkeep1_three.D N), (58, place_Begin.D N), (19, moves_All.D N), (32, gamehallkeep1_put.D N), (39, moves_After.D N), (59, moves_Legal.D N), (37, gamehallkeep1_fine.D N)]
def gamehallkeep1_plays.A : Nat → Option LoopAnn := fun _ => none
noncomputable def gamehallkeep1_plays.fin (N : Nat) : St → Option Bool := resK tb Try.f16.results.toList (decRes (gamehallkeep1_plays.D N) gamehallkeep1_plays.lc)
theorem gamehallkeep1_plays.entry (N : Nat) (rec : List Item → St → Option Bool) (x : (argH gamehallkeep1_plays.as).den) : seg tb (gamehallkeep1_plays.G N) gamehallkeep1_plays.A 0 rec (gamehallkeep1_plays.fin N) segFuel [.code (bodyOf Try.f16)] (initSt Try.f16 (encArgs gamehallkeep1_plays.as x) (encMem gamehallkeep1_plays.as x)) = gamehallkeep1_plays.e N := by kernel_rfl
theorem gamehallkeep1_plays.ok (N : Nat) : FnOk Try.prog 16 (gamehallkeep1_plays.D N) := by
  refine FnOk_of tb_ok (Checked.mixed Try.checked) ⟨Try.f16, Try.func16, by kernel_rfl, by kernel_rfl, fun x y h => ⟨gamehallkeep1_plays.G N, gamehallkeep1_plays.A, N, gamOf_ok (by simp only [List.forall_mem_cons, List.not_mem_nil, false_implies, implies_true, and_true]; exact ⟨⟨gamehallkeep1_three.ok N, gamehallkeep1_three.fit N⟩, ⟨place_Begin.ok N, place_Begin.fit N⟩, ⟨moves_All.ok N, moves_All.fit N⟩, ⟨gamehallkeep1_put.ok N, gamehallkeep1_put.fit N⟩, ⟨moves_After.ok N, moves_After.fit N⟩, ⟨moves_Legal.ok N, moves_Legal.fit N⟩, ⟨gamehallkeep1_fine.ok N, gamehallkeep1_fine.fit N⟩⟩), ?_⟩⟩ (gamehallkeep1_plays.fit N)
  rw [absFn_n (n0 := 0) rfl (by kernel_rfl)]
  exact (gamehallkeep1_plays.entry N _ x).trans h
/-! ### f38: gamehall/gamehallkeep1.some[gamehall/api.PerftPart] -/
def gamehallkeep1_some_api_PerftPart.as : List MK := [.d false (.slice 57 (.prod (.prod (.int .i64) (.prod (.int .i64) (.int .i64))) (.int .i64))), .d false (.int .i64)]
def gamehallkeep1_some_api_PerftPart.rs : List (Bool × HT) := [(true, (.d (.prod (.prod (.int .i64) (.prod (.int .i64) (.int .i64))) (.int .i64))))]
def gamehallkeep1_some_api_PerftPart.lc : List AC := []
def gamehallkeep1_some_api_PerftPart.D (N : Nat) : DFn := ⟨gamehallkeep1_some_api_PerftPart.as, gamehallkeep1_some_api_PerftPart.rs, ((Int × (Int × Int)) × Int), fun x => gamehallkeep1_some_api_PerftPart N x.1 x.2.1, fun r o => r.1, fun b => (b, ()), fun b => ()⟩
theorem gamehallkeep1_some_api_PerftPart.fit (N : Nat) : (gamehallkeep1_some_api_PerftPart.D N).Fit := ⟨fun _ _ => rfl, fun _ _ => rfl, by kernel_rfl⟩
noncomputable def gamehallkeep1_some_api_PerftPart.G (N : Nat) : Gam := gamOf []
def gamehallkeep1_some_api_PerftPart.A : Nat → Option LoopAnn := fun _ => none
noncomputable def gamehallkeep1_some_api_PerftPart.fin (N : Nat) : St → Option ((Int × (Int × Int)) × Int) := resK tb Try.f38.results.toList (decRes (gamehallkeep1_some_api_PerftPart.D N) gamehallkeep1_some_api_PerftPart.lc)
theorem gamehallkeep1_some_api_PerftPart.entry (N : Nat) (rec : List Item → St → Option ((Int × (Int × Int)) × Int)) (x : (argH gamehallkeep1_some_api_PerftPart.as).den) : seg tb (gamehallkeep1_some_api_PerftPart.G N) gamehallkeep1_some_api_PerftPart.A 0 rec (gamehallkeep1_some_api_PerftPart.fin N) segFuel [.code (bodyOf Try.f38)] (initSt Try.f38 (encArgs gamehallkeep1_some_api_PerftPart.as x) (encMem gamehallkeep1_some_api_PerftPart.as x)) = gamehallkeep1_some_api_PerftPart.e N x.1 x.2.1 := by kernel_rfl
theorem gamehallkeep1_some_api_PerftPart.ok (N : Nat) : FnOk Try.prog 38 (gamehallkeep1_some_api_PerftPart.D N) := by
  refine FnOk_of tb_ok (Checked.mixed Try.checked) ⟨Try.f38, Try.func38, by kernel_rfl, by kernel_rfl, fun x y h => ⟨gamehallkeep1_some_api_PerftPart.G N, gamehallkeep1_some_api_PerftPart.A, N, gamOf_ok (fun p hp => nomatch hp), ?_⟩⟩ (gamehallkeep1_some_api_PerftPart.fit N)
  rw [absFn_n (n0 := 0) rfl (by kernel_rfl)]
  exact (gamehallkeep1_some_api_PerftPart.entry N _ x).trans h
/-! ### f6: gamehall/gamehallkeep1.PerftAfter -/
def gamehallkeep1_PerftAfter.as : List MK := [.d true (.prod .str (.prod (.int .i64) (.prod (.int .i64) (.prod (.slice 96 (.prod (.int .u8) (.prod (.int .i64) (.prod (.int .i64) (.slice 130 (.prod (.int .i64) (.prod (.int .i64) (.prod (.int .i64) (.int .i64))))))))) (.prod (.slice 3 (.int .i64)) (.prod .bool (.prod .bool (.prod (.slice 98 (.prod (.int .i64) (.prod (.int .i64) (.prod (.int .i64) .bool)))) (.prod (.int .i64) (.prod (.int .i64) (.int .i64))))))))))), .d true (.prod (.slice 3 (.int .i64)) (.prod (.prod (.slice 3 (.int .i64)) (.slice 3 (.int .i64))) (.prod (.int .i64) (.int .i64)))), .d false (.int .i64), .d false (.int .i64)]
def gamehallkeep1_PerftAfter.rs : List (Bool × HT) := [(false, (.d .bool))]
def gamehallkeep1_PerftAfter.lc : List AC := []
def gamehallkeep1_PerftAfter.D (N : Nat) : DFn := ⟨gamehallkeep1_PerftAfter.as, gamehallkeep1_PerftAfter.rs, Bool, fun x => gamehallkeep1_PerftAfter N x.1 x.2.1 x.2.2.1 x.2.2.2.1, fun r o => r.1, fun b => (b, ()), fun b => ()⟩
theorem gamehallkeep1_PerftAfter.fit (N : Nat) : (gamehallkeep1_PerftAfter.D N).Fit := ⟨fun _ _ => rfl, fun _ _ => rfl, by kernel_rfl⟩
noncomputable def gamehallkeep1_PerftAfter.G (N : Nat) : Gam := gamOf [(33, gamehallkeep1_counted.D N), (16, gamehallkeep1_plays.D N), (29, gamehallkeep1_three.D N), (27, gamehallkeep1_near.D N), (31, perft_Divide.D N), (34, gamehallkeep1_heavy.D N), (38, gamehallkeep1_some_api_PerftPart.D N), (39, moves_After.D N), (36, perft_Count.D N), (37, gamehallkeep1_fine.D N)]
def gamehallkeep1_PerftAfter.A : Nat → Option LoopAnn := fun _ => none
noncomputable def gamehallkeep1_PerftAfter.fin (N : Nat) : St → Option Bool := resK tb Try.f6.results.toList (decRes (gamehallkeep1_PerftAfter.D N) gamehallkeep1_PerftAfter.lc)
theorem gamehallkeep1_PerftAfter.entry (N : Nat) (rec : List Item → St → Option Bool) (x : (argH gamehallkeep1_PerftAfter.as).den) : seg tb (gamehallkeep1_PerftAfter.G N) gamehallkeep1_PerftAfter.A 0 rec (gamehallkeep1_PerftAfter.fin N) segFuel [.code (bodyOf Try.f6)] (initSt Try.f6 (encArgs gamehallkeep1_PerftAfter.as x) (encMem gamehallkeep1_PerftAfter.as x)) = gamehallkeep1_PerftAfter.e N x.1 x.2.1 x.2.2.1 x.2.2.2.1 := by kernel_rfl
theorem gamehallkeep1_PerftAfter.ok (N : Nat) : FnOk Try.prog 6 (gamehallkeep1_PerftAfter.D N) := by
  refine FnOk_of tb_ok (Checked.mixed Try.checked) ⟨Try.f6, Try.func6, by kernel_rfl, by kernel_rfl, fun x y h => ⟨gamehallkeep1_PerftAfter.G N, gamehallkeep1_PerftAfter.A, N, gamOf_ok (by simp only [List.forall_mem_cons, List.not_mem_nil, false_implies, implies_true, and_true]; exact ⟨⟨gamehallkeep1_counted.ok N, gamehallkeep1_counted.fit N⟩, ⟨gamehallkeep1_plays.ok N, gamehallkeep1_plays.fit N⟩, ⟨gamehallkeep1_three.ok N, gamehallkeep1_three.fit N⟩, ⟨gamehallkeep1_near.ok N, gamehallkeep1_near.fit N⟩, ⟨perft_Divide.ok N, perft_Divide.fit N⟩, ⟨gamehallkeep1_heavy.ok N, gamehallkeep1_heavy.fit N⟩, ⟨gamehallkeep1_some_api_PerftPart.ok N, gamehallkeep1_some_api_PerftPart.fit N⟩, ⟨moves_After.ok N, moves_After.fit N⟩, ⟨perft_Count.ok N, perft_Count.fit N⟩, ⟨gamehallkeep1_fine.ok N, gamehallkeep1_fine.fit N⟩⟩), ?_⟩⟩ (gamehallkeep1_PerftAfter.fit N)
  rw [absFn_n (n0 := 0) rfl (by kernel_rfl)]
  exact (gamehallkeep1_PerftAfter.entry N _ x).trans h
end
end Go.Proofs.Ythhojealnaiehaa.Am
