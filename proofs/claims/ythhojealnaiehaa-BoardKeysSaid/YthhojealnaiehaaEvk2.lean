/- PRINTED by gen.py: the abstract machine evaluates the loaded code to these functions. -/
import Derived.Test.YthhojealnaiehaaEvk1
set_option linter.unusedVariables false
set_option linter.unusedSimpArgs false
namespace Go.Proofs.Ythhojealnaiehaa.Am
open Go
set_option maxRecDepth 100000
/-! ### f69: (*gamehall/board.Board).Make -/
def board_Board_Make'.as : List MK := [.o (.ptr 115 (.prod (.prod (.d .str) (.prod (.d (.int .i64)) (.prod (.d (.int .i64)) (.prod (.own 96 (.prod (.int .u8) (.prod (.int .i64) (.prod (.int .i64) (.slice 130 (.prod (.int .i64) (.prod (.int .i64) (.prod (.int .i64) (.int .i64))))))))) (.prod (.own 3 (.int .i64)) (.prod (.d .bool) (.prod (.d .bool) (.prod (.own 98 (.prod (.int .i64) (.prod (.int .i64) (.prod (.int .i64) .bool)))) (.d (.prod (.int .i64) (.prod (.int .i64) (.int .i64)))))))))))) (.prod (.prod (.own 3 (.int .i64)) (.prod (.prod (.own 3 (.int .i64)) (.own 3 (.int .i64))) (.d (.prod (.int .i64) (.int .i64))))) (.prod (.d (.int .u64)) (.own 117 (.prod (.prod (.int .i64) (.prod (.int .i64) (.int .i64))) (.prod (.int .i64) (.prod (.int .i64) (.prod .bool (.prod (.int .i64) (.int .u64))))))))))) true, .d true (.prod (.int .i64) (.prod (.int .i64) (.int .i64)))]
def board_Board_Make'.rs : List (Bool × HT) := []
def board_Board_Make'.lc : List AC := [.ptr 0 0]
def board_Board_Make'.D (N : Nat) : DFn := ⟨board_Board_Make'.as, board_Board_Make'.rs, ((ByteArray × (Int × (Int × ((List (Int × (Int × (Int × (List (Int × (Int × (Int × Int)))))))) × ((List Int) × (Bool × (Bool × ((List (Int × (Int × (Int × Bool)))) × (Int × (Int × Int)))))))))) × (((List Int) × (((List Int) × (List Int)) × (Int × Int))) × (Int × (List ((Int × (Int × Int)) × (Int × (Int × (Bool × (Int × Int))))))))), fun x => board_Board_Make' N x.1 x.2.1, fun r o => o.1, fun b => (), fun b => (b, ())⟩
theorem board_Board_Make'.fit (N : Nat) : (board_Board_Make'.D N).Fit := ⟨fun _ _ => rfl, fun _ _ => rfl, by kernel_rfl⟩
noncomputable def board_Board_Make'.G (N : Nat) : Gam := gamOf [(97, zob_Next.D N), (81, moves_Kind.D N), (98, moves_Cell.D N)]
def board_Board_Make'.A : Nat → Option LoopAnn := fun _ => none
noncomputable def board_Board_Make'.fin (N : Nat) : St → Option ((ByteArray × (Int × (Int × ((List (Int × (Int × (Int × (List (Int × (Int × (Int × Int)))))))) × ((List Int) × (Bool × (Bool × ((List (Int × (Int × (Int × Bool)))) × (Int × (Int × Int)))))))))) × (((List Int) × (((List Int) × (List Int)) × (Int × Int))) × (Int × (List ((Int × (Int × Int)) × (Int × (Int × (Bool × (Int × Int))))))))) := resK tb Try.f69.results.toList (decRes (board_Board_Make'.D N) board_Board_Make'.lc)
theorem board_Board_Make'.entry (N : Nat) (rec : List Item → St → Option ((ByteArray × (Int × (Int × ((List (Int × (Int × (Int × (List (Int × (Int × (Int × Int)))))))) × ((List Int) × (Bool × (Bool × ((List (Int × (Int × (Int × Bool)))) × (Int × (Int × Int)))))))))) × (((List Int) × (((List Int) × (List Int)) × (Int × Int))) × (Int × (List ((Int × (Int × Int)) × (Int × (Int × (Bool × (Int × Int)))))))))) (x : (argH board_Board_Make'.as).den) : seg tb (board_Board_Make'.G N) board_Board_Make'.A 8 rec (board_Board_Make'.fin N) segFuel [.code (bodyOf Try.f69)] (initSt Try.f69 (encArgs board_Board_Make'.as x) (encMem board_Board_Make'.as x)) = board_Board_Make'.e N x.1 x.2.1 := by kernel_rfl
theorem board_Board_Make'.ok (N : Nat) : FnOk Try.prog 69 (board_Board_Make'.D N) := by
  refine FnOk_of tb_ok (Checked.mixed Try.checked) ⟨Try.f69, Try.func69, by kernel_rfl, by kernel_rfl, fun x y h => ⟨board_Board_Make'.G N, board_Board_Make'.A, N, gamOf_ok (by simp only [List.forall_mem_cons, List.not_mem_nil, false_implies, implies_true, and_true]; exact ⟨⟨zob_Next.ok N, zob_Next.fit N⟩, ⟨moves_Kind.ok N, moves_Kind.fit N⟩, ⟨moves_Cell.ok N, moves_Cell.fit N⟩⟩), ?_⟩⟩ (board_Board_Make'.fit N)
  rw [absFn_n (n0 := 8) rfl (by kernel_rfl)]
  exact (board_Board_Make'.entry N _ x).trans h
/-! ### f52: (*gamehall/board.Board).Do -/
def board_Board_Do'.as : List MK := [.o (.ptr 115 (.prod (.prod (.d .str) (.prod (.d (.int .i64)) (.prod (.d (.int .i64)) (.prod (.own 96 (.prod (.int .u8) (.prod (.int .i64) (.prod (.int .i64) (.slice 130 (.prod (.int .i64) (.prod (.int .i64) (.prod (.int .i64) (.int .i64))))))))) (.prod (.own 3 (.int .i64)) (.prod (.d .bool) (.prod (.d .bool) (.prod (.own 98 (.prod (.int .i64) (.prod (.int .i64) (.prod (.int .i64) .bool)))) (.d (.prod (.int .i64) (.prod (.int .i64) (.int .i64)))))))))))) (.prod (.prod (.own 3 (.int .i64)) (.prod (.prod (.own 3 (.int .i64)) (.own 3 (.int .i64))) (.d (.prod (.int .i64) (.int .i64))))) (.prod (.d (.int .u64)) (.own 117 (.prod (.prod (.int .i64) (.prod (.int .i64) (.int .i64))) (.prod (.int .i64) (.prod (.int .i64) (.prod .bool (.prod (.int .i64) (.int .u64))))))))))) true, .d true (.prod (.int .i64) (.prod (.int .i64) (.int .i64)))]
def board_Board_Do'.rs : List (Bool × HT) := [(false, (.d (.int .i64)))]
def board_Board_Do'.lc : List AC := [.ptr 0 0]
def board_Board_Do'.D (N : Nat) : DFn := ⟨board_Board_Do'.as, board_Board_Do'.rs, (Int × ((ByteArray × (Int × (Int × ((List (Int × (Int × (Int × (List (Int × (Int × (Int × Int)))))))) × ((List Int) × (Bool × (Bool × ((List (Int × (Int × (Int × Bool)))) × (Int × (Int × Int)))))))))) × (((List Int) × (((List Int) × (List Int)) × (Int × Int))) × (Int × (List ((Int × (Int × Int)) × (Int × (Int × (Bool × (Int × Int)))))))))), fun x => board_Board_Do' N x.1 x.2.1, fun r o => (r.1, o.1), fun b => (b.1, ()), fun b => (b.2, ())⟩
theorem board_Board_Do'.fit (N : Nat) : (board_Board_Do'.D N).Fit := ⟨fun _ _ => rfl, fun _ _ => rfl, by kernel_rfl⟩
noncomputable def board_Board_Do'.G (N : Nat) : Gam := gamOf [(65, ends_Result.D N), (62, moves_Gen.D N), (82, slices_Contains_api_Move_api_Move.D N), (69, board_Board_Make'.D N)]
def board_Board_Do'.A : Nat → Option LoopAnn := fun _ => none
noncomputable def board_Board_Do'.fin (N : Nat) : St → Option (Int × ((ByteArray × (Int × (Int × ((List (Int × (Int × (Int × (List (Int × (Int × (Int × Int)))))))) × ((List Int) × (Bool × (Bool × ((List (Int × (Int × (Int × Bool)))) × (Int × (Int × Int)))))))))) × (((List Int) × (((List Int) × (List Int)) × (Int × Int))) × (Int × (List ((Int × (Int × Int)) × (Int × (Int × (Bool × (Int × Int)))))))))) := resK tb Try.f52.results.toList (decRes (board_Board_Do'.D N) board_Board_Do'.lc)
theorem board_Board_Do'.entry (N : Nat) (rec : List Item → St → Option (Int × ((ByteArray × (Int × (Int × ((List (Int × (Int × (Int × (List (Int × (Int × (Int × Int)))))))) × ((List Int) × (Bool × (Bool × ((List (Int × (Int × (Int × Bool)))) × (Int × (Int × Int)))))))))) × (((List Int) × (((List Int) × (List Int)) × (Int × Int))) × (Int × (List ((Int × (Int × Int)) × (Int × (Int × (Bool × (Int × Int))))))))))) (x : (argH board_Board_Do'.as).den) : seg tb (board_Board_Do'.G N) board_Board_Do'.A 8 rec (board_Board_Do'.fin N) segFuel [.code (bodyOf Try.f52)] (initSt Try.f52 (encArgs board_Board_Do'.as x) (encMem board_Board_Do'.as x)) = board_Board_Do'.e N x.1 x.2.1 := by kernel_rfl
theorem board_Board_Do'.ok (N : Nat) : FnOk Try.prog 52 (board_Board_Do'.D N) := by
  refine FnOk_of tb_ok (Checked.mixed Try.checked) ⟨Try.f52, Try.func52, by kernel_rfl, by kernel_rfl, fun x y h => ⟨board_Board_Do'.G N, board_Board_Do'.A, N, gamOf_ok (by simp only [List.forall_mem_cons, List.not_mem_nil, false_implies, implies_true, and_true]; exact ⟨⟨ends_Result.ok N, ends_Result.fit N⟩, ⟨moves_Gen.ok N, moves_Gen.fit N⟩, ⟨slices_Contains_api_Move_api_Move.ok N, slices_Contains_api_Move_api_Move.fit N⟩, ⟨board_Board_Make'.ok N, board_Board_Make'.fit N⟩⟩), ?_⟩⟩ (board_Board_Do'.fit N)
  rw [absFn_n (n0 := 8) rfl (by kernel_rfl)]
  exact (board_Board_Do'.entry N _ x).trans h
/-! ### f49: (*gamehall/board.Board).Result -/
def board_Board_Result.as : List MK := [.r (.prod (.prod .str (.prod (.int .i64) (.prod (.int .i64) (.prod (.slice 96 (.prod (.int .u8) (.prod (.int .i64) (.prod (.int .i64) (.slice 130 (.prod (.int .i64) (.prod (.int .i64) (.prod (.int .i64) (.int .i64))))))))) (.prod (.slice 3 (.int .i64)) (.prod .bool (.prod .bool (.prod (.slice 98 (.prod (.int .i64) (.prod (.int .i64) (.prod (.int .i64) .bool)))) (.prod (.int .i64) (.prod (.int .i64) (.int .i64))))))))))) (.prod (.prod (.slice 3 (.int .i64)) (.prod (.prod (.slice 3 (.int .i64)) (.slice 3 (.int .i64))) (.prod (.int .i64) (.int .i64)))) (.prod (.int .u64) (.slice 117 (.prod (.prod (.int .i64) (.prod (.int .i64) (.int .i64))) (.prod (.int .i64) (.prod (.int .i64) (.prod .bool (.prod (.int .i64) (.int .u64))))))))))]
def board_Board_Result.rs : List (Bool × HT) := [(false, (.d (.int .i64)))]
def board_Board_Result.lc : List AC := []
def board_Board_Result.D (N : Nat) : DFn := ⟨board_Board_Result.as, board_Board_Result.rs, Int, fun x => board_Board_Result N x.1, fun r o => r.1, fun b => (b, ()), fun b => ()⟩
theorem board_Board_Result.fit (N : Nat) : (board_Board_Result.D N).Fit := ⟨fun _ _ => rfl, fun _ _ => rfl, by kernel_rfl⟩
noncomputable def board_Board_Result.G (N : Nat) : Gam := gamOf [(65, ends_Result.D N)]
def board_Board_Result.A : Nat → Option LoopAnn := fun _ => none
noncomputable def board_Board_Result.fin (N : Nat) : St → Option Int := resK tb Try.f49.results.toList (decRes (board_Board_Result.D N) board_Board_Result.lc)
theorem board_Board_Result.entry (N : Nat) (rec : List Item → St → Option Int) (x : (argH board_Board_Result.as).den) : seg tb (board_Board_Result.G N) board_Board_Result.A 0 rec (board_Board_Result.fin N) segFuel [.code (bodyOf Try.f49)] (initSt Try.f49 (encArgs board_Board_Result.as x) (encMem board_Board_Result.as x)) = board_Board_Result.e N x.1 := by kernel_rfl
theorem board_Board_Result.ok (N : Nat) : FnOk Try.prog 49 (board_Board_Result.D N) := by
  refine FnOk_of tb_ok (Checked.mixed Try.checked) ⟨Try.f49, Try.func49, by kernel_rfl, by kernel_rfl, fun x y h => ⟨board_Board_Result.G N, board_Board_Result.A, N, gamOf_ok (by simp only [List.forall_mem_cons, List.not_mem_nil, false_implies, implies_true, and_true]; exact ⟨ends_Result.ok N, ends_Result.fit N⟩), ?_⟩⟩ (board_Board_Result.fit N)
  rw [absFn_n (n0 := 0) rfl (by kernel_rfl)]
  exact (board_Board_Result.entry N _ x).trans h
/-! ### f76: (*gamehall/board.Board).Len -/
def board_Board_Len.as : List MK := [.r (.prod (.prod .str (.prod (.int .i64) (.prod (.int .i64) (.prod (.slice 96 (.prod (.int .u8) (.prod (.int .i64) (.prod (.int .i64) (.slice 130 (.prod (.int .i64) (.prod (.int .i64) (.prod (.int .i64) (.int .i64))))))))) (.prod (.slice 3 (.int .i64)) (.prod .bool (.prod .bool (.prod (.slice 98 (.prod (.int .i64) (.prod (.int .i64) (.prod (.int .i64) .bool)))) (.prod (.int .i64) (.prod (.int .i64) (.int .i64))))))))))) (.prod (.prod (.slice 3 (.int .i64)) (.prod (.prod (.slice 3 (.int .i64)) (.slice 3 (.int .i64))) (.prod (.int .i64) (.int .i64)))) (.prod (.int .u64) (.slice 117 (.prod (.prod (.int .i64) (.prod (.int .i64) (.int .i64))) (.prod (.int .i64) (.prod (.int .i64) (.prod .bool (.prod (.int .i64) (.int .u64))))))))))]
def board_Board_Len.rs : List (Bool × HT) := [(false, (.d (.int .i64)))]
def board_Board_Len.lc : List AC := []
def board_Board_Len.D (N : Nat) : DFn := ⟨board_Board_Len.as, board_Board_Len.rs, Int, fun x => board_Board_Len N x.1, fun r o => r.1, fun b => (b, ()), fun b => ()⟩
theorem board_Board_Len.fit (N : Nat) : (board_Board_Len.D N).Fit := ⟨fun _ _ => rfl, fun _ _ => rfl, by kernel_rfl⟩
noncomputable def board_Board_Len.G (N : Nat) : Gam := gamOf []
def board_Board_Len.A : Nat → Option LoopAnn := fun _ => none
noncomputable def board_Board_Len.fin (N : Nat) : St → Option Int := resK tb Try.f76.results.toList (decRes (board_Board_Len.D N) board_Board_Len.lc)
theorem board_Board_Len.entry (N : Nat) (rec : List Item → St → Option Int) (x : (argH board_Board_Len.as).den) : seg tb (board_Board_Len.G N) board_Board_Len.A 0 rec (board_Board_Len.fin N) segFuel [.code (bodyOf Try.f76)] (initSt Try.f76 (encArgs board_Board_Len.as x) (encMem board_Board_Len.as x)) = board_Board_Len.e N x.1 := by kernel_rfl
theorem board_Board_Len.ok (N : Nat) : FnOk Try.prog 76 (board_Board_Len.D N) := by
  refine FnOk_of tb_ok (Checked.mixed Try.checked) ⟨Try.f76, Try.func76, by kernel_rfl, by kernel_rfl, fun x y h => ⟨board_Board_Len.G N, board_Board_Len.A, N, gamOf_ok (fun p hp => nomatch hp), ?_⟩⟩ (board_Board_Len.fit N)
  rw [absFn_n (n0 := 0) rfl (by kernel_rfl)]
  exact (board_Board_Len.entry N _ x).trans h
/-! ### f45: (*gamehall/board.Board).Moves -/
def board_Board_Moves.as : List MK := [.r (.prod (.prod .str (.prod (.int .i64) (.prod (.int .i64) (.prod (.slice 96 (.prod (.int .u8) (.prod (.int .i64) (.prod (.int .i64) (.slice 130 (.prod (.int .i64) (.prod (.int .i64) (.prod (.int .i64) (.int .i64))))))))) (.prod (.slice 3 (.int .i64)) (.prod .bool (.prod .bool (.prod (.slice 98 (.prod (.int .i64) (.prod (.int .i64) (.prod (.int .i64) .bool)))) (.prod (.int .i64) (.prod (.int .i64) (.int .i64))))))))))) (.prod (.prod (.slice 3 (.int .i64)) (.prod (.prod (.slice 3 (.int .i64)) (.slice 3 (.int .i64))) (.prod (.int .i64) (.int .i64)))) (.prod (.int .u64) (.slice 117 (.prod (.prod (.int .i64) (.prod (.int .i64) (.int .i64))) (.prod (.int .i64) (.prod (.int .i64) (.prod .bool (.prod (.int .i64) (.int .u64))))))))))]
def board_Board_Moves.rs : List (Bool × HT) := [(false, (.own 43 (.prod (.int .i64) (.prod (.int .i64) (.int .i64)))))]
def board_Board_Moves.lc : List AC := []
def board_Board_Moves.D (N : Nat) : DFn := ⟨board_Board_Moves.as, board_Board_Moves.rs, (List (Int × (Int × Int))), fun x => board_Board_Moves N x.1, fun r o => r.1, fun b => (b, ()), fun b => ()⟩
theorem board_Board_Moves.fit (N : Nat) : (board_Board_Moves.D N).Fit := ⟨fun _ _ => rfl, fun _ _ => rfl, by kernel_rfl⟩
noncomputable def board_Board_Moves.G (N : Nat) : Gam := gamOf [(49, board_Board_Result.D N), (62, moves_Gen.D N)]
def board_Board_Moves.A : Nat → Option LoopAnn := fun _ => none
noncomputable def board_Board_Moves.fin (N : Nat) : St → Option (List (Int × (Int × Int))) := resK tb Try.f45.results.toList (decRes (board_Board_Moves.D N) board_Board_Moves.lc)
theorem board_Board_Moves.entry (N : Nat) (rec : List Item → St → Option (List (Int × (Int × Int)))) (x : (argH board_Board_Moves.as).den) : seg tb (board_Board_Moves.G N) board_Board_Moves.A 0 rec (board_Board_Moves.fin N) segFuel [.code (bodyOf Try.f45)] (initSt Try.f45 (encArgs board_Board_Moves.as x) (encMem board_Board_Moves.as x)) = board_Board_Moves.e N x.1 := by kernel_rfl
theorem board_Board_Moves.ok (N : Nat) : FnOk Try.prog 45 (board_Board_Moves.D N) := by
  refine FnOk_of tb_ok (Checked.mixed Try.checked) ⟨Try.f45, Try.func45, by kernel_rfl, by kernel_rfl, fun x y h => ⟨board_Board_Moves.G N, board_Board_Moves.A, N, gamOf_ok (by simp only [List.forall_mem_cons, List.not_mem_nil, false_implies, implies_true, and_true]; exact ⟨⟨board_Board_Result.ok N, board_Board_Result.fit N⟩, ⟨moves_Gen.ok N, moves_Gen.fit N⟩⟩), ?_⟩⟩ (board_Board_Moves.fit N)
  rw [absFn_n (n0 := 0) rfl (by kernel_rfl)]
  exact (board_Board_Moves.entry N _ x).trans h
/-! ### f51: (*gamehall/board.Board).Undo -/
def board_Board_Undo'.as : List MK := [.o (.ptr 115 (.prod (.prod (.d .str) (.prod (.d (.int .i64)) (.prod (.d (.int .i64)) (.prod (.own 96 (.prod (.int .u8) (.prod (.int .i64) (.prod (.int .i64) (.slice 130 (.prod (.int .i64) (.prod (.int .i64) (.prod (.int .i64) (.int .i64))))))))) (.prod (.own 3 (.int .i64)) (.prod (.d .bool) (.prod (.d .bool) (.prod (.own 98 (.prod (.int .i64) (.prod (.int .i64) (.prod (.int .i64) .bool)))) (.d (.prod (.int .i64) (.prod (.int .i64) (.int .i64)))))))))))) (.prod (.prod (.own 3 (.int .i64)) (.prod (.prod (.own 3 (.int .i64)) (.own 3 (.int .i64))) (.d (.prod (.int .i64) (.int .i64))))) (.prod (.d (.int .u64)) (.own 117 (.prod (.prod (.int .i64) (.prod (.int .i64) (.int .i64))) (.prod (.int .i64) (.prod (.int .i64) (.prod .bool (.prod (.int .i64) (.int .u64))))))))))) true]
def board_Board_Undo'.rs : List (Bool × HT) := [(false, (.d (.int .i64)))]
def board_Board_Undo'.lc : List AC := [.ptr 0 0]
def board_Board_Undo'.D (N : Nat) : DFn := ⟨board_Board_Undo'.as, board_Board_Undo'.rs, (Int × ((ByteArray × (Int × (Int × ((List (Int × (Int × (Int × (List (Int × (Int × (Int × Int)))))))) × ((List Int) × (Bool × (Bool × ((List (Int × (Int × (Int × Bool)))) × (Int × (Int × Int)))))))))) × (((List Int) × (((List Int) × (List Int)) × (Int × Int))) × (Int × (List ((Int × (Int × Int)) × (Int × (Int × (Bool × (Int × Int)))))))))), fun x => board_Board_Undo' N x.1, fun r o => (r.1, o.1), fun b => (b.1, ()), fun b => (b.2, ())⟩
theorem board_Board_Undo'.fit (N : Nat) : (board_Board_Undo'.D N).Fit := ⟨fun _ _ => rfl, fun _ _ => rfl, by kernel_rfl⟩
noncomputable def board_Board_Undo'.G (N : Nat) : Gam := gamOf [(81, moves_Kind.D N)]
def board_Board_Undo'.A : Nat → Option LoopAnn := fun _ => none
noncomputable def board_Board_Undo'.fin (N : Nat) : St → Option (Int × ((ByteArray × (Int × (Int × ((List (Int × (Int × (Int × (List (Int × (Int × (Int × Int)))))))) × ((List Int) × (Bool × (Bool × ((List (Int × (Int × (Int × Bool)))) × (Int × (Int × Int)))))))))) × (((List Int) × (((List Int) × (List Int)) × (Int × Int))) × (Int × (List ((Int × (Int × Int)) × (Int × (Int × (Bool × (Int × Int)))))))))) := resK tb Try.f51.results.toList (decRes (board_Board_Undo'.D N) board_Board_Undo'.lc)
theorem board_Board_Undo'.entry (N : Nat) (rec : List Item → St → Option (Int × ((ByteArray × (Int × (Int × ((List (Int × (Int × (Int × (List (Int × (Int × (Int × Int)))))))) × ((List Int) × (Bool × (Bool × ((List (Int × (Int × (Int × Bool)))) × (Int × (Int × Int)))))))))) × (((List Int) × (((List Int) × (List Int)) × (Int × Int))) × (Int × (List ((Int × (Int × Int)) × (Int × (Int × (Bool × (Int × Int))))))))))) (x : (argH board_Board_Undo'.as).den) : seg tb (board_Board_Undo'.G N) board_Board_Undo'.A 8 rec (board_Board_Undo'.fin N) segFuel [.code (bodyOf Try.f51)] (initSt Try.f51 (encArgs board_Board_Undo'.as x) (encMem board_Board_Undo'.as x)) = board_Board_Undo'.e N x.1 := by kernel_rfl
theorem board_Board_Undo'.ok (N : Nat) : FnOk Try.prog 51 (board_Board_Undo'.D N) := by
  refine FnOk_of tb_ok (Checked.mixed Try.checked) ⟨Try.f51, Try.func51, by kernel_rfl, by kernel_rfl, fun x y h => ⟨board_Board_Undo'.G N, board_Board_Undo'.A, N, gamOf_ok (by simp only [List.forall_mem_cons, List.not_mem_nil, false_implies, implies_true, and_true]; exact ⟨moves_Kind.ok N, moves_Kind.fit N⟩), ?_⟩⟩ (board_Board_Undo'.fit N)
  rw [absFn_n (n0 := 8) rfl (by kernel_rfl)]
  exact (board_Board_Undo'.entry N _ x).trans h
/-! ### f47: (*gamehall/board.Board).Position -/
def board_Board_Position.as : List MK := [.r (.prod (.prod .str (.prod (.int .i64) (.prod (.int .i64) (.prod (.slice 96 (.prod (.int .u8) (.prod (.int .i64) (.prod (.int .i64) (.slice 130 (.prod (.int .i64) (.prod (.int .i64) (.prod (.int .i64) (.int .i64))))))))) (.prod (.slice 3 (.int .i64)) (.prod .bool (.prod .bool (.prod (.slice 98 (.prod (.int .i64) (.prod (.int .i64) (.prod (.int .i64) .bool)))) (.prod (.int .i64) (.prod (.int .i64) (.int .i64))))))))))) (.prod (.prod (.slice 3 (.int .i64)) (.prod (.prod (.slice 3 (.int .i64)) (.slice 3 (.int .i64))) (.prod (.int .i64) (.int .i64)))) (.prod (.int .u64) (.slice 117 (.prod (.prod (.int .i64) (.prod (.int .i64) (.int .i64))) (.prod (.int .i64) (.prod (.int .i64) (.prod .bool (.prod (.int .i64) (.int .u64))))))))))]
def board_Board_Position.rs : List (Bool × HT) := [(true, (.prod (.own 3 (.int .i64)) (.prod (.prod (.own 3 (.int .i64)) (.own 3 (.int .i64))) (.d (.prod (.int .i64) (.int .i64))))))]
def board_Board_Position.lc : List AC := []
def board_Board_Position.D (N : Nat) : DFn := ⟨board_Board_Position.as, board_Board_Position.rs, ((List Int) × (((List Int) × (List Int)) × (Int × Int))), fun x => board_Board_Position N x.1, fun r o => r.1, fun b => (b, ()), fun b => ()⟩
theorem board_Board_Position.fit (N : Nat) : (board_Board_Position.D N).Fit := ⟨fun _ _ => rfl, fun _ _ => rfl, by kernel_rfl⟩
noncomputable def board_Board_Position.G (N : Nat) : Gam := gamOf [(63, place_Copy.D N)]
def board_Board_Position.A : Nat → Option LoopAnn := fun _ => none
noncomputable def board_Board_Position.fin (N : Nat) : St → Option ((List Int) × (((List Int) × (List Int)) × (Int × Int))) := resK tb Try.f47.results.toList (decRes (board_Board_Position.D N) board_Board_Position.lc)
theorem board_Board_Position.entry (N : Nat) (rec : List Item → St → Option ((List Int) × (((List Int) × (List Int)) × (Int × Int)))) (x : (argH board_Board_Position.as).den) : seg tb (board_Board_Position.G N) board_Board_Position.A 0 rec (board_Board_Position.fin N) segFuel [.code (bodyOf Try.f47)] (initSt Try.f47 (encArgs board_Board_Position.as x) (encMem board_Board_Position.as x)) = board_Board_Position.e N x.1 := by kernel_rfl
theorem board_Board_Position.ok (N : Nat) : FnOk Try.prog 47 (board_Board_Position.D N) := by
  refine FnOk_of tb_ok (Checked.mixed Try.checked) ⟨Try.f47, Try.func47, by kernel_rfl, by kernel_rfl, fun x y h => ⟨board_Board_Position.G N, board_Board_Position.A, N, gamOf_ok (by simp only [List.forall_mem_cons, List.not_mem_nil, false_implies, implies_true, and_true]; exact ⟨place_Copy.ok N, place_Copy.fit N⟩), ?_⟩⟩ (board_Board_Position.fit N)
  rw [absFn_n (n0 := 0) rfl (by kernel_rfl)]
  exact (board_Board_Position.entry N _ x).trans h
/-! ### f66: slices.Equal[[]int,int] -/
def slices_Equal_int_int.as : List MK := [.d false (.slice 3 (.int .i64)), .d false (.slice 3 (.int .i64))]
def slices_Equal_int_int.rs : List (Bool × HT) := [(false, (.d .bool))]
def slices_Equal_int_int.lc : List AC := []
def slices_Equal_int_int.D (N : Nat) : DFn := ⟨slices_Equal_int_int.as, slices_Equal_int_int.rs, Bool, fun x => slices_Equal_int_int N x.1 x.2.1, fun r o => r.1, fun b => (b, ()), fun b => ()⟩
theorem slices_Equal_int_int.fit (N : Nat) : (slices_Equal_int_int.D N).Fit := ⟨fun _ _ => rfl, fun _ _ => rfl, by kernel_rfl⟩
noncomputable def slices_Equal_int_int.G (N : Nat) : Gam := gamOf []
def slices_Equal_int_int.A : Nat → Option LoopAnn := fun k => bif Nat.beq k 0 then some ⟨[0, 1, 12, 13], [], [], [], [], 0, false⟩ else none
noncomputable def slices_Equal_int_int.fin (N : Nat) : St → Option Bool := resK tb Try.f66.results.toList (decRes (slices_Equal_int_int.D N) slices_Equal_int_int.lc)
noncomputable def slices_Equal_int_int.k0 : List Item := stackAt [.r, .r, .l, .r, .b] (bodyOf Try.f66) []
def slices_Equal_int_int.st0 (s1_ : (List Int)) (s2_ : (List Int)) (t13_ : Int) : St := ⟨[.one (.fro 3 (.int .i64) s1_), .one (.fro 3 (.int .i64) s2_)] ++ List.replicate 10 (.one .any) ++ [.one (.int .i64 (s1_.length : Int)), .one (.int .i64 t13_)] ++ List.replicate 12 (.one .any), []⟩
theorem slices_Equal_int_int.step0 (N : Nat) (rec : List Item → St → Option Bool) (s1_ : (List Int)) (s2_ : (List Int)) (t13_ : Int) : seg tb (slices_Equal_int_int.G N) slices_Equal_int_int.A 0 rec (slices_Equal_int_int.fin N) segFuel (loopBody slices_Equal_int_int.k0) (slices_Equal_int_int.st0 s1_ s2_ t13_) = slices_Equal_int_int.s0 N s1_ s2_ (fun t13_ => rec slices_Equal_int_int.k0 (slices_Equal_int_int.st0 s1_ s2_ t13_)) t13_ := by kernel_rfl
theorem slices_Equal_int_int.entry (N : Nat) (rec : List Item → St → Option Bool) (x : (argH slices_Equal_int_int.as).den) : seg tb (slices_Equal_int_int.G N) slices_Equal_int_int.A 0 rec (slices_Equal_int_int.fin N) segFuel [.code (bodyOf Try.f66)] (initSt Try.f66 (encArgs slices_Equal_int_int.as x) (encMem slices_Equal_int_int.as x)) = slices_Equal_int_int.e N (fun t13_ => rec slices_Equal_int_int.k0 (slices_Equal_int_int.st0 x.1 x.2.1 t13_)) x.1 x.2.1 := by kernel_rfl
theorem slices_Equal_int_int.runs (N : Nat) (s1_ : (List Int)) (s2_ : (List Int)) : ∀ n, (∀ (t13_ : Int), run tb (slices_Equal_int_int.G N) slices_Equal_int_int.A 0 (slices_Equal_int_int.fin N) n slices_Equal_int_int.k0 (slices_Equal_int_int.st0 s1_ s2_ t13_) = slices_Equal_int_int.l0 N s1_ s2_ n t13_)
  | 0 => fun _ => rfl
  | n + 1 => by
    have h0 := slices_Equal_int_int.runs N s1_ s2_ n
    have e0 : (fun (t13_ : Int) => run tb (slices_Equal_int_int.G N) slices_Equal_int_int.A 0 (slices_Equal_int_int.fin N) n slices_Equal_int_int.k0 (slices_Equal_int_int.st0 s1_ s2_ t13_)) = slices_Equal_int_int.l0 N s1_ s2_ n := by funext t13_; exact h0 t13_
    have g0 : (∀ (t13_ : Int), run tb (slices_Equal_int_int.G N) slices_Equal_int_int.A 0 (slices_Equal_int_int.fin N) (n + 1) slices_Equal_int_int.k0 (slices_Equal_int_int.st0 s1_ s2_ t13_) = slices_Equal_int_int.l0 N s1_ s2_ (n + 1) t13_) := by
      intro t13_
      exact (run_succ (by kernel_rfl)).trans ((slices_Equal_int_int.step0 N _ s1_ s2_ t13_).trans ((congrArg (fun r0 => slices_Equal_int_int.s0 N s1_ s2_ r0 t13_) e0).trans (slices_Equal_int_int.l0_s N s1_ s2_ n t13_).symm))
    exact g0
theorem slices_Equal_int_int.ok (N : Nat) : FnOk Try.prog 66 (slices_Equal_int_int.D N) := by
  refine FnOk_of tb_ok (Checked.mixed Try.checked) ⟨Try.f66, Try.func66, by kernel_rfl, by kernel_rfl, fun x y h => ⟨slices_Equal_int_int.G N, slices_Equal_int_int.A, N, gamOf_ok (fun p hp => nomatch hp), ?_⟩⟩ (slices_Equal_int_int.fit N)
  rw [absFn_n (n0 := 0) rfl (by kernel_rfl)]
  refine (slices_Equal_int_int.entry N (run tb (slices_Equal_int_int.G N) slices_Equal_int_int.A 0 (slices_Equal_int_int.fin N) N) x).trans ?_
  have e0 : (fun (t13_ : Int) => run tb (slices_Equal_int_int.G N) slices_Equal_int_int.A 0 (slices_Equal_int_int.fin N) N slices_Equal_int_int.k0 (slices_Equal_int_int.st0 x.1 x.2.1 t13_)) = slices_Equal_int_int.l0 N x.1 x.2.1 N := by funext t13_; exact (slices_Equal_int_int.runs N x.1 x.2.1 N) t13_
  have h' : (slices_Equal_int_int.D N).f x = slices_Equal_int_int.e N (slices_Equal_int_int.l0 N x.1 x.2.1 N) x.1 x.2.1 := by kernel_rfl
  exact (congrArg (fun r0 => slices_Equal_int_int.e N r0 x.1 x.2.1) e0).trans (h'.symm.trans h)
/-! ### f26: gamehall/gamehallkeep1.same -/
def gamehallkeep1_same.as : List MK := [.d true (.prod (.slice 3 (.int .i64)) (.prod (.prod (.slice 3 (.int .i64)) (.slice 3 (.int .i64))) (.prod (.int .i64) (.int .i64)))), .d true (.prod (.slice 3 (.int .i64)) (.prod (.prod (.slice 3 (.int .i64)) (.slice 3 (.int .i64))) (.prod (.int .i64) (.int .i64))))]
def gamehallkeep1_same.rs : List (Bool × HT) := [(false, (.d .bool))]
def gamehallkeep1_same.lc : List AC := []
def gamehallkeep1_same.D (N : Nat) : DFn := ⟨gamehallkeep1_same.as, gamehallkeep1_same.rs, Bool, fun x => gamehallkeep1_same N x.1 x.2.1, fun r o => r.1, fun b => (b, ()), fun b => ()⟩
theorem gamehallkeep1_same.fit (N : Nat) : (gamehallkeep1_same.D N).Fit := ⟨fun _ _ => rfl, fun _ _ => rfl, by kernel_rfl⟩
noncomputable def gamehallkeep1_same.G (N : Nat) : Gam := gamOf [(66, slices_Equal_int_int.D N)]
def gamehallkeep1_same.A : Nat → Option LoopAnn := fun _ => none
noncomputable def gamehallkeep1_same.fin (N : Nat) : St → Option Bool := resK tb Try.f26.results.toList (decRes (gamehallkeep1_same.D N) gamehallkeep1_same.lc)
theorem gamehallkeep1_same.entry (N : Nat) (rec : List Item → St → Option Bool) (x : (argH gamehallkeep1_same.as).den) : seg tb (gamehallkeep1_same.G N) gamehallkeep1_same.A 0 rec (gamehallkeep1_same.fin N) segFuel [.code (bodyOf Try.f26)] (initSt Try.f26 (encArgs gamehallkeep1_same.as x) (encMem gamehallkeep1_same.as x)) = gamehallkeep1_same.e N x.1 x.2.1 := by kernel_rfl
theorem gamehallkeep1_same.ok (N : Nat) : FnOk Try.prog 26 (gamehallkeep1_same.D N) := by
  refine FnOk_of tb_ok (Checked.mixed Try.checked) ⟨Try.f26, Try.func26, by kernel_rfl, by kernel_rfl, fun x y h => ⟨gamehallkeep1_same.G N, gamehallkeep1_same.A, N, gamOf_ok (by simp only [List.forall_mem_cons, List.not_mem_nil, false_implies, implies_true, and_true]; exact ⟨slices_Equal_int_int.ok N, slices_Equal_int_int.fit N⟩), ?_⟩⟩ (gamehallkeep1_same.fit N)
  rw [absFn_n (n0 := 0) rfl (by kernel_rfl)]
  exact (gamehallkeep1_same.entry N _ x).trans h
/-! ### f77: (*gamehall/board.Board).Turn -/
def board_Board_Turn.as : List MK := [.r (.prod (.prod .str (.prod (.int .i64) (.prod (.int .i64) (.prod (.slice 96 (.prod (.int .u8) (.prod (.int .i64) (.prod (.int .i64) (.slice 130 (.prod (.int .i64) (.prod (.int .i64) (.prod (.int .i64) (.int .i64))))))))) (.prod (.slice 3 (.int .i64)) (.prod .bool (.prod .bool (.prod (.slice 98 (.prod (.int .i64) (.prod (.int .i64) (.prod (.int .i64) .bool)))) (.prod (.int .i64) (.prod (.int .i64) (.int .i64))))))))))) (.prod (.prod (.slice 3 (.int .i64)) (.prod (.prod (.slice 3 (.int .i64)) (.slice 3 (.int .i64))) (.prod (.int .i64) (.int .i64)))) (.prod (.int .u64) (.slice 117 (.prod (.prod (.int .i64) (.prod (.int .i64) (.int .i64))) (.prod (.int .i64) (.prod (.int .i64) (.prod .bool (.prod (.int .i64) (.int .u64))))))))))]
def board_Board_Turn.rs : List (Bool × HT) := [(false, (.d (.int .i64)))]
def board_Board_Turn.lc : List AC := []
def board_Board_Turn.D (N : Nat) : DFn := ⟨board_Board_Turn.as, board_Board_Turn.rs, Int, fun x => board_Board_Turn N x.1, fun r o => r.1, fun b => (b, ()), fun b => ()⟩
theorem board_Board_Turn.fit (N : Nat) : (board_Board_Turn.D N).Fit := ⟨fun _ _ => rfl, fun _ _ => rfl, by kernel_rfl⟩
noncomputable def board_Board_Turn.G (N : Nat) : Gam := gamOf []
def board_Board_Turn.A : Nat → Option LoopAnn := fun _ => none
noncomputable def board_Board_Turn.fin (N : Nat) : St → Option Int := resK tb Try.f77.results.toList (decRes (board_Board_Turn.D N) board_Board_Turn.lc)
theorem board_Board_Turn.entry (N : Nat) (rec : List Item → St → Option Int) (x : (argH board_Board_Turn.as).den) : seg tb (board_Board_Turn.G N) board_Board_Turn.A 0 rec (board_Board_Turn.fin N) segFuel [.code (bodyOf Try.f77)] (initSt Try.f77 (encArgs board_Board_Turn.as x) (encMem board_Board_Turn.as x)) = board_Board_Turn.e N x.1 := by kernel_rfl
theorem board_Board_Turn.ok (N : Nat) : FnOk Try.prog 77 (board_Board_Turn.D N) := by
  refine FnOk_of tb_ok (Checked.mixed Try.checked) ⟨Try.f77, Try.func77, by kernel_rfl, by kernel_rfl, fun x y h => ⟨board_Board_Turn.G N, board_Board_Turn.A, N, gamOf_ok (fun p hp => nomatch hp), ?_⟩⟩ (board_Board_Turn.fit N)
  rw [absFn_n (n0 := 0) rfl (by kernel_rfl)]
  exact (board_Board_Turn.entry N _ x).trans h
/-! ### f42: gamehall/gamehallkeep1.boarded -/
def gamehallkeep1_boarded.as : List MK := []
def gamehallkeep1_boarded.rs : List (Bool × HT) := [(false, (.d .bool))]
def gamehallkeep1_boarded.lc : List AC := []
def gamehallkeep1_boarded.D (N : Nat) : DFn := ⟨gamehallkeep1_boarded.as, gamehallkeep1_boarded.rs, Bool, fun x => gamehallkeep1_boarded N, fun r o => r.1, fun b => (b, ()), fun b => ()⟩
theorem gamehallkeep1_boarded.fit (N : Nat) : (gamehallkeep1_boarded.D N).Fit := ⟨fun _ _ => rfl, fun _ _ => rfl, by kernel_rfl⟩
noncomputable def gamehallkeep1_boarded.G (N : Nat) : Gam := gamOf [(29, gamehallkeep1_three.D N), (27, gamehallkeep1_near.D N), (44, board_New.D N), (32, gamehallkeep1_put.D N), (52, board_Board_Do'.D N), (49, board_Board_Result.D N), (76, board_Board_Len.D N), (45, board_Board_Moves.D N), (51, board_Board_Undo'.D N), (47, board_Board_Position.D N), (26, gamehallkeep1_same.D N), (77, board_Board_Turn.D N)]
def gamehallkeep1_boarded.A : Nat → Option LoopAnn := fun _ => none
noncomputable def gamehallkeep1_boarded.fin (N : Nat) : St → Option Bool := resK tb Try.f42.results.toList (decRes (gamehallkeep1_boarded.D N) gamehallkeep1_boarded.lc)
theorem gamehallkeep1_boarded.entry (N : Nat) (rec : List Item → St → Option Bool) (x : (argH gamehallkeep1_boarded.as).den) : seg tb (gamehallkeep1_boarded.G N) gamehallkeep1_boarded.A 0 rec (gamehallkeep1_boarded.fin N) segFuel [.code (bodyOf Try.f42)] (initSt Try.f42 (encArgs gamehallkeep1_boarded.as x) (encMem gamehallkeep1_boarded.as x)) = gamehallkeep1_boarded.e N := by kernel_rfl
theorem gamehallkeep1_boarded.ok (N : Nat) : FnOk Try.prog 42 (gamehallkeep1_boarded.D N) := by
  refine FnOk_of tb_ok (Checked.mixed Try.checked) ⟨Try.f42, Try.func42, by kernel_rfl, by kernel_rfl, fun x y h => ⟨gamehallkeep1_boarded.G N, gamehallkeep1_boarded.A, N, gamOf_ok (by simp only [List.forall_mem_cons, List.not_mem_nil, false_implies, implies_true, and_true]; exact ⟨⟨gamehallkeep1_three.ok N, gamehallkeep1_three.fit N⟩, ⟨gamehallkeep1_near.ok N, gamehallkeep1_near.fit N⟩, ⟨board_New.ok N, board_New.fit N⟩, ⟨gamehallkeep1_put.ok N, gamehallkeep1_put.fit N⟩, ⟨board_Board_Do'.ok N, board_Board_Do'.fit N⟩, ⟨board_Board_Result.ok N, board_Board_Result.fit N⟩, ⟨board_Board_Len.ok N, board_Board_Len.fit N⟩, ⟨board_Board_Moves.ok N, board_Board_Moves.fit N⟩, ⟨board_Board_Undo'.ok N, board_Board_Undo'.fit N⟩, ⟨board_Board_Position.ok N, board_Board_Position.fit N⟩, ⟨gamehallkeep1_same.ok N, gamehallkeep1_same.fit N⟩, ⟨board_Board_Turn.ok N, board_Board_Turn.fit N⟩⟩), ?_⟩⟩ (gamehallkeep1_boarded.fit N)
  rw [absFn_n (n0 := 0) rfl (by kernel_rfl)]
  exact (gamehallkeep1_boarded.entry N _ x).trans h
/-! ### f46: gamehall/zob.Key -/
def zob_Key.as : List MK := [.d true (.prod .str (.prod (.int .i64) (.prod (.int .i64) (.prod (.slice 96 (.prod (.int .u8) (.prod (.int .i64) (.prod (.int .i64) (.slice 130 (.prod (.int .i64) (.prod (.int .i64) (.prod (.int .i64) (.int .i64))))))))) (.prod (.slice 3 (.int .i64)) (.prod .bool (.prod .bool (.prod (.slice 98 (.prod (.int .i64) (.prod (.int .i64) (.prod (.int .i64) .bool)))) (.prod (.int .i64) (.prod (.int .i64) (.int .i64))))))))))), .d true (.prod (.slice 3 (.int .i64)) (.prod (.prod (.slice 3 (.int .i64)) (.slice 3 (.int .i64))) (.prod (.int .i64) (.int .i64))))]
def zob_Key.rs : List (Bool × HT) := [(false, (.d (.int .u64))), (false, (.d (.int .i64)))]
def zob_Key.lc : List AC := []
def zob_Key.D (N : Nat) : DFn := ⟨zob_Key.as, zob_Key.rs, (Int × Int), fun x => zob_Key N x.1 x.2.1, fun r o => (r.1, r.2.1), fun b => (b.1, (b.2, ())), fun b => ()⟩
theorem zob_Key.fit (N : Nat) : (zob_Key.D N).Fit := ⟨fun _ _ => rfl, fun _ _ => rfl, by kernel_rfl⟩
noncomputable def zob_Key.G (N : Nat) : Gam := gamOf [(61, place_Check.D N), (80, zob_Of.D N)]
def zob_Key.A : Nat → Option LoopAnn := fun _ => none
noncomputable def zob_Key.fin (N : Nat) : St → Option (Int × Int) := resK tb Try.f46.results.toList (decRes (zob_Key.D N) zob_Key.lc)
theorem zob_Key.entry (N : Nat) (rec : List Item → St → Option (Int × Int)) (x : (argH zob_Key.as).den) : seg tb (zob_Key.G N) zob_Key.A 0 rec (zob_Key.fin N) segFuel [.code (bodyOf Try.f46)] (initSt Try.f46 (encArgs zob_Key.as x) (encMem zob_Key.as x)) = zob_Key.e N x.1 x.2.1 := by kernel_rfl
theorem zob_Key.ok (N : Nat) : FnOk Try.prog 46 (zob_Key.D N) := by
  refine FnOk_of tb_ok (Checked.mixed Try.checked) ⟨Try.f46, Try.func46, by kernel_rfl, by kernel_rfl, fun x y h => ⟨zob_Key.G N, zob_Key.A, N, gamOf_ok (by simp only [List.forall_mem_cons, List.not_mem_nil, false_implies, implies_true, and_true]; exact ⟨⟨place_Check.ok N, place_Check.fit N⟩, ⟨zob_Of.ok N, zob_Of.fit N⟩⟩), ?_⟩⟩ (zob_Key.fit N)
  rw [absFn_n (n0 := 0) rfl (by kernel_rfl)]
  exact (zob_Key.entry N _ x).trans h
/-! ### f78: gamehall/zob.Change -/
def zob_Change.as : List MK := [.d true (.prod .str (.prod (.int .i64) (.prod (.int .i64) (.prod (.slice 96 (.prod (.int .u8) (.prod (.int .i64) (.prod (.int .i64) (.slice 130 (.prod (.int .i64) (.prod (.int .i64) (.prod (.int .i64) (.int .i64))))))))) (.prod (.slice 3 (.int .i64)) (.prod .bool (.prod .bool (.prod (.slice 98 (.prod (.int .i64) (.prod (.int .i64) (.prod (.int .i64) .bool)))) (.prod (.int .i64) (.prod (.int .i64) (.int .i64))))))))))), .d true (.prod (.slice 3 (.int .i64)) (.prod (.prod (.slice 3 (.int .i64)) (.slice 3 (.int .i64))) (.prod (.int .i64) (.int .i64)))), .d true (.prod (.int .i64) (.prod (.int .i64) (.int .i64)))]
def zob_Change.rs : List (Bool × HT) := [(false, (.d (.int .u64))), (false, (.d (.int .i64)))]
def zob_Change.lc : List AC := []
def zob_Change.D (N : Nat) : DFn := ⟨zob_Change.as, zob_Change.rs, (Int × Int), fun x => zob_Change N x.1 x.2.1 x.2.2.1, fun r o => (r.1, r.2.1), fun b => (b.1, (b.2, ())), fun b => ()⟩
theorem zob_Change.fit (N : Nat) : (zob_Change.D N).Fit := ⟨fun _ _ => rfl, fun _ _ => rfl, by kernel_rfl⟩
noncomputable def zob_Change.G (N : Nat) : Gam := gamOf [(61, place_Check.D N), (62, moves_Gen.D N), (82, slices_Contains_api_Move_api_Move.D N), (80, zob_Of.D N), (97, zob_Next.D N)]
def zob_Change.A : Nat → Option LoopAnn := fun _ => none
noncomputable def zob_Change.fin (N : Nat) : St → Option (Int × Int) := resK tb Try.f78.results.toList (decRes (zob_Change.D N) zob_Change.lc)
theorem zob_Change.entry (N : Nat) (rec : List Item → St → Option (Int × Int)) (x : (argH zob_Change.as).den) : seg tb (zob_Change.G N) zob_Change.A 0 rec (zob_Change.fin N) segFuel [.code (bodyOf Try.f78)] (initSt Try.f78 (encArgs zob_Change.as x) (encMem zob_Change.as x)) = zob_Change.e N x.1 x.2.1 x.2.2.1 := by kernel_rfl
theorem zob_Change.ok (N : Nat) : FnOk Try.prog 78 (zob_Change.D N) := by
  refine FnOk_of tb_ok (Checked.mixed Try.checked) ⟨Try.f78, Try.func78, by kernel_rfl, by kernel_rfl, fun x y h => ⟨zob_Change.G N, zob_Change.A, N, gamOf_ok (by simp only [List.forall_mem_cons, List.not_mem_nil, false_implies, implies_true, and_true]; exact ⟨⟨place_Check.ok N, place_Check.fit N⟩, ⟨moves_Gen.ok N, moves_Gen.fit N⟩, ⟨slices_Contains_api_Move_api_Move.ok N, slices_Contains_api_Move_api_Move.fit N⟩, ⟨zob_Of.ok N, zob_Of.fit N⟩, ⟨zob_Next.ok N, zob_Next.fit N⟩⟩), ?_⟩⟩ (zob_Change.fit N)
  rw [absFn_n (n0 := 0) rfl (by kernel_rfl)]
  exact (zob_Change.entry N _ x).trans h
/-! ### f72: gamehall/gamehallkeep1.fine$1 -/
def gamehallkeep1_fine_1.as : List MK := [.d false (.int .i64)]
def gamehallkeep1_fine_1.rs : List (Bool × HT) := [(false, (.d .bool))]
def gamehallkeep1_fine_1.lc : List AC := []
def gamehallkeep1_fine_1.D (N : Nat) : DFn := ⟨gamehallkeep1_fine_1.as, gamehallkeep1_fine_1.rs, Bool, fun x => gamehallkeep1_fine_1 N x.1, fun r o => r.1, fun b => (b, ()), fun b => ()⟩
theorem gamehallkeep1_fine_1.fit (N : Nat) : (gamehallkeep1_fine_1.D N).Fit := ⟨fun _ _ => rfl, fun _ _ => rfl, by kernel_rfl⟩
noncomputable def gamehallkeep1_fine_1.G (N : Nat) : Gam := gamOf []
def gamehallkeep1_fine_1.A : Nat → Option LoopAnn := fun _ => none
noncomputable def gamehallkeep1_fine_1.fin (N : Nat) : St → Option Bool := resK tb Try.f72.results.toList (decRes (gamehallkeep1_fine_1.D N) gamehallkeep1_fine_1.lc)
theorem gamehallkeep1_fine_1.entry (N : Nat) (rec : List Item → St → Option Bool) (x : (argH gamehallkeep1_fine_1.as).den) : seg tb (gamehallkeep1_fine_1.G N) gamehallkeep1_fine_1.A 0 rec (gamehallkeep1_fine_1.fin N) segFuel [.code (bodyOf Try.f72)] (initSt Try.f72 (encArgs gamehallkeep1_fine_1.as x) (encMem gamehallkeep1_fine_1.as x)) = gamehallkeep1_fine_1.e N x.1 := by kernel_rfl
theorem gamehallkeep1_fine_1.ok (N : Nat) : FnOk Try.prog 72 (gamehallkeep1_fine_1.D N) := by
  refine FnOk_of tb_ok (Checked.mixed Try.checked) ⟨Try.f72, Try.func72, by kernel_rfl, by kernel_rfl, fun x y h => ⟨gamehallkeep1_fine_1.G N, gamehallkeep1_fine_1.A, N, gamOf_ok (fun p hp => nomatch hp), ?_⟩⟩ (gamehallkeep1_fine_1.fit N)
  rw [absFn_n (n0 := 0) rfl (by kernel_rfl)]
  exact (gamehallkeep1_fine_1.entry N _ x).trans h
/-! ### f99: slices.IndexFunc[[]gamehall/api.Errno,gamehall/api.Errno] -/
def slices_IndexFunc_api_Errno_api_Errno.as : List MK := [.d false (.slice 29 (.int .i64)), .f 72]
def slices_IndexFunc_api_Errno_api_Errno.rs : List (Bool × HT) := [(false, (.d (.int .i64)))]
def slices_IndexFunc_api_Errno_api_Errno.lc : List AC := []
def slices_IndexFunc_api_Errno_api_Errno.D (N : Nat) : DFn := ⟨slices_IndexFunc_api_Errno_api_Errno.as, slices_IndexFunc_api_Errno_api_Errno.rs, Int, fun x => slices_IndexFunc_api_Errno_api_Errno N x.1, fun r o => r.1, fun b => (b, ()), fun b => ()⟩
theorem slices_IndexFunc_api_Errno_api_Errno.fit (N : Nat) : (slices_IndexFunc_api_Errno_api_Errno.D N).Fit := ⟨fun _ _ => rfl, fun _ _ => rfl, by kernel_rfl⟩
noncomputable def slices_IndexFunc_api_Errno_api_Errno.G (N : Nat) : Gam := gamOf [(72, gamehallkeep1_fine_1.D N)]
def slices_IndexFunc_api_Errno_api_Errno.A : Nat → Option LoopAnn := fun k => bif Nat.beq k 0 then some ⟨[0, 1, 7, 8], [], [], [], [], 0, false⟩ else none
noncomputable def slices_IndexFunc_api_Errno_api_Errno.fin (N : Nat) : St → Option Int := resK tb Try.f99.results.toList (decRes (slices_IndexFunc_api_Errno_api_Errno.D N) slices_IndexFunc_api_Errno_api_Errno.lc)
noncomputable def slices_IndexFunc_api_Errno_api_Errno.k0 : List Item := stackAt [.r, .l, .r, .b] (bodyOf Try.f99) []
def slices_IndexFunc_api_Errno_api_Errno.st0 (s_ : (List Int)) (t8_ : Int) : St := ⟨[.one (.fro 29 (.int .i64) s_), .one (.fn 72)] ++ List.replicate 5 (.one .any) ++ [.one (.int .i64 (s_.length : Int)), .one (.int .i64 t8_)] ++ List.replicate 10 (.one .any), []⟩
theorem slices_IndexFunc_api_Errno_api_Errno.step0 (N : Nat) (rec : List Item → St → Option Int) (s_ : (List Int)) (t8_ : Int) : seg tb (slices_IndexFunc_api_Errno_api_Errno.G N) slices_IndexFunc_api_Errno_api_Errno.A 0 rec (slices_IndexFunc_api_Errno_api_Errno.fin N) segFuel (loopBody slices_IndexFunc_api_Errno_api_Errno.k0) (slices_IndexFunc_api_Errno_api_Errno.st0 s_ t8_) = slices_IndexFunc_api_Errno_api_Errno.s0 N s_ (fun t8_ => rec slices_IndexFunc_api_Errno_api_Errno.k0 (slices_IndexFunc_api_Errno_api_Errno.st0 s_ t8_)) t8_ := by kernel_rfl
theorem slices_IndexFunc_api_Errno_api_Errno.entry (N : Nat) (rec : List Item → St → Option Int) (x : (argH slices_IndexFunc_api_Errno_api_Errno.as).den) : seg tb (slices_IndexFunc_api_Errno_api_Errno.G N) slices_IndexFunc_api_Errno_api_Errno.A 0 rec (slices_IndexFunc_api_Errno_api_Errno.fin N) segFuel [.code (bodyOf Try.f99)] (initSt Try.f99 (encArgs slices_IndexFunc_api_Errno_api_Errno.as x) (encMem slices_IndexFunc_api_Errno_api_Errno.as x)) = slices_IndexFunc_api_Errno_api_Errno.e N (fun t8_ => rec slices_IndexFunc_api_Errno_api_Errno.k0 (slices_IndexFunc_api_Errno_api_Errno.st0 x.1 t8_)) x.1 := by kernel_rfl
theorem slices_IndexFunc_api_Errno_api_Errno.runs (N : Nat) (s_ : (List Int)) : ∀ n, (∀ (t8_ : Int), run tb (slices_IndexFunc_api_Errno_api_Errno.G N) slices_IndexFunc_api_Errno_api_Errno.A 0 (slices_IndexFunc_api_Errno_api_Errno.fin N) n slices_IndexFunc_api_Errno_api_Errno.k0 (slices_IndexFunc_api_Errno_api_Errno.st0 s_ t8_) = slices_IndexFunc_api_Errno_api_Errno.l0 N s_ n t8_)
  | 0 => fun _ => rfl
  | n + 1 => by
    have h0 := slices_IndexFunc_api_Errno_api_Errno.runs N s_ n
    have e0 : (fun (t8_ : Int) => run tb (slices_IndexFunc_api_Errno_api_Errno.G N) slices_IndexFunc_api_Errno_api_Errno.A 0 (slices_IndexFunc_api_Errno_api_Errno.fin N) n slices_IndexFunc_api_Errno_api_Errno.k0 (slices_IndexFunc_api_Errno_api_Errno.st0 s_ t8_)) = slices_IndexFunc_api_Errno_api_Errno.l0 N s_ n := by funext t8_; exact h0 t8_
    have g0 : (∀ (t8_ : Int), run tb (slices_IndexFunc_api_Errno_api_Errno.G N) slices_IndexFunc_api_Errno_api_Errno.A 0 (slices_IndexFunc_api_Errno_api_Errno.fin N) (n + 1) slices_IndexFunc_api_Errno_api_Errno.k0 (slices_IndexFunc_api_Errno_api_Errno.st0 s_ t8_) = slices_IndexFunc_api_Errno_api_Errno.l0 N s_ (n + 1) t8_) := by
      intro t8_
      exact (run_succ (by kernel_rfl)).trans ((slices_IndexFunc_api_Errno_api_Errno.step0 N _ s_ t8_).trans ((congrArg (fun r0 => slices_IndexFunc_api_Errno_api_Errno.s0 N s_ r0 t8_) e0).trans (slices_IndexFunc_api_Errno_api_Errno.l0_s N s_ n t8_).symm))
    exact g0
theorem slices_IndexFunc_api_Errno_api_Errno.ok (N : Nat) : FnOk Try.prog 99 (slices_IndexFunc_api_Errno_api_Errno.D N) := by
  refine FnOk_of tb_ok (Checked.mixed Try.checked) ⟨Try.f99, Try.func99, by kernel_rfl, by kernel_rfl, fun x y h => ⟨slices_IndexFunc_api_Errno_api_Errno.G N, slices_IndexFunc_api_Errno_api_Errno.A, N, gamOf_ok (by simp only [List.forall_mem_cons, List.not_mem_nil, false_implies, implies_true, and_true]; exact ⟨gamehallkeep1_fine_1.ok N, gamehallkeep1_fine_1.fit N⟩), ?_⟩⟩ (slices_IndexFunc_api_Errno_api_Errno.fit N)
  rw [absFn_n (n0 := 0) rfl (by kernel_rfl)]
  refine (slices_IndexFunc_api_Errno_api_Errno.entry N (run tb (slices_IndexFunc_api_Errno_api_Errno.G N) slices_IndexFunc_api_Errno_api_Errno.A 0 (slices_IndexFunc_api_Errno_api_Errno.fin N) N) x).trans ?_
  have e0 : (fun (t8_ : Int) => run tb (slices_IndexFunc_api_Errno_api_Errno.G N) slices_IndexFunc_api_Errno_api_Errno.A 0 (slices_IndexFunc_api_Errno_api_Errno.fin N) N slices_IndexFunc_api_Errno_api_Errno.k0 (slices_IndexFunc_api_Errno_api_Errno.st0 x.1 t8_)) = slices_IndexFunc_api_Errno_api_Errno.l0 N x.1 N := by funext t8_; exact (slices_IndexFunc_api_Errno_api_Errno.runs N x.1 N) t8_
  have h' : (slices_IndexFunc_api_Errno_api_Errno.D N).f x = slices_IndexFunc_api_Errno_api_Errno.e N (slices_IndexFunc_api_Errno_api_Errno.l0 N x.1 N) x.1 := by kernel_rfl
  exact (congrArg (fun r0 => slices_IndexFunc_api_Errno_api_Errno.e N r0 x.1) e0).trans (h'.symm.trans h)
/-! ### f71: slices.ContainsFunc[[]gamehall/api.Errno,gamehall/api.Errno] -/
def slices_ContainsFunc_api_Errno_api_Errno.as : List MK := [.d false (.slice 29 (.int .i64)), .f 72]
def slices_ContainsFunc_api_Errno_api_Errno.rs : List (Bool × HT) := [(false, (.d .bool))]
def slices_ContainsFunc_api_Errno_api_Errno.lc : List AC := []
def slices_ContainsFunc_api_Errno_api_Errno.D (N : Nat) : DFn := ⟨slices_ContainsFunc_api_Errno_api_Errno.as, slices_ContainsFunc_api_Errno_api_Errno.rs, Bool, fun x => slices_ContainsFunc_api_Errno_api_Errno N x.1, fun r o => r.1, fun b => (b, ()), fun b => ()⟩
theorem slices_ContainsFunc_api_Errno_api_Errno.fit (N : Nat) : (slices_ContainsFunc_api_Errno_api_Errno.D N).Fit := ⟨fun _ _ => rfl, fun _ _ => rfl, by kernel_rfl⟩
noncomputable def slices_ContainsFunc_api_Errno_api_Errno.G (N : Nat) : Gam := gamOf [(99, slices_IndexFunc_api_Errno_api_Errno.D N)]
def slices_ContainsFunc_api_Errno_api_Errno.A : Nat → Option LoopAnn := fun _ => none
noncomputable def slices_ContainsFunc_api_Errno_api_Errno.fin (N : Nat) : St → Option Bool := resK tb Try.f71.results.toList (decRes (slices_ContainsFunc_api_Errno_api_Errno.D N) slices_ContainsFunc_api_Errno_api_Errno.lc)
theorem slices_ContainsFunc_api_Errno_api_Errno.entry (N : Nat) (rec : List Item → St → Option Bool) (x : (argH slices_ContainsFunc_api_Errno_api_Errno.as).den) : seg tb (slices_ContainsFunc_api_Errno_api_Errno.G N) slices_ContainsFunc_api_Errno_api_Errno.A 0 rec (slices_ContainsFunc_api_Errno_api_Errno.fin N) segFuel [.code (bodyOf Try.f71)] (initSt Try.f71 (encArgs slices_ContainsFunc_api_Errno_api_Errno.as x) (encMem slices_ContainsFunc_api_Errno_api_Errno.as x)) = slices_ContainsFunc_api_Errno_api_Errno.e N x.1 := by kernel_rfl
theorem slices_ContainsFunc_api_Errno_api_Errno.ok (N : Nat) : FnOk Try.prog 71 (slices_ContainsFunc_api_Errno_api_Errno.D N) := by
  refine FnOk_of tb_ok (Checked.mixed Try.checked) ⟨Try.f71, Try.func71, by kernel_rfl, by kernel_rfl, fun x y h => ⟨slices_ContainsFunc_api_Errno_api_Errno.G N, slices_ContainsFunc_api_Errno_api_Errno.A, N, gamOf_ok (by simp only [List.forall_mem_cons, List.not_mem_nil, false_implies, implies_true, and_true]; exact ⟨slices_IndexFunc_api_Errno_api_Errno.ok N, slices_IndexFunc_api_Errno_api_Errno.fit N⟩), ?_⟩⟩ (slices_ContainsFunc_api_Errno_api_Errno.fit N)
  rw [absFn_n (n0 := 0) rfl (by kernel_rfl)]
  exact (slices_ContainsFunc_api_Errno_api_Errno.entry N _ x).trans h
/-! ### f37: gamehall/gamehallkeep1.fine -/
def gamehallkeep1_fine.as : List MK := [.d false (.slice 29 (.int .i64))]
def gamehallkeep1_fine.rs : List (Bool × HT) := [(false, (.d .bool))]
def gamehallkeep1_fine.lc : List AC := []
def gamehallkeep1_fine.D (N : Nat) : DFn := ⟨gamehallkeep1_fine.as, gamehallkeep1_fine.rs, Bool, fun x => gamehallkeep1_fine N x.1, fun r o => r.1, fun b => (b, ()), fun b => ()⟩
theorem gamehallkeep1_fine.fit (N : Nat) : (gamehallkeep1_fine.D N).Fit := ⟨fun _ _ => rfl, fun _ _ => rfl, by kernel_rfl⟩
noncomputable def gamehallkeep1_fine.G (N : Nat) : Gam := gamOf [(71, slices_ContainsFunc_api_Errno_api_Errno.D N)]
def gamehallkeep1_fine.A : Nat → Option LoopAnn := fun _ => none
noncomputable def gamehallkeep1_fine.fin (N : Nat) : St → Option Bool := resK tb Try.f37.results.toList (decRes (gamehallkeep1_fine.D N) gamehallkeep1_fine.lc)
theorem gamehallkeep1_fine.entry (N : Nat) (rec : List Item → St → Option Bool) (x : (argH gamehallkeep1_fine.as).den) : seg tb (gamehallkeep1_fine.G N) gamehallkeep1_fine.A 0 rec (gamehallkeep1_fine.fin N) segFuel [.code (bodyOf Try.f37)] (initSt Try.f37 (encArgs gamehallkeep1_fine.as x) (encMem gamehallkeep1_fine.as x)) = gamehallkeep1_fine.e N x.1 := by kernel_rfl
theorem gamehallkeep1_fine.ok (N : Nat) : FnOk Try.prog 37 (gamehallkeep1_fine.D N) := by
  refine FnOk_of tb_ok (Checked.mixed Try.checked) ⟨Try.f37, Try.func37, by kernel_rfl, by kernel_rfl, fun x y h => ⟨gamehallkeep1_fine.G N, gamehallkeep1_fine.A, N, gamOf_ok (by simp only [List.forall_mem_cons, List.not_mem_nil, false_implies, implies_true, and_true]; exact ⟨slices_ContainsFunc_api_Errno_api_Errno.ok N, slices_ContainsFunc_api_Errno_api_Errno.fit N⟩), ?_⟩⟩ (gamehallkeep1_fine.fit N)
  rw [absFn_n (n0 := 0) rfl (by kernel_rfl)]
  exact (gamehallkeep1_fine.entry N _ x).trans h
/-! ### f43: gamehall/gamehallkeep1.keyed -/
def gamehallkeep1_keyed.as : List MK := []
def gamehallkeep1_keyed.rs : List (Bool × HT) := [(false, (.d .bool))]
def gamehallkeep1_keyed.lc : List AC := []
def gamehallkeep1_keyed.D (N : Nat) : DFn := ⟨gamehallkeep1_keyed.as, gamehallkeep1_keyed.rs, Bool, fun x => gamehallkeep1_keyed N, fun r o => r.1, fun b => (b, ()), fun b => ()⟩
theorem gamehallkeep1_keyed.fit (N : Nat) : (gamehallkeep1_keyed.D N).Fit := ⟨fun _ _ => rfl, fun _ _ => rfl, by kernel_rfl⟩
noncomputable def gamehallkeep1_keyed.G (N : Nat) : Gam := gamOf [(29, gamehallkeep1_three.D N), (27, gamehallkeep1_near.D N), (46, zob_Key.D N), (32, gamehallkeep1_put.D N), (78, zob_Change.D N), (37, gamehallkeep1_fine.D N), (79, zob_Mix.D N)]
def gamehallkeep1_keyed.A : Nat → Option LoopAnn := fun _ => none
noncomputable def gamehallkeep1_keyed.fin (N : Nat) : St → Option Bool := resK tb Try.f43.results.toList (decRes (gamehallkeep1_keyed.D N) gamehallkeep1_keyed.lc)
theorem gamehallkeep1_keyed.entry (N : Nat) (rec : List Item → St → Option Bool) (x : (argH gamehallkeep1_keyed.as).den) : seg tb (gamehallkeep1_keyed.G N) gamehallkeep1_keyed.A 0 rec (gamehallkeep1_keyed.fin N) segFuel [.code (bodyOf Try.f43)] (initSt Try.f43 (encArgs gamehallkeep1_keyed.as x) (encMem gamehallkeep1_keyed.as x)) = gamehallkeep1_keyed.e N := by kernel_rfl
theorem gamehallkeep1_keyed.ok (N : Nat) : FnOk Try.prog 43 (gamehallkeep1_keyed.D N) := by
  refine FnOk_of tb_ok (Checked.mixed Try.checked) ⟨Try.f43, Try.func43, by kernel_rfl, by kernel_rfl, fun x y h => ⟨gamehallkeep1_keyed.G N, gamehallkeep1_keyed.A, N, gamOf_ok (by simp only [List.forall_mem_cons, List.not_mem_nil, false_implies, implies_true, and_true]; exact ⟨⟨gamehallkeep1_three.ok N, gamehallkeep1_three.fit N⟩, ⟨gamehallkeep1_near.ok N, gamehallkeep1_near.fit N⟩, ⟨zob_Key.ok N, zob_Key.fit N⟩, ⟨gamehallkeep1_put.ok N, gamehallkeep1_put.fit N⟩, ⟨zob_Change.ok N, zob_Change.fit N⟩, ⟨gamehallkeep1_fine.ok N, gamehallkeep1_fine.fit N⟩, ⟨zob_Mix.ok N, zob_Mix.fit N⟩⟩), ?_⟩⟩ (gamehallkeep1_keyed.fit N)
  rw [absFn_n (n0 := 0) rfl (by kernel_rfl)]
  exact (gamehallkeep1_keyed.entry N _ x).trans h
/-! ### f87: gamehall/place.Fresh -/
def place_Fresh.as : List MK := [.d true (.prod .str (.prod (.int .i64) (.prod (.int .i64) (.prod (.slice 96 (.prod (.int .u8) (.prod (.int .i64) (.prod (.int .i64) (.slice 130 (.prod (.int .i64) (.prod (.int .i64) (.prod (.int .i64) (.int .i64))))))))) (.prod (.slice 3 (.int .i64)) (.prod .bool (.prod .bool (.prod (.slice 98 (.prod (.int .i64) (.prod (.int .i64) (.prod (.int .i64) .bool)))) (.prod (.int .i64) (.prod (.int .i64) (.int .i64)))))))))))]
def place_Fresh.rs : List (Bool × HT) := [(true, (.prod (.own 3 (.int .i64)) (.prod (.prod (.own 3 (.int .i64)) (.own 3 (.int .i64))) (.d (.prod (.int .i64) (.int .i64))))))]
def place_Fresh.lc : List AC := []
def place_Fresh.D (N : Nat) : DFn := ⟨place_Fresh.as, place_Fresh.rs, ((List Int) × (((List Int) × (List Int)) × (Int × Int))), fun x => place_Fresh N x.1, fun r o => r.1, fun b => (b, ()), fun b => ()⟩
theorem place_Fresh.fit (N : Nat) : (place_Fresh.D N).Fit := ⟨fun _ _ => rfl, fun _ _ => rfl, by kernel_rfl⟩
noncomputable def place_Fresh.G (N : Nat) : Gam := gamOf [(94, slices_Clone_int_int.D N)]
def place_Fresh.A : Nat → Option LoopAnn := fun k => bif Nat.beq k 0 then some ⟨[1, 2, 3, 11], [], [(3, 1, 3), (3, 2, 3)], [], [], 6, false⟩ else bif Nat.beq k 2 then some ⟨[1, 2, 3, 4, 11, 15, 16, 17], [], [(3, 1, 3), (3, 2, 3)], [(true, 3, 1, 4), (true, 3, 2, 5)], [], 6, false⟩ else bif Nat.beq k 1000008 then some ⟨[4], [], [], [], [], 2, false⟩ else none
noncomputable def place_Fresh.fin (N : Nat) : St → Option ((List Int) × (((List Int) × (List Int)) × (Int × Int))) := resK tb Try.f87.results.toList (decRes (place_Fresh.D N) place_Fresh.lc)
noncomputable def place_Fresh.k0 : List Item := stackAt [.r, .r, .l, .r, .b] (bodyOf Try.f87) []
def place_Fresh.st0 (r_ : (ByteArray × (Int × (Int × ((List (Int × (Int × (Int × (List (Int × (Int × (Int × Int)))))))) × ((List Int) × (Bool × (Bool × ((List (Int × (Int × (Int × Bool)))) × (Int × (Int × Int))))))))))) (t11_ : Int) (m2_ : (List Int)) (m4_ : (List Int)) (m5_ : (List Int)) : St := ⟨[.one .any, .one (.ptr 0 0), .one (.ptr 1 0), .one (.ptr 3 0)] ++ List.replicate 7 (.one .any) ++ [.one (.int .i64 t11_)] ++ List.replicate 23 (.one .any), [.var 26 [.str r_.1, .int .i64 r_.2.1, .int .i64 r_.2.2.1, .fro 96 (.prod (.int .u8) (.prod (.int .i64) (.prod (.int .i64) (.slice 130 (.prod (.int .i64) (.prod (.int .i64) (.prod (.int .i64) (.int .i64)))))))) r_.2.2.2.1, .fro 3 (.int .i64) r_.2.2.2.2.1, .bool r_.2.2.2.2.2.1, .bool r_.2.2.2.2.2.2.1, .fro 98 (.prod (.int .i64) (.prod (.int .i64) (.prod (.int .i64) .bool))) r_.2.2.2.2.2.2.2.1, .int .i64 r_.2.2.2.2.2.2.2.2.1, .int .i64 r_.2.2.2.2.2.2.2.2.2.1, .int .i64 r_.2.2.2.2.2.2.2.2.2.2], .var 38 [.nilS, .nilS, .nilS, .int .i64 0, .int .i64 0], .row 3 (.int .i64) m2_, .var 38 [.own 2, .own 4, .own 5, .int .i64 0, .int .i64 0], .row 3 (.int .i64) m4_, .row 3 (.int .i64) m5_]⟩
noncomputable def place_Fresh.k1 : List Item := stackAt [.r, .r, .l, .r, .b, .w, .r, .r, .l, .b, .r, .r, .b] (bodyOf Try.f87) []
def place_Fresh.st1 (r_ : (ByteArray × (Int × (Int × ((List (Int × (Int × (Int × (List (Int × (Int × (Int × Int)))))))) × ((List Int) × (Bool × (Bool × ((List (Int × (Int × (Int × Bool)))) × (Int × (Int × Int))))))))))) (o_ : Int) (t11_ : Int) (t16_ : Int) (t17_ : Int) (m2_ : (List Int)) (m4_ : (List Int)) (m5_ : (List Int)) : St := ⟨[.one .any, .one (.ptr 0 0), .one (.ptr 1 0), .one (.ptr 3 0), .one (.int .i64 o_)] ++ List.replicate 6 (.one .any) ++ [.one (.int .i64 t11_)] ++ List.replicate 3 (.one .any) ++ [.one (.fro 96 (.prod (.int .u8) (.prod (.int .i64) (.prod (.int .i64) (.slice 130 (.prod (.int .i64) (.prod (.int .i64) (.prod (.int .i64) (.int .i64)))))))) r_.2.2.2.1), .one (.int .i64 t16_), .one (.int .i64 t17_)] ++ List.replicate 17 (.one .any), [.var 26 [.str r_.1, .int .i64 r_.2.1, .int .i64 r_.2.2.1, .fro 96 (.prod (.int .u8) (.prod (.int .i64) (.prod (.int .i64) (.slice 130 (.prod (.int .i64) (.prod (.int .i64) (.prod (.int .i64) (.int .i64)))))))) r_.2.2.2.1, .fro 3 (.int .i64) r_.2.2.2.2.1, .bool r_.2.2.2.2.2.1, .bool r_.2.2.2.2.2.2.1, .fro 98 (.prod (.int .i64) (.prod (.int .i64) (.prod (.int .i64) .bool))) r_.2.2.2.2.2.2.2.1, .int .i64 r_.2.2.2.2.2.2.2.2.1, .int .i64 r_.2.2.2.2.2.2.2.2.2.1, .int .i64 r_.2.2.2.2.2.2.2.2.2.2], .var 38 [.nilS, .nilS, .nilS, .int .i64 0, .int .i64 0], .row 3 (.int .i64) m2_, .var 38 [.own 2, .own 4, .own 5, .int .i64 0, .int .i64 0], .row 3 (.int .i64) m4_, .row 3 (.int .i64) m5_]⟩
theorem place_Fresh.step0 (N : Nat) (rec : List Item → St → Option ((List Int) × (((List Int) × (List Int)) × (Int × Int)))) (r_ : (ByteArray × (Int × (Int × ((List (Int × (Int × (Int × (List (Int × (Int × (Int × Int)))))))) × ((List Int) × (Bool × (Bool × ((List (Int × (Int × (Int × Bool)))) × (Int × (Int × Int))))))))))) (t11_ : Int) (m2_ : (List Int)) (m4_ : (List Int)) (m5_ : (List Int)) : seg tb (place_Fresh.G N) place_Fresh.A 0 rec (place_Fresh.fin N) segFuel (loopBody place_Fresh.k0) (place_Fresh.st0 r_ t11_ m2_ m4_ m5_) = place_Fresh.s0 N r_ (fun t11_ m2_ m4_ m5_ => rec place_Fresh.k0 (place_Fresh.st0 r_ t11_ m2_ m4_ m5_)) (fun o_ t11_ t16_ t17_ m2_ m4_ m5_ => rec place_Fresh.k1 (place_Fresh.st1 r_ o_ t11_ t16_ t17_ m2_ m4_ m5_)) t11_ m2_ m4_ m5_ := by kernel_rfl
theorem place_Fresh.step1 (N : Nat) (rec : List Item → St → Option ((List Int) × (((List Int) × (List Int)) × (Int × Int)))) (r_ : (ByteArray × (Int × (Int × ((List (Int × (Int × (Int × (List (Int × (Int × (Int × Int)))))))) × ((List Int) × (Bool × (Bool × ((List (Int × (Int × (Int × Bool)))) × (Int × (Int × Int))))))))))) (o_ : Int) (t11_ : Int) (t16_ : Int) (t17_ : Int) (m2_ : (List Int)) (m4_ : (List Int)) (m5_ : (List Int)) : seg tb (place_Fresh.G N) place_Fresh.A 0 rec (place_Fresh.fin N) segFuel (loopBody place_Fresh.k1) (place_Fresh.st1 r_ o_ t11_ t16_ t17_ m2_ m4_ m5_) = place_Fresh.s1 N r_ (fun t11_ m2_ m4_ m5_ => rec place_Fresh.k0 (place_Fresh.st0 r_ t11_ m2_ m4_ m5_)) (fun o_ t11_ t16_ t17_ m2_ m4_ m5_ => rec place_Fresh.k1 (place_Fresh.st1 r_ o_ t11_ t16_ t17_ m2_ m4_ m5_)) o_ t11_ t16_ t17_ m2_ m4_ m5_ := by kernel_rfl
theorem place_Fresh.entry (N : Nat) (rec : List Item → St → Option ((List Int) × (((List Int) × (List Int)) × (Int × Int)))) (x : (argH place_Fresh.as).den) : seg tb (place_Fresh.G N) place_Fresh.A 0 rec (place_Fresh.fin N) segFuel [.code (bodyOf Try.f87)] (initSt Try.f87 (encArgs place_Fresh.as x) (encMem place_Fresh.as x)) = place_Fresh.e N (fun t11_ m2_ m4_ m5_ => rec place_Fresh.k0 (place_Fresh.st0 x.1 t11_ m2_ m4_ m5_)) (fun o_ t11_ t16_ t17_ m2_ m4_ m5_ => rec place_Fresh.k1 (place_Fresh.st1 x.1 o_ t11_ t16_ t17_ m2_ m4_ m5_)) x.1 := by kernel_rfl
theorem place_Fresh.runs (N : Nat) (r_ : (ByteArray × (Int × (Int × ((List (Int × (Int × (Int × (List (Int × (Int × (Int × Int)))))))) × ((List Int) × (Bool × (Bool × ((List (Int × (Int × (Int × Bool)))) × (Int × (Int × Int))))))))))) : ∀ n, (∀ (t11_ : Int) (m2_ : (List Int)) (m4_ : (List Int)) (m5_ : (List Int)), run tb (place_Fresh.G N) place_Fresh.A 0 (place_Fresh.fin N) n place_Fresh.k0 (place_Fresh.st0 r_ t11_ m2_ m4_ m5_) = place_Fresh.l0 N r_ n t11_ m2_ m4_ m5_) ∧ (∀ (o_ : Int) (t11_ : Int) (t16_ : Int) (t17_ : Int) (m2_ : (List Int)) (m4_ : (List Int)) (m5_ : (List Int)), run tb (place_Fresh.G N) place_Fresh.A 0 (place_Fresh.fin N) n place_Fresh.k1 (place_Fresh.st1 r_ o_ t11_ t16_ t17_ m2_ m4_ m5_) = place_Fresh.l1 N r_ n o_ t11_ t16_ t17_ m2_ m4_ m5_)
  | 0 => ⟨fun _ _ _ _ => rfl, fun _ _ _ _ _ _ _ => rfl⟩
  | n + 1 => by
    obtain ⟨h0, h1⟩ := place_Fresh.runs N r_ n
    have e0 : (fun (t11_ : Int) (m2_ : (List Int)) (m4_ : (List Int)) (m5_ : (List Int)) => run tb (place_Fresh.G N) place_Fresh.A 0 (place_Fresh.fin N) n place_Fresh.k0 (place_Fresh.st0 r_ t11_ m2_ m4_ m5_)) = place_Fresh.l0 N r_ n := by funext t11_ m2_ m4_ m5_; exact h0 t11_ m2_ m4_ m5_
    have e1 : (fun (o_ : Int) (t11_ : Int) (t16_ : Int) (t17_ : Int) (m2_ : (List Int)) (m4_ : (List Int)) (m5_ : (List Int)) => run tb (place_Fresh.G N) place_Fresh.A 0 (place_Fresh.fin N) n place_Fresh.k1 (place_Fresh.st1 r_ o_ t11_ t16_ t17_ m2_ m4_ m5_)) = place_Fresh.l1 N r_ n := by funext o_ t11_ t16_ t17_ m2_ m4_ m5_; exact h1 o_ t11_ t16_ t17_ m2_ m4_ m5_
    have g0 : (∀ (t11_ : Int) (m2_ : (List Int)) (m4_ : (List Int)) (m5_ : (List Int)), run tb (place_Fresh.G N) place_Fresh.A 0 (place_Fresh.fin N) (n + 1) place_Fresh.k0 (place_Fresh.st0 r_ t11_ m2_ m4_ m5_) = place_Fresh.l0 N r_ (n + 1) t11_ m2_ m4_ m5_) := by
      intro t11_ m2_ m4_ m5_
      exact (run_succ (by kernel_rfl)).trans ((place_Fresh.step0 N _ r_ t11_ m2_ m4_ m5_).trans ((congr (congrArg (fun r0 r1 => place_Fresh.s0 N r_ r0 r1 t11_ m2_ m4_ m5_) e0) e1).trans (place_Fresh.l0_s N r_ n t11_ m2_ m4_ m5_).symm))
    have g1 : (∀ (o_ : Int) (t11_ : Int) (t16_ : Int) (t17_ : Int) (m2_ : (List Int)) (m4_ : (List Int)) (m5_ : (List Int)), run tb (place_Fresh.G N) place_Fresh.A 0 (place_Fresh.fin N) (n + 1) place_Fresh.k1 (place_Fresh.st1 r_ o_ t11_ t16_ t17_ m2_ m4_ m5_) = place_Fresh.l1 N r_ (n + 1) o_ t11_ t16_ t17_ m2_ m4_ m5_) := by
      intro o_ t11_ t16_ t17_ m2_ m4_ m5_
      exact (run_succ (by kernel_rfl)).trans ((place_Fresh.step1 N _ r_ o_ t11_ t16_ t17_ m2_ m4_ m5_).trans ((congr (congrArg (fun r0 r1 => place_Fresh.s1 N r_ r0 r1 o_ t11_ t16_ t17_ m2_ m4_ m5_) e0) e1).trans (place_Fresh.l1_s N r_ n o_ t11_ t16_ t17_ m2_ m4_ m5_).symm))
    exact ⟨g0, g1⟩
theorem place_Fresh.ok (N : Nat) : FnOk Try.prog 87 (place_Fresh.D N) := by
  refine FnOk_of tb_ok (Checked.mixed Try.checked) ⟨Try.f87, Try.func87, by kernel_rfl, by kernel_rfl, fun x y h => ⟨place_Fresh.G N, place_Fresh.A, N, gamOf_ok (by simp only [List.forall_mem_cons, List.not_mem_nil, false_implies, implies_true, and_true]; exact ⟨slices_Clone_int_int.ok N, slices_Clone_int_int.fit N⟩), ?_⟩⟩ (place_Fresh.fit N)
  rw [absFn_n (n0 := 0) rfl (by kernel_rfl)]
  refine (place_Fresh.entry N (run tb (place_Fresh.G N) place_Fresh.A 0 (place_Fresh.fin N) N) x).trans ?_
  have e0 : (fun (t11_ : Int) (m2_ : (List Int)) (m4_ : (List Int)) (m5_ : (List Int)) => run tb (place_Fresh.G N) place_Fresh.A 0 (place_Fresh.fin N) N place_Fresh.k0 (place_Fresh.st0 x.1 t11_ m2_ m4_ m5_)) = place_Fresh.l0 N x.1 N := by funext t11_ m2_ m4_ m5_; exact (place_Fresh.runs N x.1 N).1 t11_ m2_ m4_ m5_
  have e1 : (fun (o_ : Int) (t11_ : Int) (t16_ : Int) (t17_ : Int) (m2_ : (List Int)) (m4_ : (List Int)) (m5_ : (List Int)) => run tb (place_Fresh.G N) place_Fresh.A 0 (place_Fresh.fin N) N place_Fresh.k1 (place_Fresh.st1 x.1 o_ t11_ t16_ t17_ m2_ m4_ m5_)) = place_Fresh.l1 N x.1 N := by funext o_ t11_ t16_ t17_ m2_ m4_ m5_; exact (place_Fresh.runs N x.1 N).2 o_ t11_ t16_ t17_ m2_ m4_ m5_
  have h' : (place_Fresh.D N).f x = place_Fresh.e N (place_Fresh.l0 N x.1 N) (place_Fresh.l1 N x.1 N) x.1 := by kernel_rfl
  exact (congr (congrArg (fun r0 r1 => place_Fresh.e N r0 r1 x.1) e0) e1).trans (h'.symm.trans h)
/-! ### f58: gamehall/place.Begin -/
def place_Begin.as : List MK := [.d true (.prod .str (.prod (.int .i64) (.prod (.int .i64) (.prod (.slice 96 (.prod (.int .u8) (.prod (.int .i64) (.prod (.int .i64) (.slice 130 (.prod (.int .i64) (.prod (.int .i64) (.prod (.int .i64) (.int .i64))))))))) (.prod (.slice 3 (.int .i64)) (.prod .bool (.prod .bool (.prod (.slice 98 (.prod (.int .i64) (.prod (.int .i64) (.prod (.int .i64) .bool)))) (.prod (.int .i64) (.prod (.int .i64) (.int .i64)))))))))))]
def place_Begin.rs : List (Bool × HT) := [(true, (.prod (.own 3 (.int .i64)) (.prod (.prod (.own 3 (.int .i64)) (.own 3 (.int .i64))) (.d (.prod (.int .i64) (.int .i64)))))), (false, (.d (.int .i64)))]
def place_Begin.lc : List AC := []
def place_Begin.D (N : Nat) : DFn := ⟨place_Begin.as, place_Begin.rs, (((List Int) × (((List Int) × (List Int)) × (Int × Int))) × Int), fun x => place_Begin N x.1, fun r o => (r.1, r.2.1), fun b => (b.1, (b.2, ())), fun b => ()⟩
theorem place_Begin.fit (N : Nat) : (place_Begin.D N).Fit := ⟨fun _ _ => rfl, fun _ _ => rfl, by kernel_rfl⟩
noncomputable def place_Begin.G (N : Nat) : Gam := gamOf [(86, rules_Check.D N), (87, place_Fresh.D N)]
def place_Begin.A : Nat → Option LoopAnn := fun _ => none
noncomputable def place_Begin.fin (N : Nat) : St → Option (((List Int) × (((List Int) × (List Int)) × (Int × Int))) × Int) := resK tb Try.f58.results.toList (decRes (place_Begin.D N) place_Begin.lc)
theorem place_Begin.entry (N : Nat) (rec : List Item → St → Option (((List Int) × (((List Int) × (List Int)) × (Int × Int))) × Int)) (x : (argH place_Begin.as).den) : seg tb (place_Begin.G N) place_Begin.A 0 rec (place_Begin.fin N) segFuel [.code (bodyOf Try.f58)] (initSt Try.f58 (encArgs place_Begin.as x) (encMem place_Begin.as x)) = place_Begin.e N x.1 := by kernel_rfl
theorem place_Begin.ok (N : Nat) : FnOk Try.prog 58 (place_Begin.D N) := by
  refine FnOk_of tb_ok (Checked.mixed Try.checked) ⟨Try.f58, Try.func58, by kernel_rfl, by kernel_rfl, fun x y h => ⟨place_Begin.G N, place_Begin.A, N, gamOf_ok (by simp only [List.forall_mem_cons, List.not_mem_nil, false_implies, implies_true, and_true]; exact ⟨⟨rules_Check.ok N, rules_Check.fit N⟩, ⟨place_Fresh.ok N, place_Fresh.fit N⟩⟩), ?_⟩⟩ (place_Begin.fit N)
  rw [absFn_n (n0 := 0) rfl (by kernel_rfl)]
  exact (place_Begin.entry N _ x).trans h
/-! ### f19: gamehall/moves.All -/
def moves_All.as : List MK := [.d true (.prod .str (.prod (.int .i64) (.prod (.int .i64) (.prod (.slice 96 (.prod (.int .u8) (.prod (.int .i64) (.prod (.int .i64) (.slice 130 (.prod (.int .i64) (.prod (.int .i64) (.prod (.int .i64) (.int .i64))))))))) (.prod (.slice 3 (.int .i64)) (.prod .bool (.prod .bool (.prod (.slice 98 (.prod (.int .i64) (.prod (.int .i64) (.prod (.int .i64) .bool)))) (.prod (.int .i64) (.prod (.int .i64) (.int .i64))))))))))), .d true (.prod (.slice 3 (.int .i64)) (.prod (.prod (.slice 3 (.int .i64)) (.slice 3 (.int .i64))) (.prod (.int .i64) (.int .i64))))]
def moves_All.rs : List (Bool × HT) := [(false, (.own 43 (.prod (.int .i64) (.prod (.int .i64) (.int .i64))))), (false, (.d (.int .i64)))]
def moves_All.lc : List AC := []
def moves_All.D (N : Nat) : DFn := ⟨moves_All.as, moves_All.rs, ((List (Int × (Int × Int))) × Int), fun x => moves_All N x.1 x.2.1, fun r o => (r.1, r.2.1), fun b => (b.1, (b.2, ())), fun b => ()⟩
theorem moves_All.fit (N : Nat) : (moves_All.D N).Fit := ⟨fun _ _ => rfl, fun _ _ => rfl, by kernel_rfl⟩
noncomputable def moves_All.G (N : Nat) : Gam := gamOf [(61, place_Check.D N), (62, moves_Gen.D N)]
def moves_All.A : Nat → Option LoopAnn := fun _ => none
noncomputable def moves_All.fin (N : Nat) : St → Option ((List (Int × (Int × Int))) × Int) := resK tb Try.f19.results.toList (decRes (moves_All.D N) moves_All.lc)
theorem moves_All.entry (N : Nat) (rec : List Item → St → Option ((List (Int × (Int × Int))) × Int)) (x : (argH moves_All.as).den) : seg tb (moves_All.G N) moves_All.A 0 rec (moves_All.fin N) segFuel [.code (bodyOf Try.f19)] (initSt Try.f19 (encArgs moves_All.as x) (encMem moves_All.as x)) = moves_All.e N x.1 x.2.1 := by kernel_rfl
theorem moves_All.ok (N : Nat) : FnOk Try.prog 19 (moves_All.D N) := by
  refine FnOk_of tb_ok (Checked.mixed Try.checked) ⟨Try.f19, Try.func19, by kernel_rfl, by kernel_rfl, fun x y h => ⟨moves_All.G N, moves_All.A, N, gamOf_ok (by simp only [List.forall_mem_cons, List.not_mem_nil, false_implies, implies_true, and_true]; exact ⟨⟨place_Check.ok N, place_Check.fit N⟩, ⟨moves_Gen.ok N, moves_Gen.fit N⟩⟩), ?_⟩⟩ (moves_All.fit N)
  rw [absFn_n (n0 := 0) rfl (by kernel_rfl)]
  exact (moves_All.entry N _ x).trans h
/-! ### f59: gamehall/moves.Legal -/
def moves_Legal.as : List MK := [.d true (.prod .str (.prod (.int .i64) (.prod (.int .i64) (.prod (.slice 96 (.prod (.int .u8) (.prod (.int .i64) (.prod (.int .i64) (.slice 130 (.prod (.int .i64) (.prod (.int .i64) (.prod (.int .i64) (.int .i64))))))))) (.prod (.slice 3 (.int .i64)) (.prod .bool (.prod .bool (.prod (.slice 98 (.prod (.int .i64) (.prod (.int .i64) (.prod (.int .i64) .bool)))) (.prod (.int .i64) (.prod (.int .i64) (.int .i64))))))))))), .d true (.prod (.slice 3 (.int .i64)) (.prod (.prod (.slice 3 (.int .i64)) (.slice 3 (.int .i64))) (.prod (.int .i64) (.int .i64)))), .d true (.prod (.int .i64) (.prod (.int .i64) (.int .i64)))]
def moves_Legal.rs : List (Bool × HT) := [(false, (.d .bool)), (false, (.d (.int .i64)))]
def moves_Legal.lc : List AC := []
def moves_Legal.D (N : Nat) : DFn := ⟨moves_Legal.as, moves_Legal.rs, (Bool × Int), fun x => moves_Legal N x.1 x.2.1 x.2.2.1, fun r o => (r.1, r.2.1), fun b => (b.1, (b.2, ())), fun b => ()⟩
theorem moves_Legal.fit (N : Nat) : (moves_Legal.D N).Fit := ⟨fun _ _ => rfl, fun _ _ => rfl, by kernel_rfl⟩
noncomputable def moves_Legal.G (N : Nat) : Gam := gamOf [(61, place_Check.D N), (62, moves_Gen.D N), (82, slices_Contains_api_Move_api_Move.D N)]
def moves_Legal.A : Nat → Option LoopAnn := fun _ => none
noncomputable def moves_Legal.fin (N : Nat) : St → Option (Bool × Int) := resK tb Try.f59.results.toList (decRes (moves_Legal.D N) moves_Legal.lc)
theorem moves_Legal.entry (N : Nat) (rec : List Item → St → Option (Bool × Int)) (x : (argH moves_Legal.as).den) : seg tb (moves_Legal.G N) moves_Legal.A 0 rec (moves_Legal.fin N) segFuel [.code (bodyOf Try.f59)] (initSt Try.f59 (encArgs moves_Legal.as x) (encMem moves_Legal.as x)) = moves_Legal.e N x.1 x.2.1 x.2.2.1 := by kernel_rfl
theorem moves_Legal.ok (N : Nat) : FnOk Try.prog 59 (moves_Legal.D N) := by
  refine FnOk_of tb_ok (Checked.mixed Try.checked) ⟨Try.f59, Try.func59, by kernel_rfl, by kernel_rfl, fun x y h => ⟨moves_Legal.G N, moves_Legal.A, N, gamOf_ok (by simp only [List.forall_mem_cons, List.not_mem_nil, false_implies, implies_true, and_true]; exact ⟨⟨place_Check.ok N, place_Check.fit N⟩, ⟨moves_Gen.ok N, moves_Gen.fit N⟩, ⟨slices_Contains_api_Move_api_Move.ok N, slices_Contains_api_Move_api_Move.fit N⟩⟩), ?_⟩⟩ (moves_Legal.fit N)
  rw [absFn_n (n0 := 0) rfl (by kernel_rfl)]
  exact (moves_Legal.entry N _ x).trans h
/-! ### f73: gamehall/moves.Do -/
def moves_Do.as : List MK := [.d true (.prod .str (.prod (.int .i64) (.prod (.int .i64) (.prod (.slice 96 (.prod (.int .u8) (.prod (.int .i64) (.prod (.int .i64) (.slice 130 (.prod (.int .i64) (.prod (.int .i64) (.prod (.int .i64) (.int .i64))))))))) (.prod (.slice 3 (.int .i64)) (.prod .bool (.prod .bool (.prod (.slice 98 (.prod (.int .i64) (.prod (.int .i64) (.prod (.int .i64) .bool)))) (.prod (.int .i64) (.prod (.int .i64) (.int .i64))))))))))), .d true (.prod (.slice 3 (.int .i64)) (.prod (.prod (.slice 3 (.int .i64)) (.slice 3 (.int .i64))) (.prod (.int .i64) (.int .i64)))), .d true (.prod (.int .i64) (.prod (.int .i64) (.int .i64)))]
def moves_Do.rs : List (Bool × HT) := [(true, (.prod (.own 3 (.int .i64)) (.prod (.prod (.own 3 (.int .i64)) (.own 3 (.int .i64))) (.d (.prod (.int .i64) (.int .i64))))))]
def moves_Do.lc : List AC := []
def moves_Do.D (N : Nat) : DFn := ⟨moves_Do.as, moves_Do.rs, ((List Int) × (((List Int) × (List Int)) × (Int × Int))), fun x => moves_Do N x.1 x.2.1 x.2.2.1, fun r o => r.1, fun b => (b, ()), fun b => ()⟩
theorem moves_Do.fit (N : Nat) : (moves_Do.D N).Fit := ⟨fun _ _ => rfl, fun _ _ => rfl, by kernel_rfl⟩
noncomputable def moves_Do.G (N : Nat) : Gam := gamOf [(63, place_Copy.D N), (81, moves_Kind.D N), (98, moves_Cell.D N)]
def moves_Do.A : Nat → Option LoopAnn := fun _ => none
noncomputable def moves_Do.fin (N : Nat) : St → Option ((List Int) × (((List Int) × (List Int)) × (Int × Int))) := resK tb Try.f73.results.toList (decRes (moves_Do.D N) moves_Do.lc)
theorem moves_Do.entry (N : Nat) (rec : List Item → St → Option ((List Int) × (((List Int) × (List Int)) × (Int × Int)))) (x : (argH moves_Do.as).den) : seg tb (moves_Do.G N) moves_Do.A 0 rec (moves_Do.fin N) segFuel [.code (bodyOf Try.f73)] (initSt Try.f73 (encArgs moves_Do.as x) (encMem moves_Do.as x)) = moves_Do.e N x.1 x.2.1 x.2.2.1 := by kernel_rfl
theorem moves_Do.ok (N : Nat) : FnOk Try.prog 73 (moves_Do.D N) := by
  refine FnOk_of tb_ok (Checked.mixed Try.checked) ⟨Try.f73, Try.func73, by kernel_rfl, by kernel_rfl, fun x y h => ⟨moves_Do.G N, moves_Do.A, N, gamOf_ok (by simp only [List.forall_mem_cons, List.not_mem_nil, false_implies, implies_true, and_true]; exact ⟨⟨place_Copy.ok N, place_Copy.fit N⟩, ⟨moves_Kind.ok N, moves_Kind.fit N⟩, ⟨moves_Cell.ok N, moves_Cell.fit N⟩⟩), ?_⟩⟩ (moves_Do.fit N)
  rw [absFn_n (n0 := 0) rfl (by kernel_rfl)]
  exact (moves_Do.entry N _ x).trans h
/-! ### f39: gamehall/moves.After -/
def moves_After.as : List MK := [.d true (.prod .str (.prod (.int .i64) (.prod (.int .i64) (.prod (.slice 96 (.prod (.int .u8) (.prod (.int .i64) (.prod (.int .i64) (.slice 130 (.prod (.int .i64) (.prod (.int .i64) (.prod (.int .i64) (.int .i64))))))))) (.prod (.slice 3 (.int .i64)) (.prod .bool (.prod .bool (.prod (.slice 98 (.prod (.int .i64) (.prod (.int .i64) (.prod (.int .i64) .bool)))) (.prod (.int .i64) (.prod (.int .i64) (.int .i64))))))))))), .d true (.prod (.slice 3 (.int .i64)) (.prod (.prod (.slice 3 (.int .i64)) (.slice 3 (.int .i64))) (.prod (.int .i64) (.int .i64)))), .d true (.prod (.int .i64) (.prod (.int .i64) (.int .i64)))]
def moves_After.rs : List (Bool × HT) := [(true, (.prod (.own 3 (.int .i64)) (.prod (.prod (.own 3 (.int .i64)) (.own 3 (.int .i64))) (.d (.prod (.int .i64) (.int .i64)))))), (false, (.d (.int .i64)))]
def moves_After.lc : List AC := []
def moves_After.D (N : Nat) : DFn := ⟨moves_After.as, moves_After.rs, (((List Int) × (((List Int) × (List Int)) × (Int × Int))) × Int), fun x => moves_After N x.1 x.2.1 x.2.2.1, fun r o => (r.1, r.2.1), fun b => (b.1, (b.2, ())), fun b => ()⟩
theorem moves_After.fit (N : Nat) : (moves_After.D N).Fit := ⟨fun _ _ => rfl, fun _ _ => rfl, by kernel_rfl⟩
noncomputable def moves_After.G (N : Nat) : Gam := gamOf [(59, moves_Legal.D N), (73, moves_Do.D N)]
def moves_After.A : Nat → Option LoopAnn := fun _ => none
noncomputable def moves_After.fin (N : Nat) : St → Option (((List Int) × (((List Int) × (List Int)) × (Int × Int))) × Int) := resK tb Try.f39.results.toList (decRes (moves_After.D N) moves_After.lc)
theorem moves_After.entry (N : Nat) (rec : List Item → St → Option (((List Int) × (((List Int) × (List Int)) × (Int × Int))) × Int)) (x : (argH moves_After.as).den) : seg tb (moves_After.G N) moves_After.A 0 rec (moves_After.fin N) segFuel [.code (bodyOf Try.f39)] (initSt Try.f39 (encArgs moves_After.as x) (encMem moves_After.as x)) = moves_After.e N x.1 x.2.1 x.2.2.1 := by kernel_rfl
theorem moves_After.ok (N : Nat) : FnOk Try.prog 39 (moves_After.D N) := by
  refine FnOk_of tb_ok (Checked.mixed Try.checked) ⟨Try.f39, Try.func39, by kernel_rfl, by kernel_rfl, fun x y h => ⟨moves_After.G N, moves_After.A, N, gamOf_ok (by simp only [List.forall_mem_cons, List.not_mem_nil, false_implies, implies_true, and_true]; exact ⟨⟨moves_Legal.ok N, moves_Legal.fit N⟩, ⟨moves_Do.ok N, moves_Do.fit N⟩⟩), ?_⟩⟩ (moves_After.fit N)
  rw [absFn_n (n0 := 0) rfl (by kernel_rfl)]
  exact (moves_After.entry N _ x).trans h
/-! ### f16: gamehall/gamehallkeep1.plays -/
def gamehallkeep1_plays.as : List MK := []
def gamehallkeep1_plays.rs : List (Bool × HT) := [(false, (.d .bool))]
def gamehallkeep1_plays.lc : List AC := []
def gamehallkeep1_plays.D (N : Nat) : DFn := ⟨gamehallkeep1_plays.as, gamehallkeep1_plays.rs, Bool, fun x => gamehallkeep1_plays N, fun r o => r.1, fun b => (b, ()), fun b => ()⟩
theorem gamehallkeep1_plays.fit (N : Nat) : (gamehallkeep1_plays.D N).Fit := ⟨fun _ _ => rfl, fun _ _ => rfl, by kernel_rfl⟩
noncomputable def gamehallkeep1_plays.G (N : Nat) : Gam := gamOf [(29, gamehallkeep1_three.D N), (58, place_Begin.D N), (19, moves_All.D N), (32, gamehallkeep1_put.D N), (39, moves_After.D N), (59, moves_Legal.D N), (37, gamehallkeep1_fine.D N)]
def gamehallkeep1_plays.A : Nat → Option LoopAnn := fun _ => none
noncomputable def gamehallkeep1_plays.fin (N : Nat) : St → Option Bool := resK tb Try.f16.results.toList (decRes (gamehallkeep1_plays.D N) gamehallkeep1_plays.lc)
theorem gamehallkeep1_plays.entry (N : Nat) (rec : List Item → St → Option Bool) (x : (argH gamehallkeep1_plays.as).den) : seg tb (gamehallkeep1_plays.G N) gamehallkeep1_plays.A 0 rec (gamehallkeep1_plays.fin N) segFuel [.code (bodyOf Try.f16)] (initSt Try.f16 (encArgs gamehallkeep1_plays.as x) (encMem gamehallkeep1_plays.as x)) = gamehallkeep1_plays.e N := by kernel_rfl
theorem gamehallkeep1_plays.ok (N : Nat) : FnOk Try.prog 16 (gamehallkeep1_plays.D N) := by
  refine FnOk_of tb_ok (Checked.mixed Try.checked) ⟨Try.f16, Try.func16, by kernel_rfl, by kernel_rfl, fun x y h => ⟨gamehallkeep1_plays.G N, gamehallkeep1_plays.A, N, gamOf_ok (by simp only [List.forall_mem_cons, List.not_mem_nil, false_implies, implies_true, and_true]; exact ⟨⟨gamehallkeep1_three.ok N, gamehallkeep1_three.fit N⟩, ⟨place_Begin.ok N, place_Begin.fit N⟩, ⟨moves_All.ok N, moves_All.fit N⟩, ⟨gamehallkeep1_put.ok N, gamehallkeep1_put.fit N⟩, ⟨moves_After.ok N, moves_After.fit N⟩, ⟨moves_Legal.ok N, moves_Legal.fit N⟩, ⟨gamehallkeep1_fine.ok N, gamehallkeep1_fine.fit N⟩⟩), ?_⟩⟩ (gamehallkeep1_plays.fit N)
  rw [absFn_n (n0 := 0) rfl (by kernel_rfl)]
  exact (gamehallkeep1_plays.entry N _ x).trans h
/-! ### f28: gamehall/ends.Of -/
def ends_Of.as : List MK := [.d true (.prod .str (.prod (.int .i64) (.prod (.int .i64) (.prod (.slice 96 (.prod (.int .u8) (.prod (.int .i64) (.prod (.int .i64) (.slice 130 (.prod (.int .i64) (.prod (.int .i64) (.prod (.int .i64) (.int .i64))))))))) (.prod (.slice 3 (.int .i64)) (.prod .bool (.prod .bool (.prod (.slice 98 (.prod (.int .i64) (.prod (.int .i64) (.prod (.int .i64) .bool)))) (.prod (.int .i64) (.prod (.int .i64) (.int .i64))))))))))), .d true (.prod (.slice 3 (.int .i64)) (.prod (.prod (.slice 3 (.int .i64)) (.slice 3 (.int .i64))) (.prod (.int .i64) (.int .i64))))]
def ends_Of.rs : List (Bool × HT) := [(false, (.d (.int .i64))), (false, (.d (.int .i64)))]
def ends_Of.lc : List AC := []
def ends_Of.D (N : Nat) : DFn := ⟨ends_Of.as, ends_Of.rs, (Int × Int), fun x => ends_Of N x.1 x.2.1, fun r o => (r.1, r.2.1), fun b => (b.1, (b.2, ())), fun b => ()⟩
theorem ends_Of.fit (N : Nat) : (ends_Of.D N).Fit := ⟨fun _ _ => rfl, fun _ _ => rfl, by kernel_rfl⟩
noncomputable def ends_Of.G (N : Nat) : Gam := gamOf [(61, place_Check.D N), (65, ends_Result.D N)]
def ends_Of.A : Nat → Option LoopAnn := fun _ => none
noncomputable def ends_Of.fin (N : Nat) : St → Option (Int × Int) := resK tb Try.f28.results.toList (decRes (ends_Of.D N) ends_Of.lc)
theorem ends_Of.entry (N : Nat) (rec : List Item → St → Option (Int × Int)) (x : (argH ends_Of.as).den) : seg tb (ends_Of.G N) ends_Of.A 0 rec (ends_Of.fin N) segFuel [.code (bodyOf Try.f28)] (initSt Try.f28 (encArgs ends_Of.as x) (encMem ends_Of.as x)) = ends_Of.e N x.1 x.2.1 := by kernel_rfl
theorem ends_Of.ok (N : Nat) : FnOk Try.prog 28 (ends_Of.D N) := by
  refine FnOk_of tb_ok (Checked.mixed Try.checked) ⟨Try.f28, Try.func28, by kernel_rfl, by kernel_rfl, fun x y h => ⟨ends_Of.G N, ends_Of.A, N, gamOf_ok (by simp only [List.forall_mem_cons, List.not_mem_nil, false_implies, implies_true, and_true]; exact ⟨⟨place_Check.ok N, place_Check.fit N⟩, ⟨ends_Result.ok N, ends_Result.fit N⟩⟩), ?_⟩⟩ (ends_Of.fit N)
  rw [absFn_n (n0 := 0) rfl (by kernel_rfl)]
  exact (ends_Of.entry N _ x).trans h
/-! ### f48: (*gamehall/board.Board).Key -/
def board_Board_Key.as : List MK := [.r (.prod (.prod .str (.prod (.int .i64) (.prod (.int .i64) (.prod (.slice 96 (.prod (.int .u8) (.prod (.int .i64) (.prod (.int .i64) (.slice 130 (.prod (.int .i64) (.prod (.int .i64) (.prod (.int .i64) (.int .i64))))))))) (.prod (.slice 3 (.int .i64)) (.prod .bool (.prod .bool (.prod (.slice 98 (.prod (.int .i64) (.prod (.int .i64) (.prod (.int .i64) .bool)))) (.prod (.int .i64) (.prod (.int .i64) (.int .i64))))))))))) (.prod (.prod (.slice 3 (.int .i64)) (.prod (.prod (.slice 3 (.int .i64)) (.slice 3 (.int .i64))) (.prod (.int .i64) (.int .i64)))) (.prod (.int .u64) (.slice 117 (.prod (.prod (.int .i64) (.prod (.int .i64) (.int .i64))) (.prod (.int .i64) (.prod (.int .i64) (.prod .bool (.prod (.int .i64) (.int .u64))))))))))]
def board_Board_Key.rs : List (Bool × HT) := [(false, (.d (.int .u64)))]
def board_Board_Key.lc : List AC := []
def board_Board_Key.D (N : Nat) : DFn := ⟨board_Board_Key.as, board_Board_Key.rs, Int, fun x => board_Board_Key N x.1, fun r o => r.1, fun b => (b, ()), fun b => ()⟩
theorem board_Board_Key.fit (N : Nat) : (board_Board_Key.D N).Fit := ⟨fun _ _ => rfl, fun _ _ => rfl, by kernel_rfl⟩
noncomputable def board_Board_Key.G (N : Nat) : Gam := gamOf []
def board_Board_Key.A : Nat → Option LoopAnn := fun _ => none
noncomputable def board_Board_Key.fin (N : Nat) : St → Option Int := resK tb Try.f48.results.toList (decRes (board_Board_Key.D N) board_Board_Key.lc)
theorem board_Board_Key.entry (N : Nat) (rec : List Item → St → Option Int) (x : (argH board_Board_Key.as).den) : seg tb (board_Board_Key.G N) board_Board_Key.A 0 rec (board_Board_Key.fin N) segFuel [.code (bodyOf Try.f48)] (initSt Try.f48 (encArgs board_Board_Key.as x) (encMem board_Board_Key.as x)) = board_Board_Key.e N x.1 := by kernel_rfl
theorem board_Board_Key.ok (N : Nat) : FnOk Try.prog 48 (board_Board_Key.D N) := by
  refine FnOk_of tb_ok (Checked.mixed Try.checked) ⟨Try.f48, Try.func48, by kernel_rfl, by kernel_rfl, fun x y h => ⟨board_Board_Key.G N, board_Board_Key.A, N, gamOf_ok (fun p hp => nomatch hp), ?_⟩⟩ (board_Board_Key.fit N)
  rw [absFn_n (n0 := 0) rfl (by kernel_rfl)]
  exact (board_Board_Key.entry N _ x).trans h
/-! ### f50: slices.Equal[[]gamehall/api.Move,gamehall/api.Move] -/
def slices_Equal_api_Move_api_Move.as : List MK := [.d false (.slice 43 (.prod (.int .i64) (.prod (.int .i64) (.int .i64)))), .d false (.slice 43 (.prod (.int .i64) (.prod (.int .i64) (.int .i64))))]
def slices_Equal_api_Move_api_Move.rs : List (Bool × HT) := [(false, (.d .bool))]
def slices_Equal_api_Move_api_Move.lc : List AC := []
def slices_Equal_api_Move_api_Move.D (N : Nat) : DFn := ⟨slices_Equal_api_Move_api_Move.as, slices_Equal_api_Move_api_Move.rs, Bool, fun x => slices_Equal_api_Move_api_Move N x.1 x.2.1, fun r o => r.1, fun b => (b, ()), fun b => ()⟩
theorem slices_Equal_api_Move_api_Move.fit (N : Nat) : (slices_Equal_api_Move_api_Move.D N).Fit := ⟨fun _ _ => rfl, fun _ _ => rfl, by kernel_rfl⟩
noncomputable def slices_Equal_api_Move_api_Move.G (N : Nat) : Gam := gamOf []
def slices_Equal_api_Move_api_Move.A : Nat → Option LoopAnn := fun k => bif Nat.beq k 0 then some ⟨[0, 1, 12, 13], [], [], [], [], 0, false⟩ else none
noncomputable def slices_Equal_api_Move_api_Move.fin (N : Nat) : St → Option Bool := resK tb Try.f50.results.toList (decRes (slices_Equal_api_Move_api_Move.D N) slices_Equal_api_Move_api_Move.lc)
noncomputable def slices_Equal_api_Move_api_Move.k0 : List Item := stackAt [.r, .r, .l, .r, .b] (bodyOf Try.f50) []
def slices_Equal_api_Move_api_Move.st0 (s1_ : (List (Int × (Int × Int)))) (s2_ : (List (Int × (Int × Int)))) (t13_ : Int) : St := ⟨[.one (.fro 43 (.prod (.int .i64) (.prod (.int .i64) (.int .i64))) s1_), .one (.fro 43 (.prod (.int .i64) (.prod (.int .i64) (.int .i64))) s2_)] ++ List.replicate 10 (.one .any) ++ [.one (.int .i64 (s1_.length : Int)), .one (.int .i64 t13_)] ++ List.replicate 12 (.one .any), []⟩
theorem slices_Equal_api_Move_api_Move.step0 (N : Nat) (rec : List Item → St → Option Bool) (s1_ : (List (Int × (Int × Int)))) (s2_ : (List (Int × (Int × Int)))) (t13_ : Int) : seg tb (slices_Equal_api_Move_api_Move.G N) slices_Equal_api_Move_api_Move.A 0 rec (slices_Equal_api_Move_api_Move.fin N) segFuel (loopBody slices_Equal_api_Move_api_Move.k0) (slices_Equal_api_Move_api_Move.st0 s1_ s2_ t13_) = slices_Equal_api_Move_api_Move.s0 N s1_ s2_ (fun t13_ => rec slices_Equal_api_Move_api_Move.k0 (slices_Equal_api_Move_api_Move.st0 s1_ s2_ t13_)) t13_ := by kernel_rfl
theorem slices_Equal_api_Move_api_Move.entry (N : Nat) (rec : List Item → St → Option Bool) (x : (argH slices_Equal_api_Move_api_Move.as).den) : seg tb (slices_Equal_api_Move_api_Move.G N) slices_Equal_api_Move_api_Move.A 0 rec (slices_Equal_api_Move_api_Move.fin N) segFuel [.code (bodyOf Try.f50)] (initSt Try.f50 (encArgs slices_Equal_api_Move_api_Move.as x) (encMem slices_Equal_api_Move_api_Move.as x)) = slices_Equal_api_Move_api_Move.e N (fun t13_ => rec slices_Equal_api_Move_api_Move.k0 (slices_Equal_api_Move_api_Move.st0 x.1 x.2.1 t13_)) x.1 x.2.1 := by kernel_rfl
theorem slices_Equal_api_Move_api_Move.runs (N : Nat) (s1_ : (List (Int × (Int × Int)))) (s2_ : (List (Int × (Int × Int)))) : ∀ n, (∀ (t13_ : Int), run tb (slices_Equal_api_Move_api_Move.G N) slices_Equal_api_Move_api_Move.A 0 (slices_Equal_api_Move_api_Move.fin N) n slices_Equal_api_Move_api_Move.k0 (slices_Equal_api_Move_api_Move.st0 s1_ s2_ t13_) = slices_Equal_api_Move_api_Move.l0 N s1_ s2_ n t13_)
  | 0 => fun _ => rfl
  | n + 1 => by
    have h0 := slices_Equal_api_Move_api_Move.runs N s1_ s2_ n
    have e0 : (fun (t13_ : Int) => run tb (slices_Equal_api_Move_api_Move.G N) slices_Equal_api_Move_api_Move.A 0 (slices_Equal_api_Move_api_Move.fin N) n slices_Equal_api_Move_api_Move.k0 (slices_Equal_api_Move_api_Move.st0 s1_ s2_ t13_)) = slices_Equal_api_Move_api_Move.l0 N s1_ s2_ n := by funext t13_; exact h0 t13_
    have g0 : (∀ (t13_ : Int), run tb (slices_Equal_api_Move_api_Move.G N) slices_Equal_api_Move_api_Move.A 0 (slices_Equal_api_Move_api_Move.fin N) (n + 1) slices_Equal_api_Move_api_Move.k0 (slices_Equal_api_Move_api_Move.st0 s1_ s2_ t13_) = slices_Equal_api_Move_api_Move.l0 N s1_ s2_ (n + 1) t13_) := by
      intro t13_
      exact (run_succ (by kernel_rfl)).trans ((slices_Equal_api_Move_api_Move.step0 N _ s1_ s2_ t13_).trans ((congrArg (fun r0 => slices_Equal_api_Move_api_Move.s0 N s1_ s2_ r0 t13_) e0).trans (slices_Equal_api_Move_api_Move.l0_s N s1_ s2_ n t13_).symm))
    exact g0
theorem slices_Equal_api_Move_api_Move.ok (N : Nat) : FnOk Try.prog 50 (slices_Equal_api_Move_api_Move.D N) := by
  refine FnOk_of tb_ok (Checked.mixed Try.checked) ⟨Try.f50, Try.func50, by kernel_rfl, by kernel_rfl, fun x y h => ⟨slices_Equal_api_Move_api_Move.G N, slices_Equal_api_Move_api_Move.A, N, gamOf_ok (fun p hp => nomatch hp), ?_⟩⟩ (slices_Equal_api_Move_api_Move.fit N)
  rw [absFn_n (n0 := 0) rfl (by kernel_rfl)]
  refine (slices_Equal_api_Move_api_Move.entry N (run tb (slices_Equal_api_Move_api_Move.G N) slices_Equal_api_Move_api_Move.A 0 (slices_Equal_api_Move_api_Move.fin N) N) x).trans ?_
  have e0 : (fun (t13_ : Int) => run tb (slices_Equal_api_Move_api_Move.G N) slices_Equal_api_Move_api_Move.A 0 (slices_Equal_api_Move_api_Move.fin N) N slices_Equal_api_Move_api_Move.k0 (slices_Equal_api_Move_api_Move.st0 x.1 x.2.1 t13_)) = slices_Equal_api_Move_api_Move.l0 N x.1 x.2.1 N := by funext t13_; exact (slices_Equal_api_Move_api_Move.runs N x.1 x.2.1 N) t13_
  have h' : (slices_Equal_api_Move_api_Move.D N).f x = slices_Equal_api_Move_api_Move.e N (slices_Equal_api_Move_api_Move.l0 N x.1 x.2.1 N) x.1 x.2.1 := by kernel_rfl
  exact (congrArg (fun r0 => slices_Equal_api_Move_api_Move.e N r0 x.1 x.2.1) e0).trans (h'.symm.trans h)
/-! ### f23: gamehall/gamehallkeep1.some[gamehall/api.Move] -/
def gamehallkeep1_some_api_Move.as : List MK := [.d false (.slice 43 (.prod (.int .i64) (.prod (.int .i64) (.int .i64)))), .d false (.int .i64)]
def gamehallkeep1_some_api_Move.rs : List (Bool × HT) := [(true, (.d (.prod (.int .i64) (.prod (.int .i64) (.int .i64)))))]
def gamehallkeep1_some_api_Move.lc : List AC := []
def gamehallkeep1_some_api_Move.D (N : Nat) : DFn := ⟨gamehallkeep1_some_api_Move.as, gamehallkeep1_some_api_Move.rs, (Int × (Int × Int)), fun x => gamehallkeep1_some_api_Move N x.1 x.2.1, fun r o => r.1, fun b => (b, ()), fun b => ()⟩
theorem gamehallkeep1_some_api_Move.fit (N : Nat) : (gamehallkeep1_some_api_Move.D N).Fit := ⟨fun _ _ => rfl, fun _ _ => rfl, by kernel_rfl⟩
noncomputable def gamehallkeep1_some_api_Move.G (N : Nat) : Gam := gamOf []
def gamehallkeep1_some_api_Move.A : Nat → Option LoopAnn := fun _ => none
noncomputable def gamehallkeep1_some_api_Move.fin (N : Nat) : St → Option (Int × (Int × Int)) := resK tb Try.f23.results.toList (decRes (gamehallkeep1_some_api_Move.D N) gamehallkeep1_some_api_Move.lc)
theorem gamehallkeep1_some_api_Move.entry (N : Nat) (rec : List Item → St → Option (Int × (Int × Int))) (x : (argH gamehallkeep1_some_api_Move.as).den) : seg tb (gamehallkeep1_some_api_Move.G N) gamehallkeep1_some_api_Move.A 0 rec (gamehallkeep1_some_api_Move.fin N) segFuel [.code (bodyOf Try.f23)] (initSt Try.f23 (encArgs gamehallkeep1_some_api_Move.as x) (encMem gamehallkeep1_some_api_Move.as x)) = gamehallkeep1_some_api_Move.e N x.1 x.2.1 := by kernel_rfl
theorem gamehallkeep1_some_api_Move.ok (N : Nat) : FnOk Try.prog 23 (gamehallkeep1_some_api_Move.D N) := by
  refine FnOk_of tb_ok (Checked.mixed Try.checked) ⟨Try.f23, Try.func23, by kernel_rfl, by kernel_rfl, fun x y h => ⟨gamehallkeep1_some_api_Move.G N, gamehallkeep1_some_api_Move.A, N, gamOf_ok (fun p hp => nomatch hp), ?_⟩⟩ (gamehallkeep1_some_api_Move.fit N)
  rw [absFn_n (n0 := 0) rfl (by kernel_rfl)]
  exact (gamehallkeep1_some_api_Move.entry N _ x).trans h
/-! ### f9: gamehall/gamehallkeep1.BoardKeys -/
def gamehallkeep1_BoardKeys.as : List MK := [.d true (.prod .str (.prod (.int .i64) (.prod (.int .i64) (.prod (.slice 96 (.prod (.int .u8) (.prod (.int .i64) (.prod (.int .i64) (.slice 130 (.prod (.int .i64) (.prod (.int .i64) (.prod (.int .i64) (.int .i64))))))))) (.prod (.slice 3 (.int .i64)) (.prod .bool (.prod .bool (.prod (.slice 98 (.prod (.int .i64) (.prod (.int .i64) (.prod (.int .i64) .bool)))) (.prod (.int .i64) (.prod (.int .i64) (.int .i64))))))))))), .d true (.prod (.slice 3 (.int .i64)) (.prod (.prod (.slice 3 (.int .i64)) (.slice 3 (.int .i64))) (.prod (.int .i64) (.int .i64)))), .d false (.slice 3 (.int .i64))]
def gamehallkeep1_BoardKeys.rs : List (Bool × HT) := [(false, (.d .bool))]
def gamehallkeep1_BoardKeys.lc : List AC := []
def gamehallkeep1_BoardKeys.D (N : Nat) : DFn := ⟨gamehallkeep1_BoardKeys.as, gamehallkeep1_BoardKeys.rs, Bool, fun x => gamehallkeep1_BoardKeys N x.1 x.2.1 x.2.2.1, fun r o => r.1, fun b => (b, ()), fun b => ()⟩
theorem gamehallkeep1_BoardKeys.fit (N : Nat) : (gamehallkeep1_BoardKeys.D N).Fit := ⟨fun _ _ => rfl, fun _ _ => rfl, by kernel_rfl⟩
noncomputable def gamehallkeep1_BoardKeys.G (N : Nat) : Gam := gamOf [(42, gamehallkeep1_boarded.D N), (43, gamehallkeep1_keyed.D N), (16, gamehallkeep1_plays.D N), (44, board_New.D N), (45, board_Board_Moves.D N), (47, board_Board_Position.D N), (46, zob_Key.D N), (19, moves_All.D N), (28, ends_Of.D N), (37, gamehallkeep1_fine.D N), (48, board_Board_Key.D N), (49, board_Board_Result.D N), (50, slices_Equal_api_Move_api_Move.D N), (51, board_Board_Undo'.D N), (23, gamehallkeep1_some_api_Move.D N), (52, board_Board_Do'.D N)]
def gamehallkeep1_BoardKeys.A : Nat → Option LoopAnn := fun k => bif Nat.beq k 0 then some ⟨[3, 7, 46, 47, 48], [], [], [(true, 2, 3, 3), (true, 2, 4, 4), (true, 2, 7, 5), (true, 2, 11, 6), (true, 2, 12, 7), (true, 2, 13, 8), (true, 2, 17, 9)], [1], 10, false⟩ else none
noncomputable def gamehallkeep1_BoardKeys.fin (N : Nat) : St → Option Bool := resK tb Try.f9.results.toList (decRes (gamehallkeep1_BoardKeys.D N) gamehallkeep1_BoardKeys.lc)
noncomputable def gamehallkeep1_BoardKeys.k0 : List Item := stackAt [.r, .r, .r, .r, .l, .r, .b] (bodyOf Try.f9) []
def gamehallkeep1_BoardKeys.st0 (r_ : (ByteArray × (Int × (Int × ((List (Int × (Int × (Int × (List (Int × (Int × (Int × Int)))))))) × ((List Int) × (Bool × (Bool × ((List (Int × (Int × (Int × Bool)))) × (Int × (Int × Int))))))))))) (p_ : ((List Int) × (((List Int) × (List Int)) × (Int × Int)))) (picks : (List Int)) (t46_ : (List Int)) (t47_ : Int) (t48_ : Int) (b_ : ByteArray) (b_2 : Int) (b_3 : Int) (b_4 : Bool) (b_5 : Bool) (b_6 : Int) (b_7 : Int) (b_8 : Int) (b_9 : Int) (b_10 : Int) (b_11 : Int) (m3_ : (List (Int × (Int × (Int × (List (Int × (Int × (Int × Int))))))))) (m4_ : (List Int)) (m5_ : (List (Int × (Int × (Int × Bool))))) (m6_ : (List Int)) (m7_ : (List Int)) (m8_ : (List Int)) (m9_ : (List ((Int × (Int × Int)) × (Int × (Int × (Bool × (Int × Int))))))) : St := ⟨List.replicate 3 (.one .any) ++ [.one (.ptr 0 0)] ++ List.replicate 3 (.one .any) ++ [.one (.ptr 2 0)] ++ List.replicate 38 (.one .any) ++ [.one (.fro 3 (.int .i64) t46_), .one (.int .i64 t47_), .one (.int .i64 t48_)] ++ List.replicate 77 (.one .any), [.var 26 [.str r_.1, .int .i64 r_.2.1, .int .i64 r_.2.2.1, .fro 96 (.prod (.int .u8) (.prod (.int .i64) (.prod (.int .i64) (.slice 130 (.prod (.int .i64) (.prod (.int .i64) (.prod (.int .i64) (.int .i64)))))))) r_.2.2.2.1, .fro 3 (.int .i64) r_.2.2.2.2.1, .bool r_.2.2.2.2.2.1, .bool r_.2.2.2.2.2.2.1, .fro 98 (.prod (.int .i64) (.prod (.int .i64) (.prod (.int .i64) .bool))) r_.2.2.2.2.2.2.2.1, .int .i64 r_.2.2.2.2.2.2.2.2.1, .int .i64 r_.2.2.2.2.2.2.2.2.2.1, .int .i64 r_.2.2.2.2.2.2.2.2.2.2], .gone, .var 115 [.str b_, .int .i64 b_2, .int .i64 b_3, .own 3, .own 4, .bool b_4, .bool b_5, .own 5, .int .i64 b_6, .int .i64 b_7, .int .i64 b_8, .own 6, .own 7, .own 8, .int .i64 b_9, .int .i64 b_10, .int .u64 b_11, .own 9], .row 96 (.prod (.int .u8) (.prod (.int .i64) (.prod (.int .i64) (.slice 130 (.prod (.int .i64) (.prod (.int .i64) (.prod (.int .i64) (.int .i64)))))))) m3_, .row 3 (.int .i64) m4_, .row 98 (.prod (.int .i64) (.prod (.int .i64) (.prod (.int .i64) .bool))) m5_, .row 3 (.int .i64) m6_, .row 3 (.int .i64) m7_, .row 3 (.int .i64) m8_, .row 117 (.prod (.prod (.int .i64) (.prod (.int .i64) (.int .i64))) (.prod (.int .i64) (.prod (.int .i64) (.prod .bool (.prod (.int .i64) (.int .u64)))))) m9_]⟩
theorem gamehallkeep1_BoardKeys.step0 (N : Nat) (rec : List Item → St → Option Bool) (r_ : (ByteArray × (Int × (Int × ((List (Int × (Int × (Int × (List (Int × (Int × (Int × Int)))))))) × ((List Int) × (Bool × (Bool × ((List (Int × (Int × (Int × Bool)))) × (Int × (Int × Int))))))))))) (p_ : ((List Int) × (((List Int) × (List Int)) × (Int × Int)))) (picks : (List Int)) (t46_ : (List Int)) (t47_ : Int) (t48_ : Int) (b_ : ByteArray) (b_2 : Int) (b_3 : Int) (b_4 : Bool) (b_5 : Bool) (b_6 : Int) (b_7 : Int) (b_8 : Int) (b_9 : Int) (b_10 : Int) (b_11 : Int) (m3_ : (List (Int × (Int × (Int × (List (Int × (Int × (Int × Int))))))))) (m4_ : (List Int)) (m5_ : (List (Int × (Int × (Int × Bool))))) (m6_ : (List Int)) (m7_ : (List Int)) (m8_ : (List Int)) (m9_ : (List ((Int × (Int × Int)) × (Int × (Int × (Bool × (Int × Int))))))) : seg tb (gamehallkeep1_BoardKeys.G N) gamehallkeep1_BoardKeys.A 0 rec (gamehallkeep1_BoardKeys.fin N) segFuel (loopBody gamehallkeep1_BoardKeys.k0) (gamehallkeep1_BoardKeys.st0 r_ p_ picks t46_ t47_ t48_ b_ b_2 b_3 b_4 b_5 b_6 b_7 b_8 b_9 b_10 b_11 m3_ m4_ m5_ m6_ m7_ m8_ m9_) = gamehallkeep1_BoardKeys.s0 N r_ p_ picks (fun t46_ t47_ t48_ b_ b_2 b_3 b_4 b_5 b_6 b_7 b_8 b_9 b_10 b_11 m3_ m4_ m5_ m6_ m7_ m8_ m9_ => rec gamehallkeep1_BoardKeys.k0 (gamehallkeep1_BoardKeys.st0 r_ p_ picks t46_ t47_ t48_ b_ b_2 b_3 b_4 b_5 b_6 b_7 b_8 b_9 b_10 b_11 m3_ m4_ m5_ m6_ m7_ m8_ m9_)) t46_ t47_ t48_ b_ b_2 b_3 b_4 b_5 b_6 b_7 b_8 b_9 b_10 b_11 m3_ m4_ m5_ m6_ m7_ m8_ m9_ := by kernel_rfl
theorem gamehallkeep1_BoardKeys.entry (N : Nat) (rec : List Item → St → Option Bool) (x : (argH gamehallkeep1_BoardKeys.as).den) : seg tb (gamehallkeep1_BoardKeys.G N) gamehallkeep1_BoardKeys.A 0 rec (gamehallkeep1_BoardKeys.fin N) segFuel [.code (bodyOf Try.f9)] (initSt Try.f9 (encArgs gamehallkeep1_BoardKeys.as x) (encMem gamehallkeep1_BoardKeys.as x)) = gamehallkeep1_BoardKeys.e N (fun t46_ t47_ t48_ b_ b_2 b_3 b_4 b_5 b_6 b_7 b_8 b_9 b_10 b_11 m3_ m4_ m5_ m6_ m7_ m8_ m9_ => rec gamehallkeep1_BoardKeys.k0 (gamehallkeep1_BoardKeys.st0 x.1 x.2.1 x.2.2.1 t46_ t47_ t48_ b_ b_2 b_3 b_4 b_5 b_6 b_7 b_8 b_9 b_10 b_11 m3_ m4_ m5_ m6_ m7_ m8_ m9_)) x.1 x.2.1 x.2.2.1 := by kernel_rfl
theorem gamehallkeep1_BoardKeys.runs (N : Nat) (r_ : (ByteArray × (Int × (Int × ((List (Int × (Int × (Int × (List (Int × (Int × (Int × Int)))))))) × ((List Int) × (Bool × (Bool × ((List (Int × (Int × (Int × Bool)))) × (Int × (Int × Int))))))))))) (p_ : ((List Int) × (((List Int) × (List Int)) × (Int × Int)))) (picks : (List Int)) : ∀ n, (∀ (t46_ : (List Int)) (t47_ : Int) (t48_ : Int) (b_ : ByteArray) (b_2 : Int) (b_3 : Int) (b_4 : Bool) (b_5 : Bool) (b_6 : Int) (b_7 : Int) (b_8 : Int) (b_9 : Int) (b_10 : Int) (b_11 : Int) (m3_ : (List (Int × (Int × (Int × (List (Int × (Int × (Int × Int))))))))) (m4_ : (List Int)) (m5_ : (List (Int × (Int × (Int × Bool))))) (m6_ : (List Int)) (m7_ : (List Int)) (m8_ : (List Int)) (m9_ : (List ((Int × (Int × Int)) × (Int × (Int × (Bool × (Int × Int))))))), run tb (gamehallkeep1_BoardKeys.G N) gamehallkeep1_BoardKeys.A 0 (gamehallkeep1_BoardKeys.fin N) n gamehallkeep1_BoardKeys.k0 (gamehallkeep1_BoardKeys.st0 r_ p_ picks t46_ t47_ t48_ b_ b_2 b_3 b_4 b_5 b_6 b_7 b_8 b_9 b_10 b_11 m3_ m4_ m5_ m6_ m7_ m8_ m9_) = gamehallkeep1_BoardKeys.l0 N r_ p_ picks n t46_ t47_ t48_ b_ b_2 b_3 b_4 b_5 b_6 b_7 b_8 b_9 b_10 b_11 m3_ m4_ m5_ m6_ m7_ m8_ m9_)
  | 0 => fun _ _ _ _ _ _ _ _ _ _ _ _ _ _ _ _ _ _ _ _ _ => rfl
  | n + 1 => by
    have h0 := gamehallkeep1_BoardKeys.runs N r_ p_ picks n
    have e0 : (fun (t46_ : (List Int)) (t47_ : Int) (t48_ : Int) (b_ : ByteArray) (b_2 : Int) (b_3 : Int) (b_4 : Bool) (b_5 : Bool) (b_6 : Int) (b_7 : Int) (b_8 : Int) (b_9 : Int) (b_10 : Int) (b_11 : Int) (m3_ : (List (Int × (Int × (Int × (List (Int × (Int × (Int × Int))))))))) (m4_ : (List Int)) (m5_ : (List (Int × (Int × (Int × Bool))))) (m6_ : (List Int)) (m7_ : (List Int)) (m8_ : (List Int)) (m9_ : (List ((Int × (Int × Int)) × (Int × (Int × (Bool × (Int × Int))))))) => run tb (gamehallkeep1_BoardKeys.G N) gamehallkeep1_BoardKeys.A 0 (gamehallkeep1_BoardKeys.fin N) n gamehallkeep1_BoardKeys.k0 (gamehallkeep1_BoardKeys.st0 r_ p_ picks t46_ t47_ t48_ b_ b_2 b_3 b_4 b_5 b_6 b_7 b_8 b_9 b_10 b_11 m3_ m4_ m5_ m6_ m7_ m8_ m9_)) = gamehallkeep1_BoardKeys.l0 N r_ p_ picks n := by funext t46_ t47_ t48_ b_ b_2 b_3 b_4 b_5 b_6 b_7 b_8 b_9 b_10 b_11 m3_ m4_ m5_ m6_ m7_ m8_ m9_; exact h0 t46_ t47_ t48_ b_ b_2 b_3 b_4 b_5 b_6 b_7 b_8 b_9 b_10 b_11 m3_ m4_ m5_ m6_ m7_ m8_ m9_
    have g0 : (∀ (t46_ : (List Int)) (t47_ : Int) (t48_ : Int) (b_ : ByteArray) (b_2 : Int) (b_3 : Int) (b_4 : Bool) (b_5 : Bool) (b_6 : Int) (b_7 : Int) (b_8 : Int) (b_9 : Int) (b_10 : Int) (b_11 : Int) (m3_ : (List (Int × (Int × (Int × (List (Int × (Int × (Int × Int))))))))) (m4_ : (List Int)) (m5_ : (List (Int × (Int × (Int × Bool))))) (m6_ : (List Int)) (m7_ : (List Int)) (m8_ : (List Int)) (m9_ : (List ((Int × (Int × Int)) × (Int × (Int × (Bool × (Int × Int))))))), run tb (gamehallkeep1_BoardKeys.G N) gamehallkeep1_BoardKeys.A 0 (gamehallkeep1_BoardKeys.fin N) (n + 1) gamehallkeep1_BoardKeys.k0 (gamehallkeep1_BoardKeys.st0 r_ p_ picks t46_ t47_ t48_ b_ b_2 b_3 b_4 b_5 b_6 b_7 b_8 b_9 b_10 b_11 m3_ m4_ m5_ m6_ m7_ m8_ m9_) = gamehallkeep1_BoardKeys.l0 N r_ p_ picks (n + 1) t46_ t47_ t48_ b_ b_2 b_3 b_4 b_5 b_6 b_7 b_8 b_9 b_10 b_11 m3_ m4_ m5_ m6_ m7_ m8_ m9_) := by
      intro t46_ t47_ t48_ b_ b_2 b_3 b_4 b_5 b_6 b_7 b_8 b_9 b_10 b_11 m3_ m4_ m5_ m6_ m7_ m8_ m9_
      exact (run_succ (by kernel_rfl)).trans ((gamehallkeep1_BoardKeys.step0 N _ r_ p_ picks t46_ t47_ t48_ b_ b_2 b_3 b_4 b_5 b_6 b_7 b_8 b_9 b_10 b_11 m3_ m4_ m5_ m6_ m7_ m8_ m9_).trans ((congrArg (fun r0 => gamehallkeep1_BoardKeys.s0 N r_ p_ picks r0 t46_ t47_ t48_ b_ b_2 b_3 b_4 b_5 b_6 b_7 b_8 b_9 b_10 b_11 m3_ m4_ m5_ m6_ m7_ m8_ m9_) e0).trans (gamehallkeep1_BoardKeys.l0_s N r_ p_ picks n t46_ t47_ t48_ b_ b_2 b_3 b_4 b_5 b_6 b_7 b_8 b_9 b_10 b_11 m3_ m4_ m5_ m6_ m7_ m8_ m9_).symm))
    exact g0
theorem gamehallkeep1_BoardKeys.ok (N : Nat) : FnOk Try.prog 9 (gamehallkeep1_BoardKeys.D N) := by
  refine FnOk_of tb_ok (Checked.mixed Try.checked) ⟨Try.f9, Try.func9, by kernel_rfl, by kernel_rfl, fun x y h => ⟨gamehallkeep1_BoardKeys.G N, gamehallkeep1_BoardKeys.A, N, gamOf_ok (by simp only [List.forall_mem_cons, List.not_mem_nil, false_implies, implies_true, and_true]; exact ⟨⟨gamehallkeep1_boarded.ok N, gamehallkeep1_boarded.fit N⟩, ⟨gamehallkeep1_keyed.ok N, gamehallkeep1_keyed.fit N⟩, ⟨gamehallkeep1_plays.ok N, gamehallkeep1_plays.fit N⟩, ⟨board_New.ok N, board_New.fit N⟩, ⟨board_Board_Moves.ok N, board_Board_Moves.fit N⟩, ⟨board_Board_Position.ok N, board_Board_Position.fit N⟩, ⟨zob_Key.ok N, zob_Key.fit N⟩, ⟨moves_All.ok N, moves_All.fit N⟩, ⟨ends_Of.ok N, ends_Of.fit N⟩, ⟨gamehallkeep1_fine.ok N, gamehallkeep1_fine.fit N⟩, ⟨board_Board_Key.ok N, board_Board_Key.fit N⟩, ⟨board_Board_Result.ok N, board_Board_Result.fit N⟩, ⟨slices_Equal_api_Move_api_Move.ok N, slices_Equal_api_Move_api_Move.fit N⟩, ⟨board_Board_Undo'.ok N, board_Board_Undo'.fit N⟩, ⟨gamehallkeep1_some_api_Move.ok N, gamehallkeep1_some_api_Move.fit N⟩, ⟨board_Board_Do'.ok N, board_Board_Do'.fit N⟩⟩), ?_⟩⟩ (gamehallkeep1_BoardKeys.fit N)
  rw [absFn_n (n0 := 0) rfl (by kernel_rfl)]
  refine (gamehallkeep1_BoardKeys.entry N (run tb (gamehallkeep1_BoardKeys.G N) gamehallkeep1_BoardKeys.A 0 (gamehallkeep1_BoardKeys.fin N) N) x).trans ?_
  have e0 : (fun (t46_ : (List Int)) (t47_ : Int) (t48_ : Int) (b_ : ByteArray) (b_2 : Int) (b_3 : Int) (b_4 : Bool) (b_5 : Bool) (b_6 : Int) (b_7 : Int) (b_8 : Int) (b_9 : Int) (b_10 : Int) (b_11 : Int) (m3_ : (List (Int × (Int × (Int × (List (Int × (Int × (Int × Int))))))))) (m4_ : (List Int)) (m5_ : (List (Int × (Int × (Int × Bool))))) (m6_ : (List Int)) (m7_ : (List Int)) (m8_ : (List Int)) (m9_ : (List ((Int × (Int × Int)) × (Int × (Int × (Bool × (Int × Int))))))) => run tb (gamehallkeep1_BoardKeys.G N) gamehallkeep1_BoardKeys.A 0 (gamehallkeep1_BoardKeys.fin N) N gamehallkeep1_BoardKeys.k0 (gamehallkeep1_BoardKeys.st0 x.1 x.2.1 x.2.2.1 t46_ t47_ t48_ b_ b_2 b_3 b_4 b_5 b_6 b_7 b_8 b_9 b_10 b_11 m3_ m4_ m5_ m6_ m7_ m8_ m9_)) = gamehallkeep1_BoardKeys.l0 N x.1 x.2.1 x.2.2.1 N := by funext t46_ t47_ t48_ b_ b_2 b_3 b_4 b_5 b_6 b_7 b_8 b_9 b_10 b_11 m3_ m4_ m5_ m6_ m7_ m8_ m9_; exact (gamehallkeep1_BoardKeys.runs N x.1 x.2.1 x.2.2.1 N) t46_ t47_ t48_ b_ b_2 b_3 b_4 b_5 b_6 b_7 b_8 b_9 b_10 b_11 m3_ m4_ m5_ m6_ m7_ m8_ m9_
  have h' : (gamehallkeep1_BoardKeys.D N).f x = gamehallkeep1_BoardKeys.e N (gamehallkeep1_BoardKeys.l0 N x.1 x.2.1 x.2.2.1 N) x.1 x.2.1 x.2.2.1 := by kernel_rfl
  exact (congrArg (fun r0 => gamehallkeep1_BoardKeys.e N r0 x.1 x.2.1 x.2.2.1) e0).trans (h'.symm.trans h)
end Go.Proofs.Ythhojealnaiehaa.Am
