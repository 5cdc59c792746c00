/- PRINTED by gen.py: the abstract machine evaluates the loaded code to these functions. -/
import Derived.Test.YtaaljooihacpgaaFn
import Derived.Test.YtaaljooihacpgaaChecked
import Derived.Eval
set_option linter.unusedVariables false
set_option linter.unusedSimpArgs false
namespace Go.Proofs.Ytaaljooihacpgaa.Am
open Go
set_option maxRecDepth 100000
def ti3 : TI := ⟨.int .i64, 1, 8, some (.int .i64), [.int .i64 0]⟩
def ti4 : TI := ⟨.bool, 1, 1, some .bool, [.bool false]⟩
def ti5 : TI := ⟨.int .u8, 1, 1, some (.int .u8), [.int .u8 0]⟩
def ti9 : TI := ⟨.str, 1, 16, some .str, [.str (⟨#[]⟩ : ByteArray)]⟩
def ti22 : TI := ⟨.int .i64, 1, 8, some (.int .i64), [.int .i64 0]⟩
def ti42 : TI := ⟨.slice 3, 1, 24, some (.slice 3 (.int .i64)), [.nilS]⟩
def ti55 : TI := ⟨.slice 92, 1, 24, some (.slice 92 (.prod (.int .u8) (.prod (.int .i64) (.prod (.int .i64) (.slice 113 (.prod (.int .i64) (.prod (.int .i64) (.prod (.int .i64) (.int .i64))))))))), [.nilS]⟩
def ti56 : TI := ⟨.slice 94, 1, 24, some (.slice 94 (.prod (.int .i64) (.prod (.int .i64) (.prod (.int .i64) .bool)))), [.nilS]⟩
def ti58 : TI := ⟨.struct [(0, 9), (1, 3), (2, 3), (3, 55), (4, 42), (5, 4), (6, 4), (7, 56), (8, 3), (9, 3), (10, 3)], 11, 136, some (.prod .str (.prod (.int .i64) (.prod (.int .i64) (.prod (.slice 92 (.prod (.int .u8) (.prod (.int .i64) (.prod (.int .i64) (.slice 113 (.prod (.int .i64) (.prod (.int .i64) (.prod (.int .i64) (.int .i64))))))))) (.prod (.slice 3 (.int .i64)) (.prod .bool (.prod .bool (.prod (.slice 94 (.prod (.int .i64) (.prod (.int .i64) (.prod (.int .i64) .bool)))) (.prod (.int .i64) (.prod (.int .i64) (.int .i64))))))))))), [.str (⟨#[]⟩ : ByteArray), .int .i64 0, .int .i64 0, .nilS, .nilS, .bool false, .bool false, .nilS, .int .i64 0, .int .i64 0, .int .i64 0]⟩
def ti67 : TI := ⟨.slice 22, 1, 24, some (.slice 22 (.int .i64)), [.nilS]⟩
def ti69 : TI := ⟨.other, 1, 8, none, [.nilF]⟩
def ti70 : TI := ⟨.array 2 3, 2, 16, some (.prod (.int .i64) (.int .i64)), [.int .i64 0, .int .i64 0]⟩
def ti90 : TI := ⟨.slice 113, 1, 24, some (.slice 113 (.prod (.int .i64) (.prod (.int .i64) (.prod (.int .i64) (.int .i64))))), [.nilS]⟩
def ti92 : TI := ⟨.struct [(0, 5), (1, 3), (2, 3), (3, 90)], 4, 48, some (.prod (.int .u8) (.prod (.int .i64) (.prod (.int .i64) (.slice 113 (.prod (.int .i64) (.prod (.int .i64) (.prod (.int .i64) (.int .i64)))))))), [.int .u8 0, .int .i64 0, .int .i64 0, .nilS]⟩
def ti94 : TI := ⟨.struct [(0, 3), (1, 3), (2, 3), (3, 4)], 4, 32, some (.prod (.int .i64) (.prod (.int .i64) (.prod (.int .i64) .bool))), [.int .i64 0, .int .i64 0, .int .i64 0, .bool false]⟩
def ti113 : TI := ⟨.struct [(0, 3), (1, 3), (2, 3), (3, 3)], 4, 32, some (.prod (.int .i64) (.prod (.int .i64) (.prod (.int .i64) (.int .i64)))), [.int .i64 0, .int .i64 0, .int .i64 0, .int .i64 0]⟩
def tbt : TT := (.node 58 ti58 (.node 22 ti22 (.node 5 ti5 (.node 4 ti4 (.node 3 ti3 .nil .nil) .nil) (.node 9 ti9 .nil .nil)) (.node 55 ti55 (.node 42 ti42 .nil .nil) (.node 56 ti56 .nil .nil))) (.node 90 ti90 (.node 69 ti69 (.node 67 ti67 .nil .nil) (.node 70 ti70 .nil .nil)) (.node 94 ti94 (.node 92 ti92 .nil .nil) (.node 113 ti113 .nil .nil))))
def tb : Tab := tbt.get
theorem ti3_ok : TIok Try.prog tb 3 ti3 := TIok_mk (by kernel_rfl) (by kernel_rfl) ⟨rfl, rfl⟩ (by kernel_rfl) rfl
theorem ti4_ok : TIok Try.prog tb 4 ti4 := TIok_mk (by kernel_rfl) (by kernel_rfl) ⟨rfl, rfl⟩ (by kernel_rfl) rfl
theorem ti5_ok : TIok Try.prog tb 5 ti5 := TIok_mk (by kernel_rfl) (by kernel_rfl) ⟨rfl, rfl⟩ (by kernel_rfl) rfl
theorem ti9_ok : TIok Try.prog tb 9 ti9 := TIok_mk (by kernel_rfl) (by kernel_rfl) ⟨rfl, rfl⟩ (by kernel_rfl) rfl
theorem ti22_ok : TIok Try.prog tb 22 ti22 := TIok_mk (by kernel_rfl) (by kernel_rfl) ⟨rfl, rfl⟩ (by kernel_rfl) rfl
theorem ti42_ok : TIok Try.prog tb 42 ti42 := TIok_mk (by kernel_rfl) (by kernel_rfl) ⟨rfl, rfl⟩ (by kernel_rfl) rfl
theorem ti55_ok : TIok Try.prog tb 55 ti55 := TIok_mk (by kernel_rfl) (by kernel_rfl) ⟨rfl, rfl⟩ (by kernel_rfl) rfl
theorem ti56_ok : TIok Try.prog tb 56 ti56 := TIok_mk (by kernel_rfl) (by kernel_rfl) ⟨rfl, rfl⟩ (by kernel_rfl) rfl
theorem ti58_ok : TIok Try.prog tb 58 ti58 := TIok_mk (by kernel_rfl) (by kernel_rfl) ⟨rfl, rfl⟩ (by kernel_rfl) rfl
theorem ti67_ok : TIok Try.prog tb 67 ti67 := TIok_mk (by kernel_rfl) (by kernel_rfl) ⟨rfl, rfl⟩ (by kernel_rfl) rfl
theorem ti69_ok : TIok Try.prog tb 69 ti69 := TIok_mk (by kernel_rfl) (by kernel_rfl) trivial (by kernel_rfl) rfl
theorem ti70_ok : TIok Try.prog tb 70 ti70 := TIok_mk (by kernel_rfl) (by kernel_rfl) ⟨rfl, rfl⟩ (by kernel_rfl) rfl
theorem ti90_ok : TIok Try.prog tb 90 ti90 := TIok_mk (by kernel_rfl) (by kernel_rfl) ⟨rfl, rfl⟩ (by kernel_rfl) rfl
theorem ti92_ok : TIok Try.prog tb 92 ti92 := TIok_mk (by kernel_rfl) (by kernel_rfl) ⟨rfl, rfl⟩ (by kernel_rfl) rfl
theorem ti94_ok : TIok Try.prog tb 94 ti94 := TIok_mk (by kernel_rfl) (by kernel_rfl) ⟨rfl, rfl⟩ (by kernel_rfl) rfl
theorem ti113_ok : TIok Try.prog tb 113 ti113 := TIok_mk (by kernel_rfl) (by kernel_rfl) ⟨rfl, rfl⟩ (by kernel_rfl) rfl
theorem tb_ok : TabOk Try.prog tb := TT.ok ⟨ti58_ok, ⟨ti22_ok, ⟨ti5_ok, ⟨ti4_ok, ⟨ti3_ok, trivial, trivial⟩, trivial⟩, ⟨ti9_ok, trivial, trivial⟩⟩, ⟨ti55_ok, ⟨ti42_ok, trivial, trivial⟩, ⟨ti56_ok, trivial, trivial⟩⟩⟩, ⟨ti90_ok, ⟨ti69_ok, ⟨ti67_ok, trivial, trivial⟩, ⟨ti70_ok, trivial, trivial⟩⟩, ⟨ti94_ok, ⟨ti92_ok, trivial, trivial⟩, ⟨ti113_ok, trivial, trivial⟩⟩⟩⟩
/-! ### f29: gamehall/symm.Check -/
def symm_Check.as : List AK := [.d false (.int .i64), .d false (.int .i64)]
def symm_Check.rs : List (Bool × Ty) := [(false, (.int .i64))]
def symm_Check.D (N : Nat) : DFn := ⟨symm_Check.as, symm_Check.rs, fun x => symm_Check N x.1 x.2⟩
noncomputable def symm_Check.G (N : Nat) : Gam := gamOf []
def symm_Check.A : Nat → Option LoopAnn := fun _ => none
noncomputable def symm_Check.fin : St → Option Int := resK tb Try.f29.results.toList (decRes symm_Check.rs)
theorem symm_Check.entry (N : Nat) (rec : List Item → St → Option Int) (x : (argTy symm_Check.as).den) : seg tb (symm_Check.G N) symm_Check.A 0 rec symm_Check.fin segFuel [.code (bodyOf Try.f29)] (initSt Try.f29 (encArgs symm_Check.as x) []) = symm_Check.e N x.1 x.2 := by kernel_rfl
theorem symm_Check.ok (N : Nat) : DOk Try.prog tb 29 (symm_Check.D N) := by
  refine ⟨Try.f29, Try.func29, by kernel_rfl, by kernel_rfl, fun x y h => ⟨symm_Check.G N, symm_Check.A, N, ?_, ?_⟩⟩
  · exact gamOf_ok tb_ok (Checked.mixed Try.checked) (fun p hp => nomatch hp)
  · rw [absFn_some (by kernel_rfl)]; exact (symm_Check.entry N (run tb (symm_Check.G N) symm_Check.A 0 symm_Check.fin N) x).trans h
/-! ### f30: gamehall/symm.many -/
def symm_many.as : List AK := [.d false (.int .i64), .d false (.int .i64)]
def symm_many.rs : List (Bool × Ty) := [(false, (.int .i64))]
def symm_many.D (N : Nat) : DFn := ⟨symm_many.as, symm_many.rs, fun x => symm_many N x.1 x.2⟩
noncomputable def symm_many.G (N : Nat) : Gam := gamOf []
def symm_many.A : Nat → Option LoopAnn := fun _ => none
noncomputable def symm_many.fin : St → Option Int := resK tb Try.f30.results.toList (decRes symm_many.rs)
theorem symm_many.entry (N : Nat) (rec : List Item → St → Option Int) (x : (argTy symm_many.as).den) : seg tb (symm_many.G N) symm_many.A 0 rec symm_many.fin segFuel [.code (bodyOf Try.f30)] (initSt Try.f30 (encArgs symm_many.as x) []) = symm_many.e N x.1 x.2 := by kernel_rfl
theorem symm_many.ok (N : Nat) : DOk Try.prog tb 30 (symm_many.D N) := by
  refine ⟨Try.f30, Try.func30, by kernel_rfl, by kernel_rfl, fun x y h => ⟨symm_many.G N, symm_many.A, N, ?_, ?_⟩⟩
  · exact gamOf_ok tb_ok (Checked.mixed Try.checked) (fun p hp => nomatch hp)
  · rw [absFn_some (by kernel_rfl)]; exact (symm_many.entry N (run tb (symm_many.G N) symm_many.A 0 symm_many.fin N) x).trans h
/-! ### f34: gamehall/symm.check -/
def symm_check.as : List AK := [.d false (.int .i64), .d false (.int .i64), .d false (.int .i64)]
def symm_check.rs : List (Bool × Ty) := [(false, (.int .i64))]
def symm_check.D (N : Nat) : DFn := ⟨symm_check.as, symm_check.rs, fun x => symm_check N x.1 x.2.1 x.2.2⟩
noncomputable def symm_check.G (N : Nat) : Gam := gamOf [(29, symm_Check.D N), (30, symm_many.D N)]
def symm_check.A : Nat → Option LoopAnn := fun _ => none
noncomputable def symm_check.fin : St → Option Int := resK tb Try.f34.results.toList (decRes symm_check.rs)
theorem symm_check.entry (N : Nat) (rec : List Item → St → Option Int) (x : (argTy symm_check.as).den) : seg tb (symm_check.G N) symm_check.A 0 rec symm_check.fin segFuel [.code (bodyOf Try.f34)] (initSt Try.f34 (encArgs symm_check.as x) []) = symm_check.e N x.1 x.2.1 x.2.2 := by kernel_rfl
theorem symm_check.ok (N : Nat) : DOk Try.prog tb 34 (symm_check.D N) := by
  refine ⟨Try.f34, Try.func34, by kernel_rfl, by kernel_rfl, fun x y h => ⟨symm_check.G N, symm_check.A, N, ?_, ?_⟩⟩
  · exact gamOf_ok tb_ok (Checked.mixed Try.checked) (by simp only [List.forall_mem_cons, List.not_mem_nil, false_implies, implies_true, and_true]; exact ⟨symm_Check.ok N, symm_many.ok N⟩)
  · rw [absFn_some (by kernel_rfl)]; exact (symm_check.entry N (run tb (symm_check.G N) symm_check.A 0 symm_check.fin N) x).trans h
/-! ### f12: gamehall/symm.Compose -/
def symm_Compose.as : List AK := [.d false (.int .i64), .d false (.int .i64), .d false (.int .i64), .d false (.int .i64)]
def symm_Compose.rs : List (Bool × Ty) := [(false, (.int .i64)), (false, (.int .i64))]
def symm_Compose.D (N : Nat) : DFn := ⟨symm_Compose.as, symm_Compose.rs, fun x => symm_Compose N x.1 x.2.1 x.2.2.1 x.2.2.2⟩
noncomputable def symm_Compose.G (N : Nat) : Gam := gamOf [(34, symm_check.D N)]
def symm_Compose.A : Nat → Option LoopAnn := fun k => bif Nat.beq k 0 then some ⟨[0, 1, 2, 3, 15, 16], [], [], [], [], 0⟩ else none
noncomputable def symm_Compose.fin : St → Option (Int × Int) := resK tb Try.f12.results.toList (decRes symm_Compose.rs)
noncomputable def symm_Compose.k0 : List Item := stackAt [.r, .l, .r, .b] (bodyOf Try.f12) []
def symm_Compose.st0 (width : Int) (height : Int) (a_ : Int) (b_ : Int) (t16_ : Int) : St := ⟨[.one (.int .i64 width), .one (.int .i64 height), .one (.int .i64 a_), .one (.int .i64 b_)] ++ List.replicate 11 (.one .any) ++ [.agg [.int .i64 a_, .int .i64 b_], .one (.int .i64 t16_)] ++ List.replicate 26 (.one .any), []⟩
theorem symm_Compose.step0 (N : Nat) (rec : List Item → St → Option (Int × Int)) (width : Int) (height : Int) (a_ : Int) (b_ : Int) (t16_ : Int) : seg tb (symm_Compose.G N) symm_Compose.A 0 rec symm_Compose.fin segFuel (loopBody symm_Compose.k0) (symm_Compose.st0 width height a_ b_ t16_) = symm_Compose.s0 N width height a_ b_ (fun t16_ => rec symm_Compose.k0 (symm_Compose.st0 width height a_ b_ t16_)) t16_ := by kernel_rfl
theorem symm_Compose.entry (N : Nat) (rec : List Item → St → Option (Int × Int)) (x : (argTy symm_Compose.as).den) : seg tb (symm_Compose.G N) symm_Compose.A 0 rec symm_Compose.fin segFuel [.code (bodyOf Try.f12)] (initSt Try.f12 (encArgs symm_Compose.as x) []) = symm_Compose.e N (fun t16_ => rec symm_Compose.k0 (symm_Compose.st0 x.1 x.2.1 x.2.2.1 x.2.2.2 t16_)) x.1 x.2.1 x.2.2.1 x.2.2.2 := by kernel_rfl
theorem symm_Compose.runs (N : Nat) (width : Int) (height : Int) (a_ : Int) (b_ : Int) : ∀ n, (∀ (t16_ : Int), run tb (symm_Compose.G N) symm_Compose.A 0 symm_Compose.fin n symm_Compose.k0 (symm_Compose.st0 width height a_ b_ t16_) = symm_Compose.l0 N width height a_ b_ n t16_)
  | 0 => fun _ => rfl
  | n + 1 => by
    have h0 := symm_Compose.runs N width height a_ b_ n
    have e0 : (fun (t16_ : Int) => run tb (symm_Compose.G N) symm_Compose.A 0 symm_Compose.fin n symm_Compose.k0 (symm_Compose.st0 width height a_ b_ t16_)) = symm_Compose.l0 N width height a_ b_ n := by funext t16_; exact h0 t16_
    have g0 : (∀ (t16_ : Int), run tb (symm_Compose.G N) symm_Compose.A 0 symm_Compose.fin (n + 1) symm_Compose.k0 (symm_Compose.st0 width height a_ b_ t16_) = symm_Compose.l0 N width height a_ b_ (n + 1) t16_) := by
      intro t16_
      exact (run_succ (by kernel_rfl)).trans ((symm_Compose.step0 N _ width height a_ b_ t16_).trans ((congrArg (fun r0 => symm_Compose.s0 N width height a_ b_ r0 t16_) e0).trans (symm_Compose.l0_s N width height a_ b_ n t16_).symm))
    exact g0
theorem symm_Compose.ok (N : Nat) : DOk Try.prog tb 12 (symm_Compose.D N) := by
  refine ⟨Try.f12, Try.func12, by kernel_rfl, by kernel_rfl, fun x y h => ⟨symm_Compose.G N, symm_Compose.A, N, ?_, ?_⟩⟩
  · exact gamOf_ok tb_ok (Checked.mixed Try.checked) (by simp only [List.forall_mem_cons, List.not_mem_nil, false_implies, implies_true, and_true]; exact symm_check.ok N)
  · rw [absFn_some (by kernel_rfl)]
    refine (symm_Compose.entry N (run tb (symm_Compose.G N) symm_Compose.A 0 symm_Compose.fin N) x).trans ?_
    have e0 : (fun (t16_ : Int) => run tb (symm_Compose.G N) symm_Compose.A 0 symm_Compose.fin N symm_Compose.k0 (symm_Compose.st0 x.1 x.2.1 x.2.2.1 x.2.2.2 t16_)) = symm_Compose.l0 N x.1 x.2.1 x.2.2.1 x.2.2.2 N := by funext t16_; exact (symm_Compose.runs N x.1 x.2.1 x.2.2.1 x.2.2.2 N) t16_
    have h' : (symm_Compose.D N).f x = symm_Compose.e N (symm_Compose.l0 N x.1 x.2.1 x.2.2.1 x.2.2.2 N) x.1 x.2.1 x.2.2.1 x.2.2.2 := by kernel_rfl
    exact (congrArg (fun r0 => symm_Compose.e N r0 x.1 x.2.1 x.2.2.1 x.2.2.2) e0).trans (h'.symm.trans h)
/-! ### f35: gamehall/symm.image -/
def symm_image.as : List AK := [.d false (.int .i64), .d false (.int .i64), .d false (.int .i64), .d false (.int .i64)]
def symm_image.rs : List (Bool × Ty) := [(false, (.int .i64))]
def symm_image.D (N : Nat) : DFn := ⟨symm_image.as, symm_image.rs, fun x => symm_image N x.1 x.2.1 x.2.2.1 x.2.2.2⟩
noncomputable def symm_image.G (N : Nat) : Gam := gamOf []
def symm_image.A : Nat → Option LoopAnn := fun _ => none
noncomputable def symm_image.fin : St → Option Int := resK tb Try.f35.results.toList (decRes symm_image.rs)
theorem symm_image.entry (N : Nat) (rec : List Item → St → Option Int) (x : (argTy symm_image.as).den) : seg tb (symm_image.G N) symm_image.A 0 rec symm_image.fin segFuel [.code (bodyOf Try.f35)] (initSt Try.f35 (encArgs symm_image.as x) []) = symm_image.e N x.1 x.2.1 x.2.2.1 x.2.2.2 := by kernel_rfl
theorem symm_image.ok (N : Nat) : DOk Try.prog tb 35 (symm_image.D N) := by
  refine ⟨Try.f35, Try.func35, by kernel_rfl, by kernel_rfl, fun x y h => ⟨symm_image.G N, symm_image.A, N, ?_, ?_⟩⟩
  · exact gamOf_ok tb_ok (Checked.mixed Try.checked) (fun p hp => nomatch hp)
  · rw [absFn_some (by kernel_rfl)]; exact (symm_image.entry N (run tb (symm_image.G N) symm_image.A 0 symm_image.fin N) x).trans h
/-! ### f15: gamehall/symm.Map -/
def symm_Map.as : List AK := [.d false (.int .i64), .d false (.int .i64), .d false (.int .i64), .d false (.int .i64)]
def symm_Map.rs : List (Bool × Ty) := [(false, (.int .i64)), (false, (.int .i64))]
def symm_Map.D (N : Nat) : DFn := ⟨symm_Map.as, symm_Map.rs, fun x => symm_Map N x.1 x.2.1 x.2.2.1 x.2.2.2⟩
noncomputable def symm_Map.G (N : Nat) : Gam := gamOf [(34, symm_check.D N), (35, symm_image.D N)]
def symm_Map.A : Nat → Option LoopAnn := fun _ => none
noncomputable def symm_Map.fin : St → Option (Int × Int) := resK tb Try.f15.results.toList (decRes symm_Map.rs)
theorem symm_Map.entry (N : Nat) (rec : List Item → St → Option (Int × Int)) (x : (argTy symm_Map.as).den) : seg tb (symm_Map.G N) symm_Map.A 0 rec symm_Map.fin segFuel [.code (bodyOf Try.f15)] (initSt Try.f15 (encArgs symm_Map.as x) []) = symm_Map.e N x.1 x.2.1 x.2.2.1 x.2.2.2 := by kernel_rfl
theorem symm_Map.ok (N : Nat) : DOk Try.prog tb 15 (symm_Map.D N) := by
  refine ⟨Try.f15, Try.func15, by kernel_rfl, by kernel_rfl, fun x y h => ⟨symm_Map.G N, symm_Map.A, N, ?_, ?_⟩⟩
  · exact gamOf_ok tb_ok (Checked.mixed Try.checked) (by simp only [List.forall_mem_cons, List.not_mem_nil, false_implies, implies_true, and_true]; exact ⟨symm_check.ok N, symm_image.ok N⟩)
  · rw [absFn_some (by kernel_rfl)]; exact (symm_Map.entry N (run tb (symm_Map.G N) symm_Map.A 0 symm_Map.fin N) x).trans h
/-! ### f23: gamehall/symm.Apply -/
def symm_Apply.as : List AK := [.d false (.int .i64), .d false (.int .i64), .d false (.int .i64), .d false (.slice 3 (.int .i64))]
def symm_Apply.rs : List (Bool × Ty) := [(false, (.slice 3 (.int .i64))), (false, (.int .i64))]
def symm_Apply.D (N : Nat) : DFn := ⟨symm_Apply.as, symm_Apply.rs, fun x => symm_Apply N x.1 x.2.1 x.2.2.1 x.2.2.2⟩
noncomputable def symm_Apply.G (N : Nat) : Gam := gamOf [(34, symm_check.D N), (35, symm_image.D N)]
def symm_Apply.A : Nat → Option LoopAnn := fun k => bif Nat.beq k 0 then some ⟨[0, 1, 2, 11, 30, 31, 32], [], [], [], [], 1⟩ else none
noncomputable def symm_Apply.fin : St → Option ((List Int) × Int) := resK tb Try.f23.results.toList (decRes symm_Apply.rs)
noncomputable def symm_Apply.k0 : List Item := stackAt [.r, .r, .r, .r, .l, .r, .b] (bodyOf Try.f23) []
def symm_Apply.st0 (width : Int) (height : Int) (s_ : Int) (cells : (List Int)) (t32_ : Int) (out : (List Int)) : St := ⟨[.one (.int .i64 width), .one (.int .i64 height), .one (.int .i64 s_)] ++ List.replicate 8 (.one .any) ++ [.one (.own 0)] ++ List.replicate 18 (.one .any) ++ [.one (.fro 3 (.int .i64) cells), .one (.int .i64 (cells.length : Int)), .one (.int .i64 t32_)] ++ List.replicate 14 (.one .any), [.row 3 (.int .i64) out]⟩
theorem symm_Apply.step0 (N : Nat) (rec : List Item → St → Option ((List Int) × Int)) (width : Int) (height : Int) (s_ : Int) (cells : (List Int)) (t32_ : Int) (out : (List Int)) : seg tb (symm_Apply.G N) symm_Apply.A 0 rec symm_Apply.fin segFuel (loopBody symm_Apply.k0) (symm_Apply.st0 width height s_ cells t32_ out) = symm_Apply.s0 N width height s_ cells (fun t32_ out => rec symm_Apply.k0 (symm_Apply.st0 width height s_ cells t32_ out)) t32_ out := by kernel_rfl
theorem symm_Apply.entry (N : Nat) (rec : List Item → St → Option ((List Int) × Int)) (x : (argTy symm_Apply.as).den) : seg tb (symm_Apply.G N) symm_Apply.A 0 rec symm_Apply.fin segFuel [.code (bodyOf Try.f23)] (initSt Try.f23 (encArgs symm_Apply.as x) []) = symm_Apply.e N (fun t32_ out => rec symm_Apply.k0 (symm_Apply.st0 x.1 x.2.1 x.2.2.1 x.2.2.2 t32_ out)) x.1 x.2.1 x.2.2.1 x.2.2.2 := by kernel_rfl
theorem symm_Apply.runs (N : Nat) (width : Int) (height : Int) (s_ : Int) (cells : (List Int)) : ∀ n, (∀ (t32_ : Int) (out : (List Int)), run tb (symm_Apply.G N) symm_Apply.A 0 symm_Apply.fin n symm_Apply.k0 (symm_Apply.st0 width height s_ cells t32_ out) = symm_Apply.l0 N width height s_ cells n t32_ out)
  | 0 => fun _ _ => rfl
  | n + 1 => by
    have h0 := symm_Apply.runs N width height s_ cells n
    have e0 : (fun (t32_ : Int) (out : (List Int)) => run tb (symm_Apply.G N) symm_Apply.A 0 symm_Apply.fin n symm_Apply.k0 (symm_Apply.st0 width height s_ cells t32_ out)) = symm_Apply.l0 N width height s_ cells n := by funext t32_ out; exact h0 t32_ out
    have g0 : (∀ (t32_ : Int) (out : (List Int)), run tb (symm_Apply.G N) symm_Apply.A 0 symm_Apply.fin (n + 1) symm_Apply.k0 (symm_Apply.st0 width height s_ cells t32_ out) = symm_Apply.l0 N width height s_ cells (n + 1) t32_ out) := by
      intro t32_ out
      exact (run_succ (by kernel_rfl)).trans ((symm_Apply.step0 N _ width height s_ cells t32_ out).trans ((congrArg (fun r0 => symm_Apply.s0 N width height s_ cells r0 t32_ out) e0).trans (symm_Apply.l0_s N width height s_ cells n t32_ out).symm))
    exact g0
theorem symm_Apply.ok (N : Nat) : DOk Try.prog tb 23 (symm_Apply.D N) := by
  refine ⟨Try.f23, Try.func23, by kernel_rfl, by kernel_rfl, fun x y h => ⟨symm_Apply.G N, symm_Apply.A, N, ?_, ?_⟩⟩
  · exact gamOf_ok tb_ok (Checked.mixed Try.checked) (by simp only [List.forall_mem_cons, List.not_mem_nil, false_implies, implies_true, and_true]; exact ⟨symm_check.ok N, symm_image.ok N⟩)
  · rw [absFn_some (by kernel_rfl)]
    refine (symm_Apply.entry N (run tb (symm_Apply.G N) symm_Apply.A 0 symm_Apply.fin N) x).trans ?_
    have e0 : (fun (t32_ : Int) (out : (List Int)) => run tb (symm_Apply.G N) symm_Apply.A 0 symm_Apply.fin N symm_Apply.k0 (symm_Apply.st0 x.1 x.2.1 x.2.2.1 x.2.2.2 t32_ out)) = symm_Apply.l0 N x.1 x.2.1 x.2.2.1 x.2.2.2 N := by funext t32_ out; exact (symm_Apply.runs N x.1 x.2.1 x.2.2.1 x.2.2.2 N) t32_ out
    have h' : (symm_Apply.D N).f x = symm_Apply.e N (symm_Apply.l0 N x.1 x.2.1 x.2.2.1 x.2.2.2 N) x.1 x.2.1 x.2.2.1 x.2.2.2 := by kernel_rfl
    exact (congrArg (fun r0 => symm_Apply.e N r0 x.1 x.2.1 x.2.2.1 x.2.2.2) e0).trans (h'.symm.trans h)
/-! ### f22: slices.Equal[[]int,int] -/
def slices_Equal_int_int.as : List AK := [.d false (.slice 3 (.int .i64)), .d false (.slice 3 (.int .i64))]
def slices_Equal_int_int.rs : List (Bool × Ty) := [(false, .bool)]
def slices_Equal_int_int.D (N : Nat) : DFn := ⟨slices_Equal_int_int.as, slices_Equal_int_int.rs, fun x => slices_Equal_int_int N x.1 x.2⟩
noncomputable def slices_Equal_int_int.G (N : Nat) : Gam := gamOf []
def slices_Equal_int_int.A : Nat → Option LoopAnn := fun k => bif Nat.beq k 0 then some ⟨[0, 1, 12, 13], [], [], [], [], 0⟩ else none
noncomputable def slices_Equal_int_int.fin : St → Option Bool := resK tb Try.f22.results.toList (decRes slices_Equal_int_int.rs)
noncomputable def slices_Equal_int_int.k0 : List Item := stackAt [.r, .r, .l, .r, .b] (bodyOf Try.f22) []
def slices_Equal_int_int.st0 (s1_ : (List Int)) (s2_ : (List Int)) (t13_ : Int) : St := ⟨[.one (.fro 3 (.int .i64) s1_), .one (.fro 3 (.int .i64) s2_)] ++ List.replicate 10 (.one .any) ++ [.one (.int .i64 (s1_.length : Int)), .one (.int .i64 t13_)] ++ List.replicate 12 (.one .any), []⟩
theorem slices_Equal_int_int.step0 (N : Nat) (rec : List Item → St → Option Bool) (s1_ : (List Int)) (s2_ : (List Int)) (t13_ : Int) : seg tb (slices_Equal_int_int.G N) slices_Equal_int_int.A 0 rec slices_Equal_int_int.fin segFuel (loopBody slices_Equal_int_int.k0) (slices_Equal_int_int.st0 s1_ s2_ t13_) = slices_Equal_int_int.s0 N s1_ s2_ (fun t13_ => rec slices_Equal_int_int.k0 (slices_Equal_int_int.st0 s1_ s2_ t13_)) t13_ := by kernel_rfl
theorem slices_Equal_int_int.entry (N : Nat) (rec : List Item → St → Option Bool) (x : (argTy slices_Equal_int_int.as).den) : seg tb (slices_Equal_int_int.G N) slices_Equal_int_int.A 0 rec slices_Equal_int_int.fin segFuel [.code (bodyOf Try.f22)] (initSt Try.f22 (encArgs slices_Equal_int_int.as x) []) = slices_Equal_int_int.e N (fun t13_ => rec slices_Equal_int_int.k0 (slices_Equal_int_int.st0 x.1 x.2 t13_)) x.1 x.2 := by kernel_rfl
theorem slices_Equal_int_int.runs (N : Nat) (s1_ : (List Int)) (s2_ : (List Int)) : ∀ n, (∀ (t13_ : Int), run tb (slices_Equal_int_int.G N) slices_Equal_int_int.A 0 slices_Equal_int_int.fin n slices_Equal_int_int.k0 (slices_Equal_int_int.st0 s1_ s2_ t13_) = slices_Equal_int_int.l0 N s1_ s2_ n t13_)
  | 0 => fun _ => rfl
  | n + 1 => by
    have h0 := slices_Equal_int_int.runs N s1_ s2_ n
    have e0 : (fun (t13_ : Int) => run tb (slices_Equal_int_int.G N) slices_Equal_int_int.A 0 slices_Equal_int_int.fin n slices_Equal_int_int.k0 (slices_Equal_int_int.st0 s1_ s2_ t13_)) = slices_Equal_int_int.l0 N s1_ s2_ n := by funext t13_; exact h0 t13_
    have g0 : (∀ (t13_ : Int), run tb (slices_Equal_int_int.G N) slices_Equal_int_int.A 0 slices_Equal_int_int.fin (n + 1) slices_Equal_int_int.k0 (slices_Equal_int_int.st0 s1_ s2_ t13_) = slices_Equal_int_int.l0 N s1_ s2_ (n + 1) t13_) := by
      intro t13_
      exact (run_succ (by kernel_rfl)).trans ((slices_Equal_int_int.step0 N _ s1_ s2_ t13_).trans ((congrArg (fun r0 => slices_Equal_int_int.s0 N s1_ s2_ r0 t13_) e0).trans (slices_Equal_int_int.l0_s N s1_ s2_ n t13_).symm))
    exact g0
theorem slices_Equal_int_int.ok (N : Nat) : DOk Try.prog tb 22 (slices_Equal_int_int.D N) := by
  refine ⟨Try.f22, Try.func22, by kernel_rfl, by kernel_rfl, fun x y h => ⟨slices_Equal_int_int.G N, slices_Equal_int_int.A, N, ?_, ?_⟩⟩
  · exact gamOf_ok tb_ok (Checked.mixed Try.checked) (fun p hp => nomatch hp)
  · rw [absFn_some (by kernel_rfl)]
    refine (slices_Equal_int_int.entry N (run tb (slices_Equal_int_int.G N) slices_Equal_int_int.A 0 slices_Equal_int_int.fin N) x).trans ?_
    have e0 : (fun (t13_ : Int) => run tb (slices_Equal_int_int.G N) slices_Equal_int_int.A 0 slices_Equal_int_int.fin N slices_Equal_int_int.k0 (slices_Equal_int_int.st0 x.1 x.2 t13_)) = slices_Equal_int_int.l0 N x.1 x.2 N := by funext t13_; exact (slices_Equal_int_int.runs N x.1 x.2 N) t13_
    have h' : (slices_Equal_int_int.D N).f x = slices_Equal_int_int.e N (slices_Equal_int_int.l0 N x.1 x.2 N) x.1 x.2 := by kernel_rfl
    exact (congrArg (fun r0 => slices_Equal_int_int.e N r0 x.1 x.2) e0).trans (h'.symm.trans h)
/-! ### f13: gamehall/gamehallkeep1.moved -/
def gamehallkeep1_moved.as : List AK := []
def gamehallkeep1_moved.rs : List (Bool × Ty) := [(false, .bool)]
def gamehallkeep1_moved.D (N : Nat) : DFn := ⟨gamehallkeep1_moved.as, gamehallkeep1_moved.rs, fun x => gamehallkeep1_moved N⟩
noncomputable def gamehallkeep1_moved.G (N : Nat) : Gam := gamOf [(15, symm_Map.D N), (23, symm_Apply.D N), (22, slices_Equal_int_int.D N)]
def gamehallkeep1_moved.A : Nat → Option LoopAnn := fun _ => none
noncomputable def gamehallkeep1_moved.fin : St → Option Bool := resK tb Try.f13.results.toList (decRes gamehallkeep1_moved.rs)
theorem gamehallkeep1_moved.entry (N : Nat) (rec : List Item → St → Option Bool) (x : (argTy gamehallkeep1_moved.as).den) : seg tb (gamehallkeep1_moved.G N) gamehallkeep1_moved.A 0 rec gamehallkeep1_moved.fin segFuel [.code (bodyOf Try.f13)] (initSt Try.f13 (encArgs gamehallkeep1_moved.as x) []) = gamehallkeep1_moved.e N := by kernel_rfl
theorem gamehallkeep1_moved.ok (N : Nat) : DOk Try.prog tb 13 (gamehallkeep1_moved.D N) := by
  refine ⟨Try.f13, Try.func13, by kernel_rfl, by kernel_rfl, fun x y h => ⟨gamehallkeep1_moved.G N, gamehallkeep1_moved.A, N, ?_, ?_⟩⟩
  · exact gamOf_ok tb_ok (Checked.mixed Try.checked) (by simp only [List.forall_mem_cons, List.not_mem_nil, false_implies, implies_true, and_true]; exact ⟨symm_Map.ok N, symm_Apply.ok N, slices_Equal_int_int.ok N⟩)
  · rw [absFn_some (by kernel_rfl)]; exact (gamehallkeep1_moved.entry N (run tb (gamehallkeep1_moved.G N) gamehallkeep1_moved.A 0 gamehallkeep1_moved.fin N) x).trans h
/-! ### f14: gamehall/symm.Inverse -/
def symm_Inverse.as : List AK := [.d false (.int .i64), .d false (.int .i64), .d false (.int .i64)]
def symm_Inverse.rs : List (Bool × Ty) := [(false, (.int .i64)), (false, (.int .i64))]
def symm_Inverse.D (N : Nat) : DFn := ⟨symm_Inverse.as, symm_Inverse.rs, fun x => symm_Inverse N x.1 x.2.1 x.2.2⟩
noncomputable def symm_Inverse.G (N : Nat) : Gam := gamOf [(34, symm_check.D N)]
def symm_Inverse.A : Nat → Option LoopAnn := fun _ => none
noncomputable def symm_Inverse.fin : St → Option (Int × Int) := resK tb Try.f14.results.toList (decRes symm_Inverse.rs)
theorem symm_Inverse.entry (N : Nat) (rec : List Item → St → Option (Int × Int)) (x : (argTy symm_Inverse.as).den) : seg tb (symm_Inverse.G N) symm_Inverse.A 0 rec symm_Inverse.fin segFuel [.code (bodyOf Try.f14)] (initSt Try.f14 (encArgs symm_Inverse.as x) []) = symm_Inverse.e N x.1 x.2.1 x.2.2 := by kernel_rfl
theorem symm_Inverse.ok (N : Nat) : DOk Try.prog tb 14 (symm_Inverse.D N) := by
  refine ⟨Try.f14, Try.func14, by kernel_rfl, by kernel_rfl, fun x y h => ⟨symm_Inverse.G N, symm_Inverse.A, N, ?_, ?_⟩⟩
  · exact gamOf_ok tb_ok (Checked.mixed Try.checked) (by simp only [List.forall_mem_cons, List.not_mem_nil, false_implies, implies_true, and_true]; exact symm_check.ok N)
  · rw [absFn_some (by kernel_rfl)]; exact (symm_Inverse.entry N (run tb (symm_Inverse.G N) symm_Inverse.A 0 symm_Inverse.fin N) x).trans h
/-! ### f33: gamehall/gamehallkeep1.fine$1 -/
def gamehallkeep1_fine_1.as : List AK := [.d false (.int .i64)]
def gamehallkeep1_fine_1.rs : List (Bool × Ty) := [(false, .bool)]
def gamehallkeep1_fine_1.D (N : Nat) : DFn := ⟨gamehallkeep1_fine_1.as, gamehallkeep1_fine_1.rs, fun x => gamehallkeep1_fine_1 N x⟩
noncomputable def gamehallkeep1_fine_1.G (N : Nat) : Gam := gamOf []
def gamehallkeep1_fine_1.A : Nat → Option LoopAnn := fun _ => none
noncomputable def gamehallkeep1_fine_1.fin : St → Option Bool := resK tb Try.f33.results.toList (decRes gamehallkeep1_fine_1.rs)
theorem gamehallkeep1_fine_1.entry (N : Nat) (rec : List Item → St → Option Bool) (x : (argTy gamehallkeep1_fine_1.as).den) : seg tb (gamehallkeep1_fine_1.G N) gamehallkeep1_fine_1.A 0 rec gamehallkeep1_fine_1.fin segFuel [.code (bodyOf Try.f33)] (initSt Try.f33 (encArgs gamehallkeep1_fine_1.as x) []) = gamehallkeep1_fine_1.e N x := by kernel_rfl
theorem gamehallkeep1_fine_1.ok (N : Nat) : DOk Try.prog tb 33 (gamehallkeep1_fine_1.D N) := by
  refine ⟨Try.f33, Try.func33, by kernel_rfl, by kernel_rfl, fun x y h => ⟨gamehallkeep1_fine_1.G N, gamehallkeep1_fine_1.A, N, ?_, ?_⟩⟩
  · exact gamOf_ok tb_ok (Checked.mixed Try.checked) (fun p hp => nomatch hp)
  · rw [absFn_some (by kernel_rfl)]; exact (gamehallkeep1_fine_1.entry N (run tb (gamehallkeep1_fine_1.G N) gamehallkeep1_fine_1.A 0 gamehallkeep1_fine_1.fin N) x).trans h
/-! ### f46: slices.IndexFunc[[]gamehall/api.Errno,gamehall/api.Errno] -/
def slices_IndexFunc_api_Errno_api_Errno.as : List AK := [.d false (.slice 22 (.int .i64)), .f 33]
def slices_IndexFunc_api_Errno_api_Errno.rs : List (Bool × Ty) := [(false, (.int .i64))]
def slices_IndexFunc_api_Errno_api_Errno.D (N : Nat) : DFn := ⟨slices_IndexFunc_api_Errno_api_Errno.as, slices_IndexFunc_api_Errno_api_Errno.rs, fun x => slices_IndexFunc_api_Errno_api_Errno N x.1⟩
noncomputable def slices_IndexFunc_api_Errno_api_Errno.G (N : Nat) : Gam := gamOf [(33, gamehallkeep1_fine_1.D N)]
def slices_IndexFunc_api_Errno_api_Errno.A : Nat → Option LoopAnn := fun k => bif Nat.beq k 0 then some ⟨[0, 1, 7, 8], [], [], [], [], 0⟩ else none
noncomputable def slices_IndexFunc_api_Errno_api_Errno.fin : St → Option Int := resK tb Try.f46.results.toList (decRes slices_IndexFunc_api_Errno_api_Errno.rs)
noncomputable def slices_IndexFunc_api_Errno_api_Errno.k0 : List Item := stackAt [.r, .l, .r, .b] (bodyOf Try.f46) []
def slices_IndexFunc_api_Errno_api_Errno.st0 (s_ : (List Int)) (t8_ : Int) : St := ⟨[.one (.fro 22 (.int .i64) s_), .one (.fn 33)] ++ List.replicate 5 (.one .any) ++ [.one (.int .i64 (s_.length : Int)), .one (.int .i64 t8_)] ++ List.replicate 10 (.one .any), []⟩
theorem slices_IndexFunc_api_Errno_api_Errno.step0 (N : Nat) (rec : List Item → St → Option Int) (s_ : (List Int)) (t8_ : Int) : seg tb (slices_IndexFunc_api_Errno_api_Errno.G N) slices_IndexFunc_api_Errno_api_Errno.A 0 rec slices_IndexFunc_api_Errno_api_Errno.fin segFuel (loopBody slices_IndexFunc_api_Errno_api_Errno.k0) (slices_IndexFunc_api_Errno_api_Errno.st0 s_ t8_) = slices_IndexFunc_api_Errno_api_Errno.s0 N s_ (fun t8_ => rec slices_IndexFunc_api_Errno_api_Errno.k0 (slices_IndexFunc_api_Errno_api_Errno.st0 s_ t8_)) t8_ := by kernel_rfl
theorem slices_IndexFunc_api_Errno_api_Errno.entry (N : Nat) (rec : List Item → St → Option Int) (x : (argTy slices_IndexFunc_api_Errno_api_Errno.as).den) : seg tb (slices_IndexFunc_api_Errno_api_Errno.G N) slices_IndexFunc_api_Errno_api_Errno.A 0 rec slices_IndexFunc_api_Errno_api_Errno.fin segFuel [.code (bodyOf Try.f46)] (initSt Try.f46 (encArgs slices_IndexFunc_api_Errno_api_Errno.as x) []) = slices_IndexFunc_api_Errno_api_Errno.e N (fun t8_ => rec slices_IndexFunc_api_Errno_api_Errno.k0 (slices_IndexFunc_api_Errno_api_Errno.st0 x.1 t8_)) x.1 := by kernel_rfl
theorem slices_IndexFunc_api_Errno_api_Errno.runs (N : Nat) (s_ : (List Int)) : ∀ n, (∀ (t8_ : Int), run tb (slices_IndexFunc_api_Errno_api_Errno.G N) slices_IndexFunc_api_Errno_api_Errno.A 0 slices_IndexFunc_api_Errno_api_Errno.fin n slices_IndexFunc_api_Errno_api_Errno.k0 (slices_IndexFunc_api_Errno_api_Errno.st0 s_ t8_) = slices_IndexFunc_api_Errno_api_Errno.l0 N s_ n t8_)
  | 0 => fun _ => rfl
  | n + 1 => by
    have h0 := slices_IndexFunc_api_Errno_api_Errno.runs N s_ n
    have e0 : (fun (t8_ : Int) => run tb (slices_IndexFunc_api_Errno_api_Errno.G N) slices_IndexFunc_api_Errno_api_Errno.A 0 slices_IndexFunc_api_Errno_api_Errno.fin n slices_IndexFunc_api_Errno_api_Errno.k0 (slices_IndexFunc_api_Errno_api_Errno.st0 s_ t8_)) = slices_IndexFunc_api_Errno_api_Errno.l0 N s_ n := by funext t8_; exact h0 t8_
    have g0 : (∀ (t8_ : Int), run tb (slices_IndexFunc_api_Errno_api_Errno.G N) slices_IndexFunc_api_Errno_api_Errno.A 0 slices_IndexFunc_api_Errno_api_Errno.fin (n + 1) slices_IndexFunc_api_Errno_api_Errno.k0 (slices_IndexFunc_api_Errno_api_Errno.st0 s_ t8_) = slices_IndexFunc_api_Errno_api_Errno.l0 N s_ (n + 1) t8_) := by
      intro t8_
      exact (run_succ (by kernel_rfl)).trans ((slices_IndexFunc_api_Errno_api_Errno.step0 N _ s_ t8_).trans ((congrArg (fun r0 => slices_IndexFunc_api_Errno_api_Errno.s0 N s_ r0 t8_) e0).trans (slices_IndexFunc_api_Errno_api_Errno.l0_s N s_ n t8_).symm))
    exact g0
theorem slices_IndexFunc_api_Errno_api_Errno.ok (N : Nat) : DOk Try.prog tb 46 (slices_IndexFunc_api_Errno_api_Errno.D N) := by
  refine ⟨Try.f46, Try.func46, by kernel_rfl, by kernel_rfl, fun x y h => ⟨slices_IndexFunc_api_Errno_api_Errno.G N, slices_IndexFunc_api_Errno_api_Errno.A, N, ?_, ?_⟩⟩
  · exact gamOf_ok tb_ok (Checked.mixed Try.checked) (by simp only [List.forall_mem_cons, List.not_mem_nil, false_implies, implies_true, and_true]; exact gamehallkeep1_fine_1.ok N)
  · rw [absFn_some (by kernel_rfl)]
    refine (slices_IndexFunc_api_Errno_api_Errno.entry N (run tb (slices_IndexFunc_api_Errno_api_Errno.G N) slices_IndexFunc_api_Errno_api_Errno.A 0 slices_IndexFunc_api_Errno_api_Errno.fin N) x).trans ?_
    have e0 : (fun (t8_ : Int) => run tb (slices_IndexFunc_api_Errno_api_Errno.G N) slices_IndexFunc_api_Errno_api_Errno.A 0 slices_IndexFunc_api_Errno_api_Errno.fin N slices_IndexFunc_api_Errno_api_Errno.k0 (slices_IndexFunc_api_Errno_api_Errno.st0 x.1 t8_)) = slices_IndexFunc_api_Errno_api_Errno.l0 N x.1 N := by funext t8_; exact (slices_IndexFunc_api_Errno_api_Errno.runs N x.1 N) t8_
    have h' : (slices_IndexFunc_api_Errno_api_Errno.D N).f x = slices_IndexFunc_api_Errno_api_Errno.e N (slices_IndexFunc_api_Errno_api_Errno.l0 N x.1 N) x.1 := by kernel_rfl
    exact (congrArg (fun r0 => slices_IndexFunc_api_Errno_api_Errno.e N r0 x.1) e0).trans (h'.symm.trans h)
/-! ### f32: slices.ContainsFunc[[]gamehall/api.Errno,gamehall/api.Errno] -/
def slices_ContainsFunc_api_Errno_api_Errno.as : List AK := [.d false (.slice 22 (.int .i64)), .f 33]
def slices_ContainsFunc_api_Errno_api_Errno.rs : List (Bool × Ty) := [(false, .bool)]
def slices_ContainsFunc_api_Errno_api_Errno.D (N : Nat) : DFn := ⟨slices_ContainsFunc_api_Errno_api_Errno.as, slices_ContainsFunc_api_Errno_api_Errno.rs, fun x => slices_ContainsFunc_api_Errno_api_Errno N x.1⟩
noncomputable def slices_ContainsFunc_api_Errno_api_Errno.G (N : Nat) : Gam := gamOf [(46, slices_IndexFunc_api_Errno_api_Errno.D N)]
def slices_ContainsFunc_api_Errno_api_Errno.A : Nat → Option LoopAnn := fun _ => none
noncomputable def slices_ContainsFunc_api_Errno_api_Errno.fin : St → Option Bool := resK tb Try.f32.results.toList (decRes slices_ContainsFunc_api_Errno_api_Errno.rs)
theorem slices_ContainsFunc_api_Errno_api_Errno.entry (N : Nat) (rec : List Item → St → Option Bool) (x : (argTy slices_ContainsFunc_api_Errno_api_Errno.as).den) : seg tb (slices_ContainsFunc_api_Errno_api_Errno.G N) slices_ContainsFunc_api_Errno_api_Errno.A 0 rec slices_ContainsFunc_api_Errno_api_Errno.fin segFuel [.code (bodyOf Try.f32)] (initSt Try.f32 (encArgs slices_ContainsFunc_api_Errno_api_Errno.as x) []) = slices_ContainsFunc_api_Errno_api_Errno.e N x.1 := by kernel_rfl
theorem slices_ContainsFunc_api_Errno_api_Errno.ok (N : Nat) : DOk Try.prog tb 32 (slices_ContainsFunc_api_Errno_api_Errno.D N) := by
  refine ⟨Try.f32, Try.func32, by kernel_rfl, by kernel_rfl, fun x y h => ⟨slices_ContainsFunc_api_Errno_api_Errno.G N, slices_ContainsFunc_api_Errno_api_Errno.A, N, ?_, ?_⟩⟩
  · exact gamOf_ok tb_ok (Checked.mixed Try.checked) (by simp only [List.forall_mem_cons, List.not_mem_nil, false_implies, implies_true, and_true]; exact slices_IndexFunc_api_Errno_api_Errno.ok N)
  · rw [absFn_some (by kernel_rfl)]; exact (slices_ContainsFunc_api_Errno_api_Errno.entry N (run tb (slices_ContainsFunc_api_Errno_api_Errno.G N) slices_ContainsFunc_api_Errno_api_Errno.A 0 slices_ContainsFunc_api_Errno_api_Errno.fin N) x).trans h
/-! ### f11: gamehall/gamehallkeep1.fine -/
def gamehallkeep1_fine.as : List AK := [.d false (.slice 22 (.int .i64))]
def gamehallkeep1_fine.rs : List (Bool × Ty) := [(false, .bool)]
def gamehallkeep1_fine.D (N : Nat) : DFn := ⟨gamehallkeep1_fine.as, gamehallkeep1_fine.rs, fun x => gamehallkeep1_fine N x⟩
noncomputable def gamehallkeep1_fine.G (N : Nat) : Gam := gamOf [(32, slices_ContainsFunc_api_Errno_api_Errno.D N)]
def gamehallkeep1_fine.A : Nat → Option LoopAnn := fun _ => none
noncomputable def gamehallkeep1_fine.fin : St → Option Bool := resK tb Try.f11.results.toList (decRes gamehallkeep1_fine.rs)
theorem gamehallkeep1_fine.entry (N : Nat) (rec : List Item → St → Option Bool) (x : (argTy gamehallkeep1_fine.as).den) : seg tb (gamehallkeep1_fine.G N) gamehallkeep1_fine.A 0 rec gamehallkeep1_fine.fin segFuel [.code (bodyOf Try.f11)] (initSt Try.f11 (encArgs gamehallkeep1_fine.as x) []) = gamehallkeep1_fine.e N x := by kernel_rfl
theorem gamehallkeep1_fine.ok (N : Nat) : DOk Try.prog tb 11 (gamehallkeep1_fine.D N) := by
  refine ⟨Try.f11, Try.func11, by kernel_rfl, by kernel_rfl, fun x y h => ⟨gamehallkeep1_fine.G N, gamehallkeep1_fine.A, N, ?_, ?_⟩⟩
  · exact gamOf_ok tb_ok (Checked.mixed Try.checked) (by simp only [List.forall_mem_cons, List.not_mem_nil, false_implies, implies_true, and_true]; exact slices_ContainsFunc_api_Errno_api_Errno.ok N)
  · rw [absFn_some (by kernel_rfl)]; exact (gamehallkeep1_fine.entry N (run tb (gamehallkeep1_fine.G N) gamehallkeep1_fine.A 0 gamehallkeep1_fine.fin N) x).trans h
/-! ### f4: gamehall/gamehallkeep1.SymmGroup -/
def gamehallkeep1_SymmGroup.as : List AK := [.d false (.int .i64), .d false (.int .i64), .d false (.int .i64), .d false (.int .i64), .d false (.int .i64)]
def gamehallkeep1_SymmGroup.rs : List (Bool × Ty) := [(false, .bool)]
def gamehallkeep1_SymmGroup.D (N : Nat) : DFn := ⟨gamehallkeep1_SymmGroup.as, gamehallkeep1_SymmGroup.rs, fun x => gamehallkeep1_SymmGroup N x.1 x.2.1 x.2.2.1 x.2.2.2.1 x.2.2.2.2⟩
noncomputable def gamehallkeep1_SymmGroup.G (N : Nat) : Gam := gamOf [(12, symm_Compose.D N), (13, gamehallkeep1_moved.D N), (14, symm_Inverse.D N), (15, symm_Map.D N), (11, gamehallkeep1_fine.D N)]
def gamehallkeep1_SymmGroup.A : Nat → Option LoopAnn := fun _ => none
noncomputable def gamehallkeep1_SymmGroup.fin : St → Option Bool := resK tb Try.f4.results.toList (decRes gamehallkeep1_SymmGroup.rs)
theorem gamehallkeep1_SymmGroup.entry (N : Nat) (rec : List Item → St → Option Bool) (x : (argTy gamehallkeep1_SymmGroup.as).den) : seg tb (gamehallkeep1_SymmGroup.G N) gamehallkeep1_SymmGroup.A 0 rec gamehallkeep1_SymmGroup.fin segFuel [.code (bodyOf Try.f4)] (initSt Try.f4 (encArgs gamehallkeep1_SymmGroup.as x) []) = gamehallkeep1_SymmGroup.e N x.1 x.2.1 x.2.2.1 x.2.2.2.1 x.2.2.2.2 := by kernel_rfl
theorem gamehallkeep1_SymmGroup.ok (N : Nat) : DOk Try.prog tb 4 (gamehallkeep1_SymmGroup.D N) := by
  refine ⟨Try.f4, Try.func4, by kernel_rfl, by kernel_rfl, fun x y h => ⟨gamehallkeep1_SymmGroup.G N, gamehallkeep1_SymmGroup.A, N, ?_, ?_⟩⟩
  · exact gamOf_ok tb_ok (Checked.mixed Try.checked) (by simp only [List.forall_mem_cons, List.not_mem_nil, false_implies, implies_true, and_true]; exact ⟨symm_Compose.ok N, gamehallkeep1_moved.ok N, symm_Inverse.ok N, symm_Map.ok N, gamehallkeep1_fine.ok N⟩)
  · rw [absFn_some (by kernel_rfl)]; exact (gamehallkeep1_SymmGroup.entry N (run tb (gamehallkeep1_SymmGroup.G N) gamehallkeep1_SymmGroup.A 0 gamehallkeep1_SymmGroup.fin N) x).trans h
/-! ### f50: cmp.isNaN[int] -/
def cmp_isNaN_int.as : List AK := [.d false (.int .i64)]
def cmp_isNaN_int.rs : List (Bool × Ty) := [(false, .bool)]
def cmp_isNaN_int.D (N : Nat) : DFn := ⟨cmp_isNaN_int.as, cmp_isNaN_int.rs, fun x => cmp_isNaN_int N x⟩
noncomputable def cmp_isNaN_int.G (N : Nat) : Gam := gamOf []
def cmp_isNaN_int.A : Nat → Option LoopAnn := fun _ => none
noncomputable def cmp_isNaN_int.fin : St → Option Bool := resK tb Try.f50.results.toList (decRes cmp_isNaN_int.rs)
theorem cmp_isNaN_int.entry (N : Nat) (rec : List Item → St → Option Bool) (x : (argTy cmp_isNaN_int.as).den) : seg tb (cmp_isNaN_int.G N) cmp_isNaN_int.A 0 rec cmp_isNaN_int.fin segFuel [.code (bodyOf Try.f50)] (initSt Try.f50 (encArgs cmp_isNaN_int.as x) []) = cmp_isNaN_int.e N x := by kernel_rfl
theorem cmp_isNaN_int.ok (N : Nat) : DOk Try.prog tb 50 (cmp_isNaN_int.D N) := by
  refine ⟨Try.f50, Try.func50, by kernel_rfl, by kernel_rfl, fun x y h => ⟨cmp_isNaN_int.G N, cmp_isNaN_int.A, N, ?_, ?_⟩⟩
  · exact gamOf_ok tb_ok (Checked.mixed Try.checked) (fun p hp => nomatch hp)
  · rw [absFn_some (by kernel_rfl)]; exact (cmp_isNaN_int.entry N (run tb (cmp_isNaN_int.G N) cmp_isNaN_int.A 0 cmp_isNaN_int.fin N) x).trans h
/-! ### f48: cmp.Compare[int] -/
def cmp_Compare_int.as : List AK := [.d false (.int .i64), .d false (.int .i64)]
def cmp_Compare_int.rs : List (Bool × Ty) := [(false, (.int .i64))]
def cmp_Compare_int.D (N : Nat) : DFn := ⟨cmp_Compare_int.as, cmp_Compare_int.rs, fun x => cmp_Compare_int N x.1 x.2⟩
noncomputable def cmp_Compare_int.G (N : Nat) : Gam := gamOf [(50, cmp_isNaN_int.D N)]
def cmp_Compare_int.A : Nat → Option LoopAnn := fun _ => none
noncomputable def cmp_Compare_int.fin : St → Option Int := resK tb Try.f48.results.toList (decRes cmp_Compare_int.rs)
theorem cmp_Compare_int.entry (N : Nat) (rec : List Item → St → Option Int) (x : (argTy cmp_Compare_int.as).den) : seg tb (cmp_Compare_int.G N) cmp_Compare_int.A 0 rec cmp_Compare_int.fin segFuel [.code (bodyOf Try.f48)] (initSt Try.f48 (encArgs cmp_Compare_int.as x) []) = cmp_Compare_int.e N x.1 x.2 := by kernel_rfl
theorem cmp_Compare_int.ok (N : Nat) : DOk Try.prog tb 48 (cmp_Compare_int.D N) := by
  refine ⟨Try.f48, Try.func48, by kernel_rfl, by kernel_rfl, fun x y h => ⟨cmp_Compare_int.G N, cmp_Compare_int.A, N, ?_, ?_⟩⟩
  · exact gamOf_ok tb_ok (Checked.mixed Try.checked) (by simp only [List.forall_mem_cons, List.not_mem_nil, false_implies, implies_true, and_true]; exact cmp_isNaN_int.ok N)
  · rw [absFn_some (by kernel_rfl)]; exact (cmp_Compare_int.entry N (run tb (cmp_Compare_int.G N) cmp_Compare_int.A 0 cmp_Compare_int.fin N) x).trans h
/-! ### f39: slices.Compare[[]int,int] -/
def slices_Compare_int_int.as : List AK := [.d false (.slice 3 (.int .i64)), .d false (.slice 3 (.int .i64))]
def slices_Compare_int_int.rs : List (Bool × Ty) := [(false, (.int .i64))]
def slices_Compare_int_int.D (N : Nat) : DFn := ⟨slices_Compare_int_int.as, slices_Compare_int_int.rs, fun x => slices_Compare_int_int N x.1 x.2⟩
noncomputable def slices_Compare_int_int.G (N : Nat) : Gam := gamOf [(48, cmp_Compare_int.D N)]
def slices_Compare_int_int.A : Nat → Option LoopAnn := fun k => bif Nat.beq k 0 then some ⟨[0, 1, 9, 10, 11], [], [], [], [], 0⟩ else none
noncomputable def slices_Compare_int_int.fin : St → Option Int := resK tb Try.f39.results.toList (decRes slices_Compare_int_int.rs)
noncomputable def slices_Compare_int_int.k0 : List Item := stackAt [.r, .l, .r, .b] (bodyOf Try.f39) []
def slices_Compare_int_int.st0 (s1_ : (List Int)) (s2_ : (List Int)) (t11_ : Int) : St := ⟨[.one (.fro 3 (.int .i64) s1_), .one (.fro 3 (.int .i64) s2_)] ++ List.replicate 7 (.one .any) ++ [.one (.fro 3 (.int .i64) s1_), .one (.int .i64 (s1_.length : Int)), .one (.int .i64 t11_)] ++ List.replicate 24 (.one .any), []⟩
theorem slices_Compare_int_int.step0 (N : Nat) (rec : List Item → St → Option Int) (s1_ : (List Int)) (s2_ : (List Int)) (t11_ : Int) : seg tb (slices_Compare_int_int.G N) slices_Compare_int_int.A 0 rec slices_Compare_int_int.fin segFuel (loopBody slices_Compare_int_int.k0) (slices_Compare_int_int.st0 s1_ s2_ t11_) = slices_Compare_int_int.s0 N s1_ s2_ (fun t11_ => rec slices_Compare_int_int.k0 (slices_Compare_int_int.st0 s1_ s2_ t11_)) t11_ := by kernel_rfl
theorem slices_Compare_int_int.entry (N : Nat) (rec : List Item → St → Option Int) (x : (argTy slices_Compare_int_int.as).den) : seg tb (slices_Compare_int_int.G N) slices_Compare_int_int.A 0 rec slices_Compare_int_int.fin segFuel [.code (bodyOf Try.f39)] (initSt Try.f39 (encArgs slices_Compare_int_int.as x) []) = slices_Compare_int_int.e N (fun t11_ => rec slices_Compare_int_int.k0 (slices_Compare_int_int.st0 x.1 x.2 t11_)) x.1 x.2 := by kernel_rfl
theorem slices_Compare_int_int.runs (N : Nat) (s1_ : (List Int)) (s2_ : (List Int)) : ∀ n, (∀ (t11_ : Int), run tb (slices_Compare_int_int.G N) slices_Compare_int_int.A 0 slices_Compare_int_int.fin n slices_Compare_int_int.k0 (slices_Compare_int_int.st0 s1_ s2_ t11_) = slices_Compare_int_int.l0 N s1_ s2_ n t11_)
  | 0 => fun _ => rfl
  | n + 1 => by
    have h0 := slices_Compare_int_int.runs N s1_ s2_ n
    have e0 : (fun (t11_ : Int) => run tb (slices_Compare_int_int.G N) slices_Compare_int_int.A 0 slices_Compare_int_int.fin n slices_Compare_int_int.k0 (slices_Compare_int_int.st0 s1_ s2_ t11_)) = slices_Compare_int_int.l0 N s1_ s2_ n := by funext t11_; exact h0 t11_
    have g0 : (∀ (t11_ : Int), run tb (slices_Compare_int_int.G N) slices_Compare_int_int.A 0 slices_Compare_int_int.fin (n + 1) slices_Compare_int_int.k0 (slices_Compare_int_int.st0 s1_ s2_ t11_) = slices_Compare_int_int.l0 N s1_ s2_ (n + 1) t11_) := by
      intro t11_
      exact (run_succ (by kernel_rfl)).trans ((slices_Compare_int_int.step0 N _ s1_ s2_ t11_).trans ((congrArg (fun r0 => slices_Compare_int_int.s0 N s1_ s2_ r0 t11_) e0).trans (slices_Compare_int_int.l0_s N s1_ s2_ n t11_).symm))
    exact g0
theorem slices_Compare_int_int.ok (N : Nat) : DOk Try.prog tb 39 (slices_Compare_int_int.D N) := by
  refine ⟨Try.f39, Try.func39, by kernel_rfl, by kernel_rfl, fun x y h => ⟨slices_Compare_int_int.G N, slices_Compare_int_int.A, N, ?_, ?_⟩⟩
  · exact gamOf_ok tb_ok (Checked.mixed Try.checked) (by simp only [List.forall_mem_cons, List.not_mem_nil, false_implies, implies_true, and_true]; exact cmp_Compare_int.ok N)
  · rw [absFn_some (by kernel_rfl)]
    refine (slices_Compare_int_int.entry N (run tb (slices_Compare_int_int.G N) slices_Compare_int_int.A 0 slices_Compare_int_int.fin N) x).trans ?_
    have e0 : (fun (t11_ : Int) => run tb (slices_Compare_int_int.G N) slices_Compare_int_int.A 0 slices_Compare_int_int.fin N slices_Compare_int_int.k0 (slices_Compare_int_int.st0 x.1 x.2 t11_)) = slices_Compare_int_int.l0 N x.1 x.2 N := by funext t11_; exact (slices_Compare_int_int.runs N x.1 x.2 N) t11_
    have h' : (slices_Compare_int_int.D N).f x = slices_Compare_int_int.e N (slices_Compare_int_int.l0 N x.1 x.2 N) x.1 x.2 := by kernel_rfl
    exact (congrArg (fun r0 => slices_Compare_int_int.e N r0 x.1 x.2) e0).trans (h'.symm.trans h)
/-! ### f21: gamehall/symm.Canon -/
def symm_Canon.as : List AK := [.d false (.int .i64), .d false (.int .i64), .d false (.slice 3 (.int .i64))]
def symm_Canon.rs : List (Bool × Ty) := [(false, (.slice 3 (.int .i64))), (false, (.int .i64)), (false, (.int .i64))]
def symm_Canon.D (N : Nat) : DFn := ⟨symm_Canon.as, symm_Canon.rs, fun x => symm_Canon N x.1 x.2.1 x.2.2⟩
noncomputable def symm_Canon.G (N : Nat) : Gam := gamOf [(23, symm_Apply.D N), (30, symm_many.D N), (39, slices_Compare_int_int.D N)]
def symm_Canon.A : Nat → Option LoopAnn := fun k => bif Nat.beq k 0 then some ⟨[0, 1, 2, 9, 11, 12], [], [], [(false, 9, 0, 0)], [], 1⟩ else none
noncomputable def symm_Canon.fin : St → Option ((List Int) × (Int × Int)) := resK tb Try.f21.results.toList (decRes symm_Canon.rs)
noncomputable def symm_Canon.k0 : List Item := stackAt [.r, .r, .r, .r, .l, .r, .b] (bodyOf Try.f21) []
def symm_Canon.st0 (width : Int) (height : Int) (cells : (List Int)) (by_ : Int) (s_ : Int) (best : (List Int)) : St := ⟨[.one (.int .i64 width), .one (.int .i64 height), .one (.fro 3 (.int .i64) cells)] ++ List.replicate 6 (.one .any) ++ [.one (.own 0), .one .any, .one (.int .i64 by_), .one (.int .i64 s_)] ++ List.replicate 35 (.one .any), [.row 3 (.int .i64) best]⟩
theorem symm_Canon.step0 (N : Nat) (rec : List Item → St → Option ((List Int) × (Int × Int))) (width : Int) (height : Int) (cells : (List Int)) (by_ : Int) (s_ : Int) (best : (List Int)) : seg tb (symm_Canon.G N) symm_Canon.A 0 rec symm_Canon.fin segFuel (loopBody symm_Canon.k0) (symm_Canon.st0 width height cells by_ s_ best) = symm_Canon.s0 N width height cells (fun by_ s_ best => rec symm_Canon.k0 (symm_Canon.st0 width height cells by_ s_ best)) by_ s_ best := by kernel_rfl
theorem symm_Canon.entry (N : Nat) (rec : List Item → St → Option ((List Int) × (Int × Int))) (x : (argTy symm_Canon.as).den) : seg tb (symm_Canon.G N) symm_Canon.A 0 rec symm_Canon.fin segFuel [.code (bodyOf Try.f21)] (initSt Try.f21 (encArgs symm_Canon.as x) []) = symm_Canon.e N (fun by_ s_ best => rec symm_Canon.k0 (symm_Canon.st0 x.1 x.2.1 x.2.2 by_ s_ best)) x.1 x.2.1 x.2.2 := by kernel_rfl
theorem symm_Canon.runs (N : Nat) (width : Int) (height : Int) (cells : (List Int)) : ∀ n, (∀ (by_ : Int) (s_ : Int) (best : (List Int)), run tb (symm_Canon.G N) symm_Canon.A 0 symm_Canon.fin n symm_Canon.k0 (symm_Canon.st0 width height cells by_ s_ best) = symm_Canon.l0 N width height cells n by_ s_ best)
  | 0 => fun _ _ _ => rfl
  | n + 1 => by
    have h0 := symm_Canon.runs N width height cells n
    have e0 : (fun (by_ : Int) (s_ : Int) (best : (List Int)) => run tb (symm_Canon.G N) symm_Canon.A 0 symm_Canon.fin n symm_Canon.k0 (symm_Canon.st0 width height cells by_ s_ best)) = symm_Canon.l0 N width height cells n := by funext by_ s_ best; exact h0 by_ s_ best
    have g0 : (∀ (by_ : Int) (s_ : Int) (best : (List Int)), run tb (symm_Canon.G N) symm_Canon.A 0 symm_Canon.fin (n + 1) symm_Canon.k0 (symm_Canon.st0 width height cells by_ s_ best) = symm_Canon.l0 N width height cells (n + 1) by_ s_ best) := by
      intro by_ s_ best
      exact (run_succ (by kernel_rfl)).trans ((symm_Canon.step0 N _ width height cells by_ s_ best).trans ((congrArg (fun r0 => symm_Canon.s0 N width height cells r0 by_ s_ best) e0).trans (symm_Canon.l0_s N width height cells n by_ s_ best).symm))
    exact g0
theorem symm_Canon.ok (N : Nat) : DOk Try.prog tb 21 (symm_Canon.D N) := by
  refine ⟨Try.f21, Try.func21, by kernel_rfl, by kernel_rfl, fun x y h => ⟨symm_Canon.G N, symm_Canon.A, N, ?_, ?_⟩⟩
  · exact gamOf_ok tb_ok (Checked.mixed Try.checked) (by simp only [List.forall_mem_cons, List.not_mem_nil, false_implies, implies_true, and_true]; exact ⟨symm_Apply.ok N, symm_many.ok N, slices_Compare_int_int.ok N⟩)
  · rw [absFn_some (by kernel_rfl)]
    refine (symm_Canon.entry N (run tb (symm_Canon.G N) symm_Canon.A 0 symm_Canon.fin N) x).trans ?_
    have e0 : (fun (by_ : Int) (s_ : Int) (best : (List Int)) => run tb (symm_Canon.G N) symm_Canon.A 0 symm_Canon.fin N symm_Canon.k0 (symm_Canon.st0 x.1 x.2.1 x.2.2 by_ s_ best)) = symm_Canon.l0 N x.1 x.2.1 x.2.2 N := by funext by_ s_ best; exact (symm_Canon.runs N x.1 x.2.1 x.2.2 N) by_ s_ best
    have h' : (symm_Canon.D N).f x = symm_Canon.e N (symm_Canon.l0 N x.1 x.2.1 x.2.2 N) x.1 x.2.1 x.2.2 := by kernel_rfl
    exact (congrArg (fun r0 => symm_Canon.e N r0 x.1 x.2.1 x.2.2) e0).trans (h'.symm.trans h)
/-! ### f7: gamehall/gamehallkeep1.SymmCanonical -/
def gamehallkeep1_SymmCanonical.as : List AK := [.d false (.int .i64), .d false (.int .i64), .d false (.int .i64), .d false (.slice 3 (.int .i64))]
def gamehallkeep1_SymmCanonical.rs : List (Bool × Ty) := [(false, .bool)]
def gamehallkeep1_SymmCanonical.D (N : Nat) : DFn := ⟨gamehallkeep1_SymmCanonical.as, gamehallkeep1_SymmCanonical.rs, fun x => gamehallkeep1_SymmCanonical N x.1 x.2.1 x.2.2.1 x.2.2.2⟩
noncomputable def gamehallkeep1_SymmCanonical.G (N : Nat) : Gam := gamOf [(21, symm_Canon.D N), (22, slices_Equal_int_int.D N), (13, gamehallkeep1_moved.D N), (23, symm_Apply.D N), (11, gamehallkeep1_fine.D N)]
def gamehallkeep1_SymmCanonical.A : Nat → Option LoopAnn := fun _ => none
noncomputable def gamehallkeep1_SymmCanonical.fin : St → Option Bool := resK tb Try.f7.results.toList (decRes gamehallkeep1_SymmCanonical.rs)
theorem gamehallkeep1_SymmCanonical.entry (N : Nat) (rec : List Item → St → Option Bool) (x : (argTy gamehallkeep1_SymmCanonical.as).den) : seg tb (gamehallkeep1_SymmCanonical.G N) gamehallkeep1_SymmCanonical.A 0 rec gamehallkeep1_SymmCanonical.fin segFuel [.code (bodyOf Try.f7)] (initSt Try.f7 (encArgs gamehallkeep1_SymmCanonical.as x) []) = gamehallkeep1_SymmCanonical.e N x.1 x.2.1 x.2.2.1 x.2.2.2 := by kernel_rfl
theorem gamehallkeep1_SymmCanonical.ok (N : Nat) : DOk Try.prog tb 7 (gamehallkeep1_SymmCanonical.D N) := by
  refine ⟨Try.f7, Try.func7, by kernel_rfl, by kernel_rfl, fun x y h => ⟨gamehallkeep1_SymmCanonical.G N, gamehallkeep1_SymmCanonical.A, N, ?_, ?_⟩⟩
  · exact gamOf_ok tb_ok (Checked.mixed Try.checked) (by simp only [List.forall_mem_cons, List.not_mem_nil, false_implies, implies_true, and_true]; exact ⟨symm_Canon.ok N, slices_Equal_int_int.ok N, gamehallkeep1_moved.ok N, symm_Apply.ok N, gamehallkeep1_fine.ok N⟩)
  · rw [absFn_some (by kernel_rfl)]; exact (gamehallkeep1_SymmCanonical.entry N (run tb (gamehallkeep1_SymmCanonical.G N) gamehallkeep1_SymmCanonical.A 0 gamehallkeep1_SymmCanonical.fin N) x).trans h
/-! ### f26: gamehall/gamehallkeep1.three -/
def gamehallkeep1_three.as : List AK := []
def gamehallkeep1_three.rs : List (Bool × Ty) := [(true, (.prod .str (.prod (.int .i64) (.prod (.int .i64) (.prod (.slice 92 (.prod (.int .u8) (.prod (.int .i64) (.prod (.int .i64) (.slice 113 (.prod (.int .i64) (.prod (.int .i64) (.prod (.int .i64) (.int .i64))))))))) (.prod (.slice 3 (.int .i64)) (.prod .bool (.prod .bool (.prod (.slice 94 (.prod (.int .i64) (.prod (.int .i64) (.prod (.int .i64) .bool)))) (.prod (.int .i64) (.prod (.int .i64) (.int .i64))))))))))))]
def gamehallkeep1_three.D (N : Nat) : DFn := ⟨gamehallkeep1_three.as, gamehallkeep1_three.rs, fun x => gamehallkeep1_three N⟩
noncomputable def gamehallkeep1_three.G (N : Nat) : Gam := gamOf []
def gamehallkeep1_three.A : Nat → Option LoopAnn := fun _ => none
noncomputable def gamehallkeep1_three.fin : St → Option (ByteArray × (Int × (Int × ((List (Int × (Int × (Int × (List (Int × (Int × (Int × Int)))))))) × ((List Int) × (Bool × (Bool × ((List (Int × (Int × (Int × Bool)))) × (Int × (Int × Int)))))))))) := resK tb Try.f26.results.toList (decRes gamehallkeep1_three.rs)
theorem gamehallkeep1_three.entry (N : Nat) (rec : List Item → St → Option (ByteArray × (Int × (Int × ((List (Int × (Int × (Int × (List (Int × (Int × (Int × Int)))))))) × ((List Int) × (Bool × (Bool × ((List (Int × (Int × (Int × Bool)))) × (Int × (Int × Int))))))))))) (x : (argTy gamehallkeep1_three.as).den) : seg tb (gamehallkeep1_three.G N) gamehallkeep1_three.A 0 rec gamehallkeep1_three.fin segFuel [.code (bodyOf Try.f26)] (initSt Try.f26 (encArgs gamehallkeep1_three.as x) []) = gamehallkeep1_three.e N := by kernel_rfl
theorem gamehallkeep1_three.ok (N : Nat) : DOk Try.prog tb 26 (gamehallkeep1_three.D N) := by
  refine ⟨Try.f26, Try.func26, by kernel_rfl, by kernel_rfl, fun x y h => ⟨gamehallkeep1_three.G N, gamehallkeep1_three.A, N, ?_, ?_⟩⟩
  · exact gamOf_ok tb_ok (Checked.mixed Try.checked) (fun p hp => nomatch hp)
  · rw [absFn_some (by kernel_rfl)]; exact (gamehallkeep1_three.entry N (run tb (gamehallkeep1_three.G N) gamehallkeep1_three.A 0 gamehallkeep1_three.fin N) x).trans h
/-! ### f43: gamehall/rules.Name -/
def rules_Name.as : List AK := [.d false .str]
def rules_Name.rs : List (Bool × Ty) := [(false, .bool)]
def rules_Name.D (N : Nat) : DFn := ⟨rules_Name.as, rules_Name.rs, fun x => rules_Name N x⟩
noncomputable def rules_Name.G (N : Nat) : Gam := gamOf []
def rules_Name.A : Nat → Option LoopAnn := fun k => bif Nat.beq k 0 then some ⟨[0, 22, 23], [], [], [], [], 0⟩ else none
noncomputable def rules_Name.fin : St → Option Bool := resK tb Try.f43.results.toList (decRes rules_Name.rs)
noncomputable def rules_Name.k0 : List Item := stackAt [.r, .r, .l, .r, .b] (bodyOf Try.f43) []
def rules_Name.st0 (s_ : ByteArray) (t23_ : Int) : St := ⟨[.one (.str s_)] ++ List.replicate 21 (.one .any) ++ [.one (.int .i64 (s_.size : Int)), .one (.int .i64 t23_)] ++ List.replicate 25 (.one .any), []⟩
theorem rules_Name.step0 (N : Nat) (rec : List Item → St → Option Bool) (s_ : ByteArray) (t23_ : Int) : seg tb (rules_Name.G N) rules_Name.A 0 rec rules_Name.fin segFuel (loopBody rules_Name.k0) (rules_Name.st0 s_ t23_) = rules_Name.s0 N s_ (fun t23_ => rec rules_Name.k0 (rules_Name.st0 s_ t23_)) t23_ := by kernel_rfl
theorem rules_Name.entry (N : Nat) (rec : List Item → St → Option Bool) (x : (argTy rules_Name.as).den) : seg tb (rules_Name.G N) rules_Name.A 0 rec rules_Name.fin segFuel [.code (bodyOf Try.f43)] (initSt Try.f43 (encArgs rules_Name.as x) []) = rules_Name.e N (fun t23_ => rec rules_Name.k0 (rules_Name.st0 x t23_)) x := by kernel_rfl
theorem rules_Name.runs (N : Nat) (s_ : ByteArray) : ∀ n, (∀ (t23_ : Int), run tb (rules_Name.G N) rules_Name.A 0 rules_Name.fin n rules_Name.k0 (rules_Name.st0 s_ t23_) = rules_Name.l0 N s_ n t23_)
  | 0 => fun _ => rfl
  | n + 1 => by
    have h0 := rules_Name.runs N s_ n
    have e0 : (fun (t23_ : Int) => run tb (rules_Name.G N) rules_Name.A 0 rules_Name.fin n rules_Name.k0 (rules_Name.st0 s_ t23_)) = rules_Name.l0 N s_ n := by funext t23_; exact h0 t23_
    have g0 : (∀ (t23_ : Int), run tb (rules_Name.G N) rules_Name.A 0 rules_Name.fin (n + 1) rules_Name.k0 (rules_Name.st0 s_ t23_) = rules_Name.l0 N s_ (n + 1) t23_) := by
      intro t23_
      exact (run_succ (by kernel_rfl)).trans ((rules_Name.step0 N _ s_ t23_).trans ((congrArg (fun r0 => rules_Name.s0 N s_ r0 t23_) e0).trans (rules_Name.l0_s N s_ n t23_).symm))
    exact g0
theorem rules_Name.ok (N : Nat) : DOk Try.prog tb 43 (rules_Name.D N) := by
  refine ⟨Try.f43, Try.func43, by kernel_rfl, by kernel_rfl, fun x y h => ⟨rules_Name.G N, rules_Name.A, N, ?_, ?_⟩⟩
  · exact gamOf_ok tb_ok (Checked.mixed Try.checked) (fun p hp => nomatch hp)
  · rw [absFn_some (by kernel_rfl)]
    refine (rules_Name.entry N (run tb (rules_Name.G N) rules_Name.A 0 rules_Name.fin N) x).trans ?_
    have e0 : (fun (t23_ : Int) => run tb (rules_Name.G N) rules_Name.A 0 rules_Name.fin N rules_Name.k0 (rules_Name.st0 x t23_)) = rules_Name.l0 N x N := by funext t23_; exact (rules_Name.runs N x N) t23_
    have h' : (rules_Name.D N).f x = rules_Name.e N (rules_Name.l0 N x N) x := by kernel_rfl
    exact (congrArg (fun r0 => rules_Name.e N r0 x) e0).trans (h'.symm.trans h)
/-! ### f49: gamehall/rules.way -/
def rules_way.as : List AK := [.d true (.prod (.int .i64) (.prod (.int .i64) (.prod (.int .i64) (.int .i64))))]
def rules_way.rs : List (Bool × Ty) := [(false, (.int .i64))]
def rules_way.D (N : Nat) : DFn := ⟨rules_way.as, rules_way.rs, fun x => rules_way N x.1 x.2.1 x.2.2.1 x.2.2.2⟩
noncomputable def rules_way.G (N : Nat) : Gam := gamOf []
def rules_way.A : Nat → Option LoopAnn := fun _ => none
noncomputable def rules_way.fin : St → Option Int := resK tb Try.f49.results.toList (decRes rules_way.rs)
theorem rules_way.entry (N : Nat) (rec : List Item → St → Option Int) (x : (argTy rules_way.as).den) : seg tb (rules_way.G N) rules_way.A 0 rec rules_way.fin segFuel [.code (bodyOf Try.f49)] (initSt Try.f49 (encArgs rules_way.as x) []) = rules_way.e N x.1 x.2.1 x.2.2.1 x.2.2.2 := by kernel_rfl
theorem rules_way.ok (N : Nat) : DOk Try.prog tb 49 (rules_way.D N) := by
  refine ⟨Try.f49, Try.func49, by kernel_rfl, by kernel_rfl, fun x y h => ⟨rules_way.G N, rules_way.A, N, ?_, ?_⟩⟩
  · exact gamOf_ok tb_ok (Checked.mixed Try.checked) (fun p hp => nomatch hp)
  · rw [absFn_some (by kernel_rfl)]; exact (rules_way.entry N (run tb (rules_way.G N) rules_way.A 0 rules_way.fin N) x).trans h
/-! ### f44: gamehall/rules.pieces -/
def rules_pieces.as : List AK := [.d false (.slice 92 (.prod (.int .u8) (.prod (.int .i64) (.prod (.int .i64) (.slice 113 (.prod (.int .i64) (.prod (.int .i64) (.prod (.int .i64) (.int .i64)))))))))]
def rules_pieces.rs : List (Bool × Ty) := [(false, (.int .i64))]
def rules_pieces.D (N : Nat) : DFn := ⟨rules_pieces.as, rules_pieces.rs, fun x => rules_pieces N x⟩
noncomputable def rules_pieces.G (N : Nat) : Gam := gamOf [(49, rules_way.D N)]
def rules_pieces.A : Nat → Option LoopAnn := fun k => bif Nat.beq k 1 then some ⟨[0, 18, 19, 20], [], [], [], [], 0⟩ else bif Nat.beq k 3 then some ⟨[0, 4, 18, 19, 20, 35, 36, 37], [], [], [], [], 1⟩ else bif Nat.beq k 5 then some ⟨[0, 18, 19, 20, 72, 73, 74], [], [], [], [], 0⟩ else none
noncomputable def rules_pieces.fin : St → Option Int := resK tb Try.f44.results.toList (decRes rules_pieces.rs)
noncomputable def rules_pieces.k0 : List Item := stackAt [.r, .r, .l, .r, .b] (bodyOf Try.f44) []
def rules_pieces.st0 (l_ : (List (Int × (Int × (Int × (List (Int × (Int × (Int × Int))))))))) (t20_ : Int) : St := ⟨[.one (.fro 92 (.prod (.int .u8) (.prod (.int .i64) (.prod (.int .i64) (.slice 113 (.prod (.int .i64) (.prod (.int .i64) (.prod (.int .i64) (.int .i64)))))))) l_)] ++ List.replicate 17 (.one .any) ++ [.one (.fro 92 (.prod (.int .u8) (.prod (.int .i64) (.prod (.int .i64) (.slice 113 (.prod (.int .i64) (.prod (.int .i64) (.prod (.int .i64) (.int .i64)))))))) l_), .one (.int .i64 (l_.length : Int)), .one (.int .i64 t20_)] ++ List.replicate 64 (.one .any), []⟩
noncomputable def rules_pieces.k1 : List Item := stackAt [.r, .r, .l, .r, .b, .w, .r, .r, .l, .b, .r, .r, .l, .r, .b] (bodyOf Try.f44) []
def rules_pieces.st1 (l_ : (List (Int × (Int × (Int × (List (Int × (Int × (Int × Int))))))))) (t20_ : Int) (t35_ : (List (Int × (Int × (Int × (List (Int × (Int × (Int × Int))))))))) (t36_ : Int) (t37_ : Int) (p_ : Int) (p_2 : Int) (p_3 : Int) (p_4 : (List (Int × (Int × (Int × Int))))) : St := ⟨[.one (.fro 92 (.prod (.int .u8) (.prod (.int .i64) (.prod (.int .i64) (.slice 113 (.prod (.int .i64) (.prod (.int .i64) (.prod (.int .i64) (.int .i64)))))))) l_)] ++ List.replicate 3 (.one .any) ++ [.one (.ptr 0 0)] ++ List.replicate 13 (.one .any) ++ [.one (.fro 92 (.prod (.int .u8) (.prod (.int .i64) (.prod (.int .i64) (.slice 113 (.prod (.int .i64) (.prod (.int .i64) (.prod (.int .i64) (.int .i64)))))))) l_), .one (.int .i64 (l_.length : Int)), .one (.int .i64 t20_)] ++ List.replicate 14 (.one .any) ++ [.one (.fro 92 (.prod (.int .u8) (.prod (.int .i64) (.prod (.int .i64) (.slice 113 (.prod (.int .i64) (.prod (.int .i64) (.prod (.int .i64) (.int .i64)))))))) t35_), .one (.int .i64 t36_), .one (.int .i64 t37_)] ++ List.replicate 47 (.one .any), [.var 92 [.int .u8 p_, .int .i64 p_2, .int .i64 p_3, .fro 113 (.prod (.int .i64) (.prod (.int .i64) (.prod (.int .i64) (.int .i64)))) p_4]]⟩
noncomputable def rules_pieces.k2 : List Item := stackAt [.r, .r, .l, .r, .b, .w, .r, .r, .l, .b, .r, .r, .r, .r, .r, .r, .b] (bodyOf Try.f44) []
def rules_pieces.st2 (l_ : (List (Int × (Int × (Int × (List (Int × (Int × (Int × Int))))))))) (t20_ : Int) (t72_ : (List (Int × (Int × (Int × Int))))) (t73_ : Int) (t74_ : Int) : St := ⟨[.one (.fro 92 (.prod (.int .u8) (.prod (.int .i64) (.prod (.int .i64) (.slice 113 (.prod (.int .i64) (.prod (.int .i64) (.prod (.int .i64) (.int .i64)))))))) l_)] ++ List.replicate 17 (.one .any) ++ [.one (.fro 92 (.prod (.int .u8) (.prod (.int .i64) (.prod (.int .i64) (.slice 113 (.prod (.int .i64) (.prod (.int .i64) (.prod (.int .i64) (.int .i64)))))))) l_), .one (.int .i64 (l_.length : Int)), .one (.int .i64 t20_)] ++ List.replicate 51 (.one .any) ++ [.one (.fro 113 (.prod (.int .i64) (.prod (.int .i64) (.prod (.int .i64) (.int .i64)))) t72_), .one (.int .i64 t73_), .one (.int .i64 t74_)] ++ List.replicate 10 (.one .any), []⟩
theorem rules_pieces.step0 (N : Nat) (rec : List Item → St → Option Int) (l_ : (List (Int × (Int × (Int × (List (Int × (Int × (Int × Int))))))))) (t20_ : Int) : seg tb (rules_pieces.G N) rules_pieces.A 0 rec rules_pieces.fin segFuel (loopBody rules_pieces.k0) (rules_pieces.st0 l_ t20_) = rules_pieces.s0 N l_ (fun t20_ => rec rules_pieces.k0 (rules_pieces.st0 l_ t20_)) (fun t20_ t35_ t36_ t37_ p_ p_2 p_3 p_4 => rec rules_pieces.k1 (rules_pieces.st1 l_ t20_ t35_ t36_ t37_ p_ p_2 p_3 p_4)) (fun t20_ t72_ t73_ t74_ => rec rules_pieces.k2 (rules_pieces.st2 l_ t20_ t72_ t73_ t74_)) t20_ := by kernel_rfl
theorem rules_pieces.step1 (N : Nat) (rec : List Item → St → Option Int) (l_ : (List (Int × (Int × (Int × (List (Int × (Int × (Int × Int))))))))) (t20_ : Int) (t35_ : (List (Int × (Int × (Int × (List (Int × (Int × (Int × Int))))))))) (t36_ : Int) (t37_ : Int) (p_ : Int) (p_2 : Int) (p_3 : Int) (p_4 : (List (Int × (Int × (Int × Int))))) : seg tb (rules_pieces.G N) rules_pieces.A 0 rec rules_pieces.fin segFuel (loopBody rules_pieces.k1) (rules_pieces.st1 l_ t20_ t35_ t36_ t37_ p_ p_2 p_3 p_4) = rules_pieces.s1 N l_ (fun t20_ => rec rules_pieces.k0 (rules_pieces.st0 l_ t20_)) (fun t20_ t35_ t36_ t37_ p_ p_2 p_3 p_4 => rec rules_pieces.k1 (rules_pieces.st1 l_ t20_ t35_ t36_ t37_ p_ p_2 p_3 p_4)) (fun t20_ t72_ t73_ t74_ => rec rules_pieces.k2 (rules_pieces.st2 l_ t20_ t72_ t73_ t74_)) t20_ t35_ t36_ t37_ p_ p_2 p_3 p_4 := by kernel_rfl
theorem rules_pieces.step2 (N : Nat) (rec : List Item → St → Option Int) (l_ : (List (Int × (Int × (Int × (List (Int × (Int × (Int × Int))))))))) (t20_ : Int) (t72_ : (List (Int × (Int × (Int × Int))))) (t73_ : Int) (t74_ : Int) : seg tb (rules_pieces.G N) rules_pieces.A 0 rec rules_pieces.fin segFuel (loopBody rules_pieces.k2) (rules_pieces.st2 l_ t20_ t72_ t73_ t74_) = rules_pieces.s2 N l_ (fun t20_ => rec rules_pieces.k0 (rules_pieces.st0 l_ t20_)) (fun t20_ t35_ t36_ t37_ p_ p_2 p_3 p_4 => rec rules_pieces.k1 (rules_pieces.st1 l_ t20_ t35_ t36_ t37_ p_ p_2 p_3 p_4)) (fun t20_ t72_ t73_ t74_ => rec rules_pieces.k2 (rules_pieces.st2 l_ t20_ t72_ t73_ t74_)) t20_ t72_ t73_ t74_ := by kernel_rfl
theorem rules_pieces.entry (N : Nat) (rec : List Item → St → Option Int) (x : (argTy rules_pieces.as).den) : seg tb (rules_pieces.G N) rules_pieces.A 0 rec rules_pieces.fin segFuel [.code (bodyOf Try.f44)] (initSt Try.f44 (encArgs rules_pieces.as x) []) = rules_pieces.e N (fun t20_ => rec rules_pieces.k0 (rules_pieces.st0 x t20_)) (fun t20_ t35_ t36_ t37_ p_ p_2 p_3 p_4 => rec rules_pieces.k1 (rules_pieces.st1 x t20_ t35_ t36_ t37_ p_ p_2 p_3 p_4)) (fun t20_ t72_ t73_ t74_ => rec rules_pieces.k2 (rules_pieces.st2 x t20_ t72_ t73_ t74_)) x := by kernel_rfl
theorem rules_pieces.runs (N : Nat) (l_ : (List (Int × (Int × (Int × (List (Int × (Int × (Int × Int))))))))) : ∀ n, (∀ (t20_ : Int), run tb (rules_pieces.G N) rules_pieces.A 0 rules_pieces.fin n rules_pieces.k0 (rules_pieces.st0 l_ t20_) = rules_pieces.l0 N l_ n t20_) ∧ (∀ (t20_ : Int) (t35_ : (List (Int × (Int × (Int × (List (Int × (Int × (Int × Int))))))))) (t36_ : Int) (t37_ : Int) (p_ : Int) (p_2 : Int) (p_3 : Int) (p_4 : (List (Int × (Int × (Int × Int))))), run tb (rules_pieces.G N) rules_pieces.A 0 rules_pieces.fin n rules_pieces.k1 (rules_pieces.st1 l_ t20_ t35_ t36_ t37_ p_ p_2 p_3 p_4) = rules_pieces.l1 N l_ n t20_ t35_ t36_ t37_ p_ p_2 p_3 p_4) ∧ (∀ (t20_ : Int) (t72_ : (List (Int × (Int × (Int × Int))))) (t73_ : Int) (t74_ : Int), run tb (rules_pieces.G N) rules_pieces.A 0 rules_pieces.fin n rules_pieces.k2 (rules_pieces.st2 l_ t20_ t72_ t73_ t74_) = rules_pieces.l2 N l_ n t20_ t72_ t73_ t74_)
  | 0 => ⟨fun _ => rfl, fun _ _ _ _ _ _ _ _ => rfl, fun _ _ _ _ => rfl⟩
  | n + 1 => by
    obtain ⟨h0, h1, h2⟩ := rules_pieces.runs N l_ n
    have e0 : (fun (t20_ : Int) => run tb (rules_pieces.G N) rules_pieces.A 0 rules_pieces.fin n rules_pieces.k0 (rules_pieces.st0 l_ t20_)) = rules_pieces.l0 N l_ n := by funext t20_; exact h0 t20_
    have e1 : (fun (t20_ : Int) (t35_ : (List (Int × (Int × (Int × (List (Int × (Int × (Int × Int))))))))) (t36_ : Int) (t37_ : Int) (p_ : Int) (p_2 : Int) (p_3 : Int) (p_4 : (List (Int × (Int × (Int × Int))))) => run tb (rules_pieces.G N) rules_pieces.A 0 rules_pieces.fin n rules_pieces.k1 (rules_pieces.st1 l_ t20_ t35_ t36_ t37_ p_ p_2 p_3 p_4)) = rules_pieces.l1 N l_ n := by funext t20_ t35_ t36_ t37_ p_ p_2 p_3 p_4; exact h1 t20_ t35_ t36_ t37_ p_ p_2 p_3 p_4
    have e2 : (fun (t20_ : Int) (t72_ : (List (Int × (Int × (Int × Int))))) (t73_ : Int) (t74_ : Int) => run tb (rules_pieces.G N) rules_pieces.A 0 rules_pieces.fin n rules_pieces.k2 (rules_pieces.st2 l_ t20_ t72_ t73_ t74_)) = rules_pieces.l2 N l_ n := by funext t20_ t72_ t73_ t74_; exact h2 t20_ t72_ t73_ t74_
    have g0 : (∀ (t20_ : Int), run tb (rules_pieces.G N) rules_pieces.A 0 rules_pieces.fin (n + 1) rules_pieces.k0 (rules_pieces.st0 l_ t20_) = rules_pieces.l0 N l_ (n + 1) t20_) := by
      intro t20_
      exact (run_succ (by kernel_rfl)).trans ((rules_pieces.step0 N _ l_ t20_).trans ((congr (congr (congrArg (fun r0 r1 r2 => rules_pieces.s0 N l_ r0 r1 r2 t20_) e0) e1) e2).trans (rules_pieces.l0_s N l_ n t20_).symm))
    have g1 : (∀ (t20_ : Int) (t35_ : (List (Int × (Int × (Int × (List (Int × (Int × (Int × Int))))))))) (t36_ : Int) (t37_ : Int) (p_ : Int) (p_2 : Int) (p_3 : Int) (p_4 : (List (Int × (Int × (Int × Int))))), run tb (rules_pieces.G N) rules_pieces.A 0 rules_pieces.fin (n + 1) rules_pieces.k1 (rules_pieces.st1 l_ t20_ t35_ t36_ t37_ p_ p_2 p_3 p_4) = rules_pieces.l1 N l_ (n + 1) t20_ t35_ t36_ t37_ p_ p_2 p_3 p_4) := by
      intro t20_ t35_ t36_ t37_ p_ p_2 p_3 p_4
      exact (run_succ (by kernel_rfl)).trans ((rules_pieces.step1 N _ l_ t20_ t35_ t36_ t37_ p_ p_2 p_3 p_4).trans ((congr (congr (congrArg (fun r0 r1 r2 => rules_pieces.s1 N l_ r0 r1 r2 t20_ t35_ t36_ t37_ p_ p_2 p_3 p_4) e0) e1) e2).trans (rules_pieces.l1_s N l_ n t20_ t35_ t36_ t37_ p_ p_2 p_3 p_4).symm))
    have g2 : (∀ (t20_ : Int) (t72_ : (List (Int × (Int × (Int × Int))))) (t73_ : Int) (t74_ : Int), run tb (rules_pieces.G N) rules_pieces.A 0 rules_pieces.fin (n + 1) rules_pieces.k2 (rules_pieces.st2 l_ t20_ t72_ t73_ t74_) = rules_pieces.l2 N l_ (n + 1) t20_ t72_ t73_ t74_) := by
      intro t20_ t72_ t73_ t74_
      exact (run_succ (by kernel_rfl)).trans ((rules_pieces.step2 N _ l_ t20_ t72_ t73_ t74_).trans ((congr (congr (congrArg (fun r0 r1 r2 => rules_pieces.s2 N l_ r0 r1 r2 t20_ t72_ t73_ t74_) e0) e1) e2).trans (rules_pieces.l2_s N l_ n t20_ t72_ t73_ t74_).symm))
    exact ⟨g0, g1, g2⟩
theorem rules_pieces.ok (N : Nat) : DOk Try.prog tb 44 (rules_pieces.D N) := by
  refine ⟨Try.f44, Try.func44, by kernel_rfl, by kernel_rfl, fun x y h => ⟨rules_pieces.G N, rules_pieces.A, N, ?_, ?_⟩⟩
  · exact gamOf_ok tb_ok (Checked.mixed Try.checked) (by simp only [List.forall_mem_cons, List.not_mem_nil, false_implies, implies_true, and_true]; exact rules_way.ok N)
  · rw [absFn_some (by kernel_rfl)]
    refine (rules_pieces.entry N (run tb (rules_pieces.G N) rules_pieces.A 0 rules_pieces.fin N) x).trans ?_
    have e0 : (fun (t20_ : Int) => run tb (rules_pieces.G N) rules_pieces.A 0 rules_pieces.fin N rules_pieces.k0 (rules_pieces.st0 x t20_)) = rules_pieces.l0 N x N := by funext t20_; exact (rules_pieces.runs N x N).1 t20_
    have e1 : (fun (t20_ : Int) (t35_ : (List (Int × (Int × (Int × (List (Int × (Int × (Int × Int))))))))) (t36_ : Int) (t37_ : Int) (p_ : Int) (p_2 : Int) (p_3 : Int) (p_4 : (List (Int × (Int × (Int × Int))))) => run tb (rules_pieces.G N) rules_pieces.A 0 rules_pieces.fin N rules_pieces.k1 (rules_pieces.st1 x t20_ t35_ t36_ t37_ p_ p_2 p_3 p_4)) = rules_pieces.l1 N x N := by funext t20_ t35_ t36_ t37_ p_ p_2 p_3 p_4; exact (rules_pieces.runs N x N).2.1 t20_ t35_ t36_ t37_ p_ p_2 p_3 p_4
    have e2 : (fun (t20_ : Int) (t72_ : (List (Int × (Int × (Int × Int))))) (t73_ : Int) (t74_ : Int) => run tb (rules_pieces.G N) rules_pieces.A 0 rules_pieces.fin N rules_pieces.k2 (rules_pieces.st2 x t20_ t72_ t73_ t74_)) = rules_pieces.l2 N x N := by funext t20_ t72_ t73_ t74_; exact (rules_pieces.runs N x N).2.2 t20_ t72_ t73_ t74_
    have h' : (rules_pieces.D N).f x = rules_pieces.e N (rules_pieces.l0 N x N) (rules_pieces.l1 N x N) (rules_pieces.l2 N x N) x := by kernel_rfl
    exact (congr (congr (congrArg (fun r0 r1 r2 => rules_pieces.e N r0 r1 r2 x) e0) e1) e2).trans (h'.symm.trans h)
/-! ### f45: gamehall/rules.end -/
def rules_end.as : List AK := [.d true (.prod (.int .i64) (.prod (.int .i64) (.prod (.int .i64) .bool))), .d false (.int .i64)]
def rules_end.rs : List (Bool × Ty) := [(false, (.int .i64))]
def rules_end.D (N : Nat) : DFn := ⟨rules_end.as, rules_end.rs, fun x => rules_end N x.1.1 x.1.2.1 x.1.2.2.1 x.1.2.2.2 x.2⟩
noncomputable def rules_end.G (N : Nat) : Gam := gamOf []
def rules_end.A : Nat → Option LoopAnn := fun _ => none
noncomputable def rules_end.fin : St → Option Int := resK tb Try.f45.results.toList (decRes rules_end.rs)
theorem rules_end.entry (N : Nat) (rec : List Item → St → Option Int) (x : (argTy rules_end.as).den) : seg tb (rules_end.G N) rules_end.A 0 rec rules_end.fin segFuel [.code (bodyOf Try.f45)] (initSt Try.f45 (encArgs rules_end.as x) []) = rules_end.e N x.1.1 x.1.2.1 x.1.2.2.1 x.1.2.2.2 x.2 := by kernel_rfl
theorem rules_end.ok (N : Nat) : DOk Try.prog tb 45 (rules_end.D N) := by
  refine ⟨Try.f45, Try.func45, by kernel_rfl, by kernel_rfl, fun x y h => ⟨rules_end.G N, rules_end.A, N, ?_, ?_⟩⟩
  · exact gamOf_ok tb_ok (Checked.mixed Try.checked) (fun p hp => nomatch hp)
  · rw [absFn_some (by kernel_rfl)]; exact (rules_end.entry N (run tb (rules_end.G N) rules_end.A 0 rules_end.fin N) x).trans h
/-! ### f28: gamehall/rules.Check -/
def rules_Check.as : List AK := [.d true (.prod .str (.prod (.int .i64) (.prod (.int .i64) (.prod (.slice 92 (.prod (.int .u8) (.prod (.int .i64) (.prod (.int .i64) (.slice 113 (.prod (.int .i64) (.prod (.int .i64) (.prod (.int .i64) (.int .i64))))))))) (.prod (.slice 3 (.int .i64)) (.prod .bool (.prod .bool (.prod (.slice 94 (.prod (.int .i64) (.prod (.int .i64) (.prod (.int .i64) .bool)))) (.prod (.int .i64) (.prod (.int .i64) (.int .i64)))))))))))]
def rules_Check.rs : List (Bool × Ty) := [(false, (.int .i64))]
def rules_Check.D (N : Nat) : DFn := ⟨rules_Check.as, rules_Check.rs, fun x => rules_Check N x.1 x.2.1 x.2.2.1 x.2.2.2.1 x.2.2.2.2.1 x.2.2.2.2.2.1 x.2.2.2.2.2.2.1 x.2.2.2.2.2.2.2.1 x.2.2.2.2.2.2.2.2.1 x.2.2.2.2.2.2.2.2.2.1 x.2.2.2.2.2.2.2.2.2.2⟩
noncomputable def rules_Check.G (N : Nat) : Gam := gamOf [(43, rules_Name.D N), (44, rules_pieces.D N), (45, rules_end.D N)]
def rules_Check.A : Nat → Option LoopAnn := fun k => bif Nat.beq k 1 then some ⟨[1, 49, 50, 51], [], [], [], [], 1⟩ else bif Nat.beq k 3 then some ⟨[1, 71, 72, 73], [], [], [], [], 1⟩ else none
noncomputable def rules_Check.fin : St → Option Int := resK tb Try.f28.results.toList (decRes rules_Check.rs)
noncomputable def rules_Check.k0 : List Item := stackAt [.r, .r, .r, .r, .l, .r, .b] (bodyOf Try.f28) []
def rules_Check.st0 (r_Name : ByteArray) (r_Width : Int) (r_Height : Int) (r_Pieces : (List (Int × (Int × (Int × (List (Int × (Int × (Int × Int))))))))) (r_Start : (List Int)) (r_Falls : Bool) (r_Keeps : Bool) (r_Ends : (List (Int × (Int × (Int × Bool))))) (r_Blocked : Int) (r_Quiet : Int) (r_Repeat : Int) (t51_ : Int) : St := ⟨[.one .any, .one (.ptr 0 0)] ++ List.replicate 47 (.one .any) ++ [.one (.fro 3 (.int .i64) r_Start), .one (.int .i64 (r_Start.length : Int)), .one (.int .i64 t51_)] ++ List.replicate 67 (.one .any), [.var 58 [.str r_Name, .int .i64 r_Width, .int .i64 r_Height, .fro 92 (.prod (.int .u8) (.prod (.int .i64) (.prod (.int .i64) (.slice 113 (.prod (.int .i64) (.prod (.int .i64) (.prod (.int .i64) (.int .i64)))))))) r_Pieces, .fro 3 (.int .i64) r_Start, .bool r_Falls, .bool r_Keeps, .fro 94 (.prod (.int .i64) (.prod (.int .i64) (.prod (.int .i64) .bool))) r_Ends, .int .i64 r_Blocked, .int .i64 r_Quiet, .int .i64 r_Repeat]]⟩
noncomputable def rules_Check.k1 : List Item := stackAt [.r, .r, .r, .r, .r, .r, .l, .r, .b] (bodyOf Try.f28) []
def rules_Check.st1 (r_Name : ByteArray) (r_Width : Int) (r_Height : Int) (r_Pieces : (List (Int × (Int × (Int × (List (Int × (Int × (Int × Int))))))))) (r_Start : (List Int)) (r_Falls : Bool) (r_Keeps : Bool) (r_Ends : (List (Int × (Int × (Int × Bool))))) (r_Blocked : Int) (r_Quiet : Int) (r_Repeat : Int) (t73_ : Int) : St := ⟨[.one .any, .one (.ptr 0 0)] ++ List.replicate 69 (.one .any) ++ [.one (.fro 94 (.prod (.int .i64) (.prod (.int .i64) (.prod (.int .i64) .bool))) r_Ends), .one (.int .i64 (r_Ends.length : Int)), .one (.int .i64 t73_)] ++ List.replicate 45 (.one .any), [.var 58 [.str r_Name, .int .i64 r_Width, .int .i64 r_Height, .fro 92 (.prod (.int .u8) (.prod (.int .i64) (.prod (.int .i64) (.slice 113 (.prod (.int .i64) (.prod (.int .i64) (.prod (.int .i64) (.int .i64)))))))) r_Pieces, .fro 3 (.int .i64) r_Start, .bool r_Falls, .bool r_Keeps, .fro 94 (.prod (.int .i64) (.prod (.int .i64) (.prod (.int .i64) .bool))) r_Ends, .int .i64 r_Blocked, .int .i64 r_Quiet, .int .i64 r_Repeat]]⟩
theorem rules_Check.step0 (N : Nat) (rec : List Item → St → Option Int) (r_Name : ByteArray) (r_Width : Int) (r_Height : Int) (r_Pieces : (List (Int × (Int × (Int × (List (Int × (Int × (Int × Int))))))))) (r_Start : (List Int)) (r_Falls : Bool) (r_Keeps : Bool) (r_Ends : (List (Int × (Int × (Int × Bool))))) (r_Blocked : Int) (r_Quiet : Int) (r_Repeat : Int) (t51_ : Int) : seg tb (rules_Check.G N) rules_Check.A 0 rec rules_Check.fin segFuel (loopBody rules_Check.k0) (rules_Check.st0 r_Name r_Width r_Height r_Pieces r_Start r_Falls r_Keeps r_Ends r_Blocked r_Quiet r_Repeat t51_) = rules_Check.s0 N r_Name r_Width r_Height r_Pieces r_Start r_Falls r_Keeps r_Ends r_Blocked r_Quiet r_Repeat (fun t51_ => rec rules_Check.k0 (rules_Check.st0 r_Name r_Width r_Height r_Pieces r_Start r_Falls r_Keeps r_Ends r_Blocked r_Quiet r_Repeat t51_)) (fun t73_ => rec rules_Check.k1 (rules_Check.st1 r_Name r_Width r_Height r_Pieces r_Start r_Falls r_Keeps r_Ends r_Blocked r_Quiet r_Repeat t73_)) t51_ := by kernel_rfl
theorem rules_Check.step1 (N : Nat) (rec : List Item → St → Option Int) (r_Name : ByteArray) (r_Width : Int) (r_Height : Int) (r_Pieces : (List (Int × (Int × (Int × (List (Int × (Int × (Int × Int))))))))) (r_Start : (List Int)) (r_Falls : Bool) (r_Keeps : Bool) (r_Ends : (List (Int × (Int × (Int × Bool))))) (r_Blocked : Int) (r_Quiet : Int) (r_Repeat : Int) (t73_ : Int) : seg tb (rules_Check.G N) rules_Check.A 0 rec rules_Check.fin segFuel (loopBody rules_Check.k1) (rules_Check.st1 r_Name r_Width r_Height r_Pieces r_Start r_Falls r_Keeps r_Ends r_Blocked r_Quiet r_Repeat t73_) = rules_Check.s1 N r_Name r_Width r_Height r_Pieces r_Start r_Falls r_Keeps r_Ends r_Blocked r_Quiet r_Repeat (fun t51_ => rec rules_Check.k0 (rules_Check.st0 r_Name r_Width r_Height r_Pieces r_Start r_Falls r_Keeps r_Ends r_Blocked r_Quiet r_Repeat t51_)) (fun t73_ => rec rules_Check.k1 (rules_Check.st1 r_Name r_Width r_Height r_Pieces r_Start r_Falls r_Keeps r_Ends r_Blocked r_Quiet r_Repeat t73_)) t73_ := by kernel_rfl
theorem rules_Check.entry (N : Nat) (rec : List Item → St → Option Int) (x : (argTy rules_Check.as).den) : seg tb (rules_Check.G N) rules_Check.A 0 rec rules_Check.fin segFuel [.code (bodyOf Try.f28)] (initSt Try.f28 (encArgs rules_Check.as x) []) = rules_Check.e N (fun t51_ => rec rules_Check.k0 (rules_Check.st0 x.1 x.2.1 x.2.2.1 x.2.2.2.1 x.2.2.2.2.1 x.2.2.2.2.2.1 x.2.2.2.2.2.2.1 x.2.2.2.2.2.2.2.1 x.2.2.2.2.2.2.2.2.1 x.2.2.2.2.2.2.2.2.2.1 x.2.2.2.2.2.2.2.2.2.2 t51_)) (fun t73_ => rec rules_Check.k1 (rules_Check.st1 x.1 x.2.1 x.2.2.1 x.2.2.2.1 x.2.2.2.2.1 x.2.2.2.2.2.1 x.2.2.2.2.2.2.1 x.2.2.2.2.2.2.2.1 x.2.2.2.2.2.2.2.2.1 x.2.2.2.2.2.2.2.2.2.1 x.2.2.2.2.2.2.2.2.2.2 t73_)) x.1 x.2.1 x.2.2.1 x.2.2.2.1 x.2.2.2.2.1 x.2.2.2.2.2.1 x.2.2.2.2.2.2.1 x.2.2.2.2.2.2.2.1 x.2.2.2.2.2.2.2.2.1 x.2.2.2.2.2.2.2.2.2.1 x.2.2.2.2.2.2.2.2.2.2 := by kernel_rfl
theorem rules_Check.runs (N : Nat) (r_Name : ByteArray) (r_Width : Int) (r_Height : Int) (r_Pieces : (List (Int × (Int × (Int × (List (Int × (Int × (Int × Int))))))))) (r_Start : (List Int)) (r_Falls : Bool) (r_Keeps : Bool) (r_Ends : (List (Int × (Int × (Int × Bool))))) (r_Blocked : Int) (r_Quiet : Int) (r_Repeat : Int) : ∀ n, (∀ (t51_ : Int), run tb (rules_Check.G N) rules_Check.A 0 rules_Check.fin n rules_Check.k0 (rules_Check.st0 r_Name r_Width r_Height r_Pieces r_Start r_Falls r_Keeps r_Ends r_Blocked r_Quiet r_Repeat t51_) = rules_Check.l0 N r_Name r_Width r_Height r_Pieces r_Start r_Falls r_Keeps r_Ends r_Blocked r_Quiet r_Repeat n t51_) ∧ (∀ (t73_ : Int), run tb (rules_Check.G N) rules_Check.A 0 rules_Check.fin n rules_Check.k1 (rules_Check.st1 r_Name r_Width r_Height r_Pieces r_Start r_Falls r_Keeps r_Ends r_Blocked r_Quiet r_Repeat t73_) = rules_Check.l1 N r_Name r_Width r_Height r_Pieces r_Start r_Falls r_Keeps r_Ends r_Blocked r_Quiet r_Repeat n t73_)
  | 0 => ⟨fun _ => rfl, fun _ => rfl⟩
  | n + 1 => by
    obtain ⟨h0, h1⟩ := rules_Check.runs N r_Name r_Width r_Height r_Pieces r_Start r_Falls r_Keeps r_Ends r_Blocked r_Quiet r_Repeat n
    have e0 : (fun (t51_ : Int) => run tb (rules_Check.G N) rules_Check.A 0 rules_Check.fin n rules_Check.k0 (rules_Check.st0 r_Name r_Width r_Height r_Pieces r_Start r_Falls r_Keeps r_Ends r_Blocked r_Quiet r_Repeat t51_)) = rules_Check.l0 N r_Name r_Width r_Height r_Pieces r_Start r_Falls r_Keeps r_Ends r_Blocked r_Quiet r_Repeat n := by funext t51_; exact h0 t51_
    have e1 : (fun (t73_ : Int) => run tb (rules_Check.G N) rules_Check.A 0 rules_Check.fin n rules_Check.k1 (rules_Check.st1 r_Name r_Width r_Height r_Pieces r_Start r_Falls r_Keeps r_Ends r_Blocked r_Quiet r_Repeat t73_)) = rules_Check.l1 N r_Name r_Width r_Height r_Pieces r_Start r_Falls r_Keeps r_Ends r_Blocked r_Quiet r_Repeat n := by funext t73_; exact h1 t73_
    have g0 : (∀ (t51_ : Int), run tb (rules_Check.G N) rules_Check.A 0 rules_Check.fin (n + 1) rules_Check.k0 (rules_Check.st0 r_Name r_Width r_Height r_Pieces r_Start r_Falls r_Keeps r_Ends r_Blocked r_Quiet r_Repeat t51_) = rules_Check.l0 N r_Name r_Width r_Height r_Pieces r_Start r_Falls r_Keeps r_Ends r_Blocked r_Quiet r_Repeat (n + 1) t51_) := by
      intro t51_
      exact (run_succ (by kernel_rfl)).trans ((rules_Check.step0 N _ r_Name r_Width r_Height r_Pieces r_Start r_Falls r_Keeps r_Ends r_Blocked r_Quiet r_Repeat t51_).trans ((congr (congrArg (fun r0 r1 => rules_Check.s0 N r_Name r_Width r_Height r_Pieces r_Start r_Falls r_Keeps r_Ends r_Blocked r_Quiet r_Repeat r0 r1 t51_) e0) e1).trans (rules_Check.l0_s N r_Name r_Width r_Height r_Pieces r_Start r_Falls r_Keeps r_Ends r_Blocked r_Quiet r_Repeat n t51_).symm))
    have g1 : (∀ (t73_ : Int), run tb (rules_Check.G N) rules_Check.A 0 rules_Check.fin (n + 1) rules_Check.k1 (rules_Check.st1 r_Name r_Width r_Height r_Pieces r_Start r_Falls r_Keeps r_Ends r_Blocked r_Quiet r_Repeat t73_) = rules_Check.l1 N r_Name r_Width r_Height r_Pieces r_Start r_Falls r_Keeps r_Ends r_Blocked r_Quiet r_Repeat (n + 1) t73_) := by
      intro t73_
      exact (run_succ (by kernel_rfl)).trans ((rules_Check.step1 N _ r_Name r_Width r_Height r_Pieces r_Start r_Falls r_Keeps r_Ends r_Blocked r_Quiet r_Repeat t73_).trans ((congr (congrArg (fun r0 r1 => rules_Check.s1 N r_Name r_Width r_Height r_Pieces r_Start r_Falls r_Keeps r_Ends r_Blocked r_Quiet r_Repeat r0 r1 t73_) e0) e1).trans (rules_Check.l1_s N r_Name r_Width r_Height r_Pieces r_Start r_Falls r_Keeps r_Ends r_Blocked r_Quiet r_Repeat n t73_).symm))
    exact ⟨g0, g1⟩
theorem rules_Check.ok (N : Nat) : DOk Try.prog tb 28 (rules_Check.D N) := by
  refine ⟨Try.f28, Try.func28, by kernel_rfl, by kernel_rfl, fun x y h => ⟨rules_Check.G N, rules_Check.A, N, ?_, ?_⟩⟩
  · exact gamOf_ok tb_ok (Checked.mixed Try.checked) (by simp only [List.forall_mem_cons, List.not_mem_nil, false_implies, implies_true, and_true]; exact ⟨rules_Name.ok N, rules_pieces.ok N, rules_end.ok N⟩)
  · rw [absFn_some (by kernel_rfl)]
    refine (rules_Check.entry N (run tb (rules_Check.G N) rules_Check.A 0 rules_Check.fin N) x).trans ?_
    have e0 : (fun (t51_ : Int) => run tb (rules_Check.G N) rules_Check.A 0 rules_Check.fin N rules_Check.k0 (rules_Check.st0 x.1 x.2.1 x.2.2.1 x.2.2.2.1 x.2.2.2.2.1 x.2.2.2.2.2.1 x.2.2.2.2.2.2.1 x.2.2.2.2.2.2.2.1 x.2.2.2.2.2.2.2.2.1 x.2.2.2.2.2.2.2.2.2.1 x.2.2.2.2.2.2.2.2.2.2 t51_)) = rules_Check.l0 N x.1 x.2.1 x.2.2.1 x.2.2.2.1 x.2.2.2.2.1 x.2.2.2.2.2.1 x.2.2.2.2.2.2.1 x.2.2.2.2.2.2.2.1 x.2.2.2.2.2.2.2.2.1 x.2.2.2.2.2.2.2.2.2.1 x.2.2.2.2.2.2.2.2.2.2 N := by funext t51_; exact (rules_Check.runs N x.1 x.2.1 x.2.2.1 x.2.2.2.1 x.2.2.2.2.1 x.2.2.2.2.2.1 x.2.2.2.2.2.2.1 x.2.2.2.2.2.2.2.1 x.2.2.2.2.2.2.2.2.1 x.2.2.2.2.2.2.2.2.2.1 x.2.2.2.2.2.2.2.2.2.2 N).1 t51_
    have e1 : (fun (t73_ : Int) => run tb (rules_Check.G N) rules_Check.A 0 rules_Check.fin N rules_Check.k1 (rules_Check.st1 x.1 x.2.1 x.2.2.1 x.2.2.2.1 x.2.2.2.2.1 x.2.2.2.2.2.1 x.2.2.2.2.2.2.1 x.2.2.2.2.2.2.2.1 x.2.2.2.2.2.2.2.2.1 x.2.2.2.2.2.2.2.2.2.1 x.2.2.2.2.2.2.2.2.2.2 t73_)) = rules_Check.l1 N x.1 x.2.1 x.2.2.1 x.2.2.2.1 x.2.2.2.2.1 x.2.2.2.2.2.1 x.2.2.2.2.2.2.1 x.2.2.2.2.2.2.2.1 x.2.2.2.2.2.2.2.2.1 x.2.2.2.2.2.2.2.2.2.1 x.2.2.2.2.2.2.2.2.2.2 N := by funext t73_; exact (rules_Check.runs N x.1 x.2.1 x.2.2.1 x.2.2.2.1 x.2.2.2.2.1 x.2.2.2.2.2.1 x.2.2.2.2.2.2.1 x.2.2.2.2.2.2.2.1 x.2.2.2.2.2.2.2.2.1 x.2.2.2.2.2.2.2.2.2.1 x.2.2.2.2.2.2.2.2.2.2 N).2 t73_
    have h' : (rules_Check.D N).f x = rules_Check.e N (rules_Check.l0 N x.1 x.2.1 x.2.2.1 x.2.2.2.1 x.2.2.2.2.1 x.2.2.2.2.2.1 x.2.2.2.2.2.2.1 x.2.2.2.2.2.2.2.1 x.2.2.2.2.2.2.2.2.1 x.2.2.2.2.2.2.2.2.2.1 x.2.2.2.2.2.2.2.2.2.2 N) (rules_Check.l1 N x.1 x.2.1 x.2.2.1 x.2.2.2.1 x.2.2.2.2.1 x.2.2.2.2.2.1 x.2.2.2.2.2.2.1 x.2.2.2.2.2.2.2.1 x.2.2.2.2.2.2.2.2.1 x.2.2.2.2.2.2.2.2.2.1 x.2.2.2.2.2.2.2.2.2.2 N) x.1 x.2.1 x.2.2.1 x.2.2.2.1 x.2.2.2.2.1 x.2.2.2.2.2.1 x.2.2.2.2.2.2.1 x.2.2.2.2.2.2.2.1 x.2.2.2.2.2.2.2.2.1 x.2.2.2.2.2.2.2.2.2.1 x.2.2.2.2.2.2.2.2.2.2 := by kernel_rfl
    exact (congr (congrArg (fun r0 r1 => rules_Check.e N r0 r1 x.1 x.2.1 x.2.2.1 x.2.2.2.1 x.2.2.2.2.1 x.2.2.2.2.2.1 x.2.2.2.2.2.2.1 x.2.2.2.2.2.2.2.1 x.2.2.2.2.2.2.2.2.1 x.2.2.2.2.2.2.2.2.2.1 x.2.2.2.2.2.2.2.2.2.2) e0) e1).trans (h'.symm.trans h)
/-! ### f40: gamehall/rules.Copy -/
def rules_Copy.as : List AK := [.d true (.prod .str (.prod (.int .i64) (.prod (.int .i64) (.prod (.slice 92 (.prod (.int .u8) (.prod (.int .i64) (.prod (.int .i64) (.slice 113 (.prod (.int .i64) (.prod (.int .i64) (.prod (.int .i64) (.int .i64))))))))) (.prod (.slice 3 (.int .i64)) (.prod .bool (.prod .bool (.prod (.slice 94 (.prod (.int .i64) (.prod (.int .i64) (.prod (.int .i64) .bool)))) (.prod (.int .i64) (.prod (.int .i64) (.int .i64)))))))))))]
def rules_Copy.rs : List (Bool × Ty) := [(true, (.prod .str (.prod (.int .i64) (.prod (.int .i64) (.prod (.slice 92 (.prod (.int .u8) (.prod (.int .i64) (.prod (.int .i64) (.slice 113 (.prod (.int .i64) (.prod (.int .i64) (.prod (.int .i64) (.int .i64))))))))) (.prod (.slice 3 (.int .i64)) (.prod .bool (.prod .bool (.prod (.slice 94 (.prod (.int .i64) (.prod (.int .i64) (.prod (.int .i64) .bool)))) (.prod (.int .i64) (.prod (.int .i64) (.int .i64))))))))))))]
def rules_Copy.D (N : Nat) : DFn := ⟨rules_Copy.as, rules_Copy.rs, fun x => rules_Copy N x.1 x.2.1 x.2.2.1 x.2.2.2.1 x.2.2.2.2.1 x.2.2.2.2.2.1 x.2.2.2.2.2.2.1 x.2.2.2.2.2.2.2.1 x.2.2.2.2.2.2.2.2.1 x.2.2.2.2.2.2.2.2.2.1 x.2.2.2.2.2.2.2.2.2.2⟩
noncomputable def rules_Copy.G (N : Nat) : Gam := gamOf []
def rules_Copy.A : Nat → Option LoopAnn := fun k => bif Nat.beq k 0 then some ⟨[1, 2, 3, 13, 14, 15], [], [], [], [], 4⟩ else none
noncomputable def rules_Copy.fin : St → Option (ByteArray × (Int × (Int × ((List (Int × (Int × (Int × (List (Int × (Int × (Int × Int)))))))) × ((List Int) × (Bool × (Bool × ((List (Int × (Int × (Int × Bool)))) × (Int × (Int × Int)))))))))) := resK tb Try.f40.results.toList (decRes rules_Copy.rs)
noncomputable def rules_Copy.k0 : List Item := stackAt [.r, .r, .r, .l, .r, .b] (bodyOf Try.f40) []
def rules_Copy.st0 (r_Name : ByteArray) (r_Width : Int) (r_Height : Int) (r_Pieces : (List (Int × (Int × (Int × (List (Int × (Int × (Int × Int))))))))) (r_Start : (List Int)) (r_Falls : Bool) (r_Keeps : Bool) (r_Ends : (List (Int × (Int × (Int × Bool))))) (r_Blocked : Int) (r_Quiet : Int) (r_Repeat : Int) (t15_ : Int) (m3_ : (List (Int × (Int × (Int × (List (Int × (Int × (Int × Int))))))))) : St := ⟨[.one .any, .one (.ptr 0 0), .one (.ptr 1 0), .one (.ptr 2 0)] ++ List.replicate 9 (.one .any) ++ [.one (.fro 92 (.prod (.int .u8) (.prod (.int .i64) (.prod (.int .i64) (.slice 113 (.prod (.int .i64) (.prod (.int .i64) (.prod (.int .i64) (.int .i64)))))))) r_Pieces), .one (.int .i64 (r_Pieces.length : Int)), .one (.int .i64 t15_)] ++ List.replicate 23 (.one .any), [.var 58 [.str r_Name, .int .i64 r_Width, .int .i64 r_Height, .fro 92 (.prod (.int .u8) (.prod (.int .i64) (.prod (.int .i64) (.slice 113 (.prod (.int .i64) (.prod (.int .i64) (.prod (.int .i64) (.int .i64)))))))) r_Pieces, .fro 3 (.int .i64) r_Start, .bool r_Falls, .bool r_Keeps, .fro 94 (.prod (.int .i64) (.prod (.int .i64) (.prod (.int .i64) .bool))) r_Ends, .int .i64 r_Blocked, .int .i64 r_Quiet, .int .i64 r_Repeat], .var 58 [.str (⟨#[]⟩ : ByteArray), .int .i64 0, .int .i64 0, .nilS, .nilS, .bool false, .bool false, .nilS, .int .i64 0, .int .i64 0, .int .i64 0], .var 58 [.str r_Name, .int .i64 r_Width, .int .i64 r_Height, .own 3, .fro 3 (.int .i64) r_Start, .bool r_Falls, .bool r_Keeps, .fro 94 (.prod (.int .i64) (.prod (.int .i64) (.prod (.int .i64) .bool))) r_Ends, .int .i64 r_Blocked, .int .i64 r_Quiet, .int .i64 r_Repeat], .row 92 (.prod (.int .u8) (.prod (.int .i64) (.prod (.int .i64) (.slice 113 (.prod (.int .i64) (.prod (.int .i64) (.prod (.int .i64) (.int .i64)))))))) m3_]⟩
theorem rules_Copy.step0 (N : Nat) (rec : List Item → St → Option (ByteArray × (Int × (Int × ((List (Int × (Int × (Int × (List (Int × (Int × (Int × Int)))))))) × ((List Int) × (Bool × (Bool × ((List (Int × (Int × (Int × Bool)))) × (Int × (Int × Int))))))))))) (r_Name : ByteArray) (r_Width : Int) (r_Height : Int) (r_Pieces : (List (Int × (Int × (Int × (List (Int × (Int × (Int × Int))))))))) (r_Start : (List Int)) (r_Falls : Bool) (r_Keeps : Bool) (r_Ends : (List (Int × (Int × (Int × Bool))))) (r_Blocked : Int) (r_Quiet : Int) (r_Repeat : Int) (t15_ : Int) (m3_ : (List (Int × (Int × (Int × (List (Int × (Int × (Int × Int))))))))) : seg tb (rules_Copy.G N) rules_Copy.A 0 rec rules_Copy.fin segFuel (loopBody rules_Copy.k0) (rules_Copy.st0 r_Name r_Width r_Height r_Pieces r_Start r_Falls r_Keeps r_Ends r_Blocked r_Quiet r_Repeat t15_ m3_) = rules_Copy.s0 N r_Name r_Width r_Height r_Pieces r_Start r_Falls r_Keeps r_Ends r_Blocked r_Quiet r_Repeat (fun t15_ m3_ => rec rules_Copy.k0 (rules_Copy.st0 r_Name r_Width r_Height r_Pieces r_Start r_Falls r_Keeps r_Ends r_Blocked r_Quiet r_Repeat t15_ m3_)) t15_ m3_ := by kernel_rfl
theorem rules_Copy.entry (N : Nat) (rec : List Item → St → Option (ByteArray × (Int × (Int × ((List (Int × (Int × (Int × (List (Int × (Int × (Int × Int)))))))) × ((List Int) × (Bool × (Bool × ((List (Int × (Int × (Int × Bool)))) × (Int × (Int × Int))))))))))) (x : (argTy rules_Copy.as).den) : seg tb (rules_Copy.G N) rules_Copy.A 0 rec rules_Copy.fin segFuel [.code (bodyOf Try.f40)] (initSt Try.f40 (encArgs rules_Copy.as x) []) = rules_Copy.e N (fun t15_ m3_ => rec rules_Copy.k0 (rules_Copy.st0 x.1 x.2.1 x.2.2.1 x.2.2.2.1 x.2.2.2.2.1 x.2.2.2.2.2.1 x.2.2.2.2.2.2.1 x.2.2.2.2.2.2.2.1 x.2.2.2.2.2.2.2.2.1 x.2.2.2.2.2.2.2.2.2.1 x.2.2.2.2.2.2.2.2.2.2 t15_ m3_)) x.1 x.2.1 x.2.2.1 x.2.2.2.1 x.2.2.2.2.1 x.2.2.2.2.2.1 x.2.2.2.2.2.2.1 x.2.2.2.2.2.2.2.1 x.2.2.2.2.2.2.2.2.1 x.2.2.2.2.2.2.2.2.2.1 x.2.2.2.2.2.2.2.2.2.2 := by kernel_rfl
theorem rules_Copy.runs (N : Nat) (r_Name : ByteArray) (r_Width : Int) (r_Height : Int) (r_Pieces : (List (Int × (Int × (Int × (List (Int × (Int × (Int × Int))))))))) (r_Start : (List Int)) (r_Falls : Bool) (r_Keeps : Bool) (r_Ends : (List (Int × (Int × (Int × Bool))))) (r_Blocked : Int) (r_Quiet : Int) (r_Repeat : Int) : ∀ n, (∀ (t15_ : Int) (m3_ : (List (Int × (Int × (Int × (List (Int × (Int × (Int × Int))))))))), run tb (rules_Copy.G N) rules_Copy.A 0 rules_Copy.fin n rules_Copy.k0 (rules_Copy.st0 r_Name r_Width r_Height r_Pieces r_Start r_Falls r_Keeps r_Ends r_Blocked r_Quiet r_Repeat t15_ m3_) = rules_Copy.l0 N r_Name r_Width r_Height r_Pieces r_Start r_Falls r_Keeps r_Ends r_Blocked r_Quiet r_Repeat n t15_ m3_)
  | 0 => fun _ _ => rfl
  | n + 1 => by
    have h0 := rules_Copy.runs N r_Name r_Width r_Height r_Pieces r_Start r_Falls r_Keeps r_Ends r_Blocked r_Quiet r_Repeat n
    have e0 : (fun (t15_ : Int) (m3_ : (List (Int × (Int × (Int × (List (Int × (Int × (Int × Int))))))))) => run tb (rules_Copy.G N) rules_Copy.A 0 rules_Copy.fin n rules_Copy.k0 (rules_Copy.st0 r_Name r_Width r_Height r_Pieces r_Start r_Falls r_Keeps r_Ends r_Blocked r_Quiet r_Repeat t15_ m3_)) = rules_Copy.l0 N r_Name r_Width r_Height r_Pieces r_Start r_Falls r_Keeps r_Ends r_Blocked r_Quiet r_Repeat n := by funext t15_ m3_; exact h0 t15_ m3_
    have g0 : (∀ (t15_ : Int) (m3_ : (List (Int × (Int × (Int × (List (Int × (Int × (Int × Int))))))))), run tb (rules_Copy.G N) rules_Copy.A 0 rules_Copy.fin (n + 1) rules_Copy.k0 (rules_Copy.st0 r_Name r_Width r_Height r_Pieces r_Start r_Falls r_Keeps r_Ends r_Blocked r_Quiet r_Repeat t15_ m3_) = rules_Copy.l0 N r_Name r_Width r_Height r_Pieces r_Start r_Falls r_Keeps r_Ends r_Blocked r_Quiet r_Repeat (n + 1) t15_ m3_) := by
      intro t15_ m3_
      exact (run_succ (by kernel_rfl)).trans ((rules_Copy.step0 N _ r_Name r_Width r_Height r_Pieces r_Start r_Falls r_Keeps r_Ends r_Blocked r_Quiet r_Repeat t15_ m3_).trans ((congrArg (fun r0 => rules_Copy.s0 N r_Name r_Width r_Height r_Pieces r_Start r_Falls r_Keeps r_Ends r_Blocked r_Quiet r_Repeat r0 t15_ m3_) e0).trans (rules_Copy.l0_s N r_Name r_Width r_Height r_Pieces r_Start r_Falls r_Keeps r_Ends r_Blocked r_Quiet r_Repeat n t15_ m3_).symm))
    exact g0
theorem rules_Copy.ok (N : Nat) : DOk Try.prog tb 40 (rules_Copy.D N) := by
  refine ⟨Try.f40, Try.func40, by kernel_rfl, by kernel_rfl, fun x y h => ⟨rules_Copy.G N, rules_Copy.A, N, ?_, ?_⟩⟩
  · exact gamOf_ok tb_ok (Checked.mixed Try.checked) (fun p hp => nomatch hp)
  · rw [absFn_some (by kernel_rfl)]
    refine (rules_Copy.entry N (run tb (rules_Copy.G N) rules_Copy.A 0 rules_Copy.fin N) x).trans ?_
    have e0 : (fun (t15_ : Int) (m3_ : (List (Int × (Int × (Int × (List (Int × (Int × (Int × Int))))))))) => run tb (rules_Copy.G N) rules_Copy.A 0 rules_Copy.fin N rules_Copy.k0 (rules_Copy.st0 x.1 x.2.1 x.2.2.1 x.2.2.2.1 x.2.2.2.2.1 x.2.2.2.2.2.1 x.2.2.2.2.2.2.1 x.2.2.2.2.2.2.2.1 x.2.2.2.2.2.2.2.2.1 x.2.2.2.2.2.2.2.2.2.1 x.2.2.2.2.2.2.2.2.2.2 t15_ m3_)) = rules_Copy.l0 N x.1 x.2.1 x.2.2.1 x.2.2.2.1 x.2.2.2.2.1 x.2.2.2.2.2.1 x.2.2.2.2.2.2.1 x.2.2.2.2.2.2.2.1 x.2.2.2.2.2.2.2.2.1 x.2.2.2.2.2.2.2.2.2.1 x.2.2.2.2.2.2.2.2.2.2 N := by funext t15_ m3_; exact (rules_Copy.runs N x.1 x.2.1 x.2.2.1 x.2.2.2.1 x.2.2.2.2.1 x.2.2.2.2.2.1 x.2.2.2.2.2.2.1 x.2.2.2.2.2.2.2.1 x.2.2.2.2.2.2.2.2.1 x.2.2.2.2.2.2.2.2.2.1 x.2.2.2.2.2.2.2.2.2.2 N) t15_ m3_
    have h' : (rules_Copy.D N).f x = rules_Copy.e N (rules_Copy.l0 N x.1 x.2.1 x.2.2.1 x.2.2.2.1 x.2.2.2.2.1 x.2.2.2.2.2.1 x.2.2.2.2.2.2.1 x.2.2.2.2.2.2.2.1 x.2.2.2.2.2.2.2.2.1 x.2.2.2.2.2.2.2.2.2.1 x.2.2.2.2.2.2.2.2.2.2 N) x.1 x.2.1 x.2.2.1 x.2.2.2.1 x.2.2.2.2.1 x.2.2.2.2.2.1 x.2.2.2.2.2.2.1 x.2.2.2.2.2.2.2.1 x.2.2.2.2.2.2.2.2.1 x.2.2.2.2.2.2.2.2.2.1 x.2.2.2.2.2.2.2.2.2.2 := by kernel_rfl
    exact (congrArg (fun r0 => rules_Copy.e N r0 x.1 x.2.1 x.2.2.1 x.2.2.2.1 x.2.2.2.2.1 x.2.2.2.2.2.1 x.2.2.2.2.2.2.1 x.2.2.2.2.2.2.2.1 x.2.2.2.2.2.2.2.2.1 x.2.2.2.2.2.2.2.2.2.1 x.2.2.2.2.2.2.2.2.2.2) e0).trans (h'.symm.trans h)
/-! ### f42: gamehall/rules.Turned -/
def rules_Turned.as : List AK := [.d true (.prod .str (.prod (.int .i64) (.prod (.int .i64) (.prod (.slice 92 (.prod (.int .u8) (.prod (.int .i64) (.prod (.int .i64) (.slice 113 (.prod (.int .i64) (.prod (.int .i64) (.prod (.int .i64) (.int .i64))))))))) (.prod (.slice 3 (.int .i64)) (.prod .bool (.prod .bool (.prod (.slice 94 (.prod (.int .i64) (.prod (.int .i64) (.prod (.int .i64) .bool)))) (.prod (.int .i64) (.prod (.int .i64) (.int .i64))))))))))), .d false (.int .i64)]
def rules_Turned.rs : List (Bool × Ty) := [(false, (.int .i64))]
def rules_Turned.D (N : Nat) : DFn := ⟨rules_Turned.as, rules_Turned.rs, fun x => rules_Turned N x.1.1 x.1.2.1 x.1.2.2.1 x.1.2.2.2.1 x.1.2.2.2.2.1 x.1.2.2.2.2.2.1 x.1.2.2.2.2.2.2.1 x.1.2.2.2.2.2.2.2.1 x.1.2.2.2.2.2.2.2.2.1 x.1.2.2.2.2.2.2.2.2.2.1 x.1.2.2.2.2.2.2.2.2.2.2 x.2⟩
noncomputable def rules_Turned.G (N : Nat) : Gam := gamOf []
def rules_Turned.A : Nat → Option LoopAnn := fun _ => none
noncomputable def rules_Turned.fin : St → Option Int := resK tb Try.f42.results.toList (decRes rules_Turned.rs)
theorem rules_Turned.entry (N : Nat) (rec : List Item → St → Option Int) (x : (argTy rules_Turned.as).den) : seg tb (rules_Turned.G N) rules_Turned.A 0 rec rules_Turned.fin segFuel [.code (bodyOf Try.f42)] (initSt Try.f42 (encArgs rules_Turned.as x) []) = rules_Turned.e N x.1.1 x.1.2.1 x.1.2.2.1 x.1.2.2.2.1 x.1.2.2.2.2.1 x.1.2.2.2.2.2.1 x.1.2.2.2.2.2.2.1 x.1.2.2.2.2.2.2.2.1 x.1.2.2.2.2.2.2.2.2.1 x.1.2.2.2.2.2.2.2.2.2.1 x.1.2.2.2.2.2.2.2.2.2.2 x.2 := by kernel_rfl
theorem rules_Turned.ok (N : Nat) : DOk Try.prog tb 42 (rules_Turned.D N) := by
  refine ⟨Try.f42, Try.func42, by kernel_rfl, by kernel_rfl, fun x y h => ⟨rules_Turned.G N, rules_Turned.A, N, ?_, ?_⟩⟩
  · exact gamOf_ok tb_ok (Checked.mixed Try.checked) (fun p hp => nomatch hp)
  · rw [absFn_some (by kernel_rfl)]; exact (rules_Turned.entry N (run tb (rules_Turned.G N) rules_Turned.A 0 rules_Turned.fin N) x).trans h
/-! ### f41: gamehall/rules.Swapped -/
def rules_Swapped.as : List AK := [.d false (.int .i64)]
def rules_Swapped.rs : List (Bool × Ty) := [(false, (.int .i64))]
def rules_Swapped.D (N : Nat) : DFn := ⟨rules_Swapped.as, rules_Swapped.rs, fun x => rules_Swapped N x⟩
noncomputable def rules_Swapped.G (N : Nat) : Gam := gamOf []
def rules_Swapped.A : Nat → Option LoopAnn := fun _ => none
noncomputable def rules_Swapped.fin : St → Option Int := resK tb Try.f41.results.toList (decRes rules_Swapped.rs)
theorem rules_Swapped.entry (N : Nat) (rec : List Item → St → Option Int) (x : (argTy rules_Swapped.as).den) : seg tb (rules_Swapped.G N) rules_Swapped.A 0 rec rules_Swapped.fin segFuel [.code (bodyOf Try.f41)] (initSt Try.f41 (encArgs rules_Swapped.as x) []) = rules_Swapped.e N x := by kernel_rfl
theorem rules_Swapped.ok (N : Nat) : DOk Try.prog tb 41 (rules_Swapped.D N) := by
  refine ⟨Try.f41, Try.func41, by kernel_rfl, by kernel_rfl, fun x y h => ⟨rules_Swapped.G N, rules_Swapped.A, N, ?_, ?_⟩⟩
  · exact gamOf_ok tb_ok (Checked.mixed Try.checked) (fun p hp => nomatch hp)
  · rw [absFn_some (by kernel_rfl)]; exact (rules_Swapped.entry N (run tb (rules_Swapped.G N) rules_Swapped.A 0 rules_Swapped.fin N) x).trans h
/-! ### f27: gamehall/rules.Mirror -/
def rules_Mirror.as : List AK := [.d true (.prod .str (.prod (.int .i64) (.prod (.int .i64) (.prod (.slice 92 (.prod (.int .u8) (.prod (.int .i64) (.prod (.int .i64) (.slice 113 (.prod (.int .i64) (.prod (.int .i64) (.prod (.int .i64) (.int .i64))))))))) (.prod (.slice 3 (.int .i64)) (.prod .bool (.prod .bool (.prod (.slice 94 (.prod (.int .i64) (.prod (.int .i64) (.prod (.int .i64) .bool)))) (.prod (.int .i64) (.prod (.int .i64) (.int .i64)))))))))))]
def rules_Mirror.rs : List (Bool × Ty) := [(true, (.prod .str (.prod (.int .i64) (.prod (.int .i64) (.prod (.slice 92 (.prod (.int .u8) (.prod (.int .i64) (.prod (.int .i64) (.slice 113 (.prod (.int .i64) (.prod (.int .i64) (.prod (.int .i64) (.int .i64))))))))) (.prod (.slice 3 (.int .i64)) (.prod .bool (.prod .bool (.prod (.slice 94 (.prod (.int .i64) (.prod (.int .i64) (.prod (.int .i64) .bool)))) (.prod (.int .i64) (.prod (.int .i64) (.int .i64)))))))))))), (false, (.int .i64))]
def rules_Mirror.D (N : Nat) : DFn := ⟨rules_Mirror.as, rules_Mirror.rs, fun x => rules_Mirror N x.1 x.2.1 x.2.2.1 x.2.2.2.1 x.2.2.2.2.1 x.2.2.2.2.2.1 x.2.2.2.2.2.2.1 x.2.2.2.2.2.2.2.1 x.2.2.2.2.2.2.2.2.1 x.2.2.2.2.2.2.2.2.2.1 x.2.2.2.2.2.2.2.2.2.2⟩
noncomputable def rules_Mirror.G (N : Nat) : Gam := gamOf [(28, rules_Check.D N), (40, rules_Copy.D N), (42, rules_Turned.D N), (41, rules_Swapped.D N)]
def rules_Mirror.A : Nat → Option LoopAnn := fun k => bif Nat.beq k 0 then some ⟨[1, 2, 5, 17, 18, 19], [], [], [], [], 6⟩ else none
noncomputable def rules_Mirror.fin : St → Option ((ByteArray × (Int × (Int × ((List (Int × (Int × (Int × (List (Int × (Int × (Int × Int)))))))) × ((List Int) × (Bool × (Bool × ((List (Int × (Int × (Int × Bool)))) × (Int × (Int × Int)))))))))) × Int) := resK tb Try.f27.results.toList (decRes rules_Mirror.rs)
noncomputable def rules_Mirror.k0 : List Item := stackAt [.r, .r, .r, .l, .r, .b] (bodyOf Try.f27) []
def rules_Mirror.st0 (r_Name : ByteArray) (r_Width : Int) (r_Height : Int) (r_Pieces : (List (Int × (Int × (Int × (List (Int × (Int × (Int × Int))))))))) (r_Start : (List Int)) (r_Falls : Bool) (r_Keeps : Bool) (r_Ends : (List (Int × (Int × (Int × Bool))))) (r_Blocked : Int) (r_Quiet : Int) (r_Repeat : Int) (t19_ : Int) (m2_ : (List (Int × (Int × (Int × (List (Int × (Int × (Int × Int))))))))) (m3_ : (List Int)) (m4_ : (List (Int × (Int × (Int × Bool))))) (out : ByteArray) (out2 : Int) (out3 : Int) (out4 : Bool) (out5 : Bool) (out6 : Int) (out7 : Int) (out8 : Int) : St := ⟨[.one .any, .one (.ptr 0 0), .one (.ptr 1 0), .one .any, .one .any, .one (.ptr 5 0)] ++ List.replicate 11 (.one .any) ++ [.one (.fro 3 (.int .i64) r_Start), .one (.int .i64 (r_Start.length : Int)), .one (.int .i64 t19_)] ++ List.replicate 14 (.one .any), [.var 58 [.str r_Name, .int .i64 r_Width, .int .i64 r_Height, .fro 92 (.prod (.int .u8) (.prod (.int .i64) (.prod (.int .i64) (.slice 113 (.prod (.int .i64) (.prod (.int .i64) (.prod (.int .i64) (.int .i64)))))))) r_Pieces, .fro 3 (.int .i64) r_Start, .bool r_Falls, .bool r_Keeps, .fro 94 (.prod (.int .i64) (.prod (.int .i64) (.prod (.int .i64) .bool))) r_Ends, .int .i64 r_Blocked, .int .i64 r_Quiet, .int .i64 r_Repeat], .var 58 [.str (⟨#[]⟩ : ByteArray), .int .i64 0, .int .i64 0, .nilS, .nilS, .bool false, .bool false, .nilS, .int .i64 0, .int .i64 0, .int .i64 0], .row 92 (.prod (.int .u8) (.prod (.int .i64) (.prod (.int .i64) (.slice 113 (.prod (.int .i64) (.prod (.int .i64) (.prod (.int .i64) (.int .i64)))))))) m2_, .row 3 (.int .i64) m3_, .row 94 (.prod (.int .i64) (.prod (.int .i64) (.prod (.int .i64) .bool))) m4_, .var 58 [.str out, .int .i64 out2, .int .i64 out3, .own 2, .own 3, .bool out4, .bool out5, .own 4, .int .i64 out6, .int .i64 out7, .int .i64 out8]]⟩
theorem rules_Mirror.step0 (N : Nat) (rec : List Item → St → Option ((ByteArray × (Int × (Int × ((List (Int × (Int × (Int × (List (Int × (Int × (Int × Int)))))))) × ((List Int) × (Bool × (Bool × ((List (Int × (Int × (Int × Bool)))) × (Int × (Int × Int)))))))))) × Int)) (r_Name : ByteArray) (r_Width : Int) (r_Height : Int) (r_Pieces : (List (Int × (Int × (Int × (List (Int × (Int × (Int × Int))))))))) (r_Start : (List Int)) (r_Falls : Bool) (r_Keeps : Bool) (r_Ends : (List (Int × (Int × (Int × Bool))))) (r_Blocked : Int) (r_Quiet : Int) (r_Repeat : Int) (t19_ : Int) (m2_ : (List (Int × (Int × (Int × (List (Int × (Int × (Int × Int))))))))) (m3_ : (List Int)) (m4_ : (List (Int × (Int × (Int × Bool))))) (out : ByteArray) (out2 : Int) (out3 : Int) (out4 : Bool) (out5 : Bool) (out6 : Int) (out7 : Int) (out8 : Int) : seg tb (rules_Mirror.G N) rules_Mirror.A 0 rec rules_Mirror.fin segFuel (loopBody rules_Mirror.k0) (rules_Mirror.st0 r_Name r_Width r_Height r_Pieces r_Start r_Falls r_Keeps r_Ends r_Blocked r_Quiet r_Repeat t19_ m2_ m3_ m4_ out out2 out3 out4 out5 out6 out7 out8) = rules_Mirror.s0 N r_Name r_Width r_Height r_Pieces r_Start r_Falls r_Keeps r_Ends r_Blocked r_Quiet r_Repeat (fun t19_ m2_ m3_ m4_ out out2 out3 out4 out5 out6 out7 out8 => rec rules_Mirror.k0 (rules_Mirror.st0 r_Name r_Width r_Height r_Pieces r_Start r_Falls r_Keeps r_Ends r_Blocked r_Quiet r_Repeat t19_ m2_ m3_ m4_ out out2 out3 out4 out5 out6 out7 out8)) t19_ m2_ m3_ m4_ out out2 out3 out4 out5 out6 out7 out8 := by kernel_rfl
theorem rules_Mirror.entry (N : Nat) (rec : List Item → St → Option ((ByteArray × (Int × (Int × ((List (Int × (Int × (Int × (List (Int × (Int × (Int × Int)))))))) × ((List Int) × (Bool × (Bool × ((List (Int × (Int × (Int × Bool)))) × (Int × (Int × Int)))))))))) × Int)) (x : (argTy rules_Mirror.as).den) : seg tb (rules_Mirror.G N) rules_Mirror.A 0 rec rules_Mirror.fin segFuel [.code (bodyOf Try.f27)] (initSt Try.f27 (encArgs rules_Mirror.as x) []) = rules_Mirror.e N (fun t19_ m2_ m3_ m4_ out out2 out3 out4 out5 out6 out7 out8 => rec rules_Mirror.k0 (rules_Mirror.st0 x.1 x.2.1 x.2.2.1 x.2.2.2.1 x.2.2.2.2.1 x.2.2.2.2.2.1 x.2.2.2.2.2.2.1 x.2.2.2.2.2.2.2.1 x.2.2.2.2.2.2.2.2.1 x.2.2.2.2.2.2.2.2.2.1 x.2.2.2.2.2.2.2.2.2.2 t19_ m2_ m3_ m4_ out out2 out3 out4 out5 out6 out7 out8)) x.1 x.2.1 x.2.2.1 x.2.2.2.1 x.2.2.2.2.1 x.2.2.2.2.2.1 x.2.2.2.2.2.2.1 x.2.2.2.2.2.2.2.1 x.2.2.2.2.2.2.2.2.1 x.2.2.2.2.2.2.2.2.2.1 x.2.2.2.2.2.2.2.2.2.2 := by kernel_rfl
theorem rules_Mirror.runs (N : Nat) (r_Name : ByteArray) (r_Width : Int) (r_Height : Int) (r_Pieces : (List (Int × (Int × (Int × (List (Int × (Int × (Int × Int))))))))) (r_Start : (List Int)) (r_Falls : Bool) (r_Keeps : Bool) (r_Ends : (List (Int × (Int × (Int × Bool))))) (r_Blocked : Int) (r_Quiet : Int) (r_Repeat : Int) : ∀ n, (∀ (t19_ : Int) (m2_ : (List (Int × (Int × (Int × (List (Int × (Int × (Int × Int))))))))) (m3_ : (List Int)) (m4_ : (List (Int × (Int × (Int × Bool))))) (out : ByteArray) (out2 : Int) (out3 : Int) (out4 : Bool) (out5 : Bool) (out6 : Int) (out7 : Int) (out8 : Int), run tb (rules_Mirror.G N) rules_Mirror.A 0 rules_Mirror.fin n rules_Mirror.k0 (rules_Mirror.st0 r_Name r_Width r_Height r_Pieces r_Start r_Falls r_Keeps r_Ends r_Blocked r_Quiet r_Repeat t19_ m2_ m3_ m4_ out out2 out3 out4 out5 out6 out7 out8) = rules_Mirror.l0 N r_Name r_Width r_Height r_Pieces r_Start r_Falls r_Keeps r_Ends r_Blocked r_Quiet r_Repeat n t19_ m2_ m3_ m4_ out out2 out3 out4 out5 out6 out7 out8)
  | 0 => fun _ _ _ _ _ _ _ _ _ _ _ _ => rfl
  | n + 1 => by
    have h0 := rules_Mirror.runs N r_Name r_Width r_Height r_Pieces r_Start r_Falls r_Keeps r_Ends r_Blocked r_Quiet r_Repeat n
    have e0 : (fun (t19_ : Int) (m2_ : (List (Int × (Int × (Int × (List (Int × (Int × (Int × Int))))))))) (m3_ : (List Int)) (m4_ : (List (Int × (Int × (Int × Bool))))) (out : ByteArray) (out2 : Int) (out3 : Int) (out4 : Bool) (out5 : Bool) (out6 : Int) (out7 : Int) (out8 : Int) => run tb (rules_Mirror.G N) rules_Mirror.A 0 rules_Mirror.fin n rules_Mirror.k0 (rules_Mirror.st0 r_Name r_Width r_Height r_Pieces r_Start r_Falls r_Keeps r_Ends r_Blocked r_Quiet r_Repeat t19_ m2_ m3_ m4_ out out2 out3 out4 out5 out6 out7 out8)) = rules_Mirror.l0 N r_Name r_Width r_Height r_Pieces r_Start r_Falls r_Keeps r_Ends r_Blocked r_Quiet r_Repeat n := by funext t19_ m2_ m3_ m4_ out out2 out3 out4 out5 out6 out7 out8; exact h0 t19_ m2_ m3_ m4_ out out2 out3 out4 out5 out6 out7 out8
    have g0 : (∀ (t19_ : Int) (m2_ : (List (Int × (Int × (Int × (List (Int × (Int × (Int × Int))))))))) (m3_ : (List Int)) (m4_ : (List (Int × (Int × (Int × Bool))))) (out : ByteArray) (out2 : Int) (out3 : Int) (out4 : Bool) (out5 : Bool) (out6 : Int) (out7 : Int) (out8 : Int), run tb (rules_Mirror.G N) rules_Mirror.A 0 rules_Mirror.fin (n + 1) rules_Mirror.k0 (rules_Mirror.st0 r_Name r_Width r_Height r_Pieces r_Start r_Falls r_Keeps r_Ends r_Blocked r_Quiet r_Repeat t19_ m2_ m3_ m4_ out out2 out3 out4 out5 out6 out7 out8) = rules_Mirror.l0 N r_Name r_Width r_Height r_Pieces r_Start r_Falls r_Keeps r_Ends r_Blocked r_Quiet r_Repeat (n + 1) t19_ m2_ m3_ m4_ out out2 out3 out4 out5 out6 out7 out8) := by
      intro t19_ m2_ m3_ m4_ out out2 out3 out4 out5 out6 out7 out8
      exact (run_succ (by kernel_rfl)).trans ((rules_Mirror.step0 N _ r_Name r_Width r_Height r_Pieces r_Start r_Falls r_Keeps r_Ends r_Blocked r_Quiet r_Repeat t19_ m2_ m3_ m4_ out out2 out3 out4 out5 out6 out7 out8).trans ((congrArg (fun r0 => rules_Mirror.s0 N r_Name r_Width r_Height r_Pieces r_Start r_Falls r_Keeps r_Ends r_Blocked r_Quiet r_Repeat r0 t19_ m2_ m3_ m4_ out out2 out3 out4 out5 out6 out7 out8) e0).trans (rules_Mirror.l0_s N r_Name r_Width r_Height r_Pieces r_Start r_Falls r_Keeps r_Ends r_Blocked r_Quiet r_Repeat n t19_ m2_ m3_ m4_ out out2 out3 out4 out5 out6 out7 out8).symm))
    exact g0
theorem rules_Mirror.ok (N : Nat) : DOk Try.prog tb 27 (rules_Mirror.D N) := by
  refine ⟨Try.f27, Try.func27, by kernel_rfl, by kernel_rfl, fun x y h => ⟨rules_Mirror.G N, rules_Mirror.A, N, ?_, ?_⟩⟩
  · exact gamOf_ok tb_ok (Checked.mixed Try.checked) (by simp only [List.forall_mem_cons, List.not_mem_nil, false_implies, implies_true, and_true]; exact ⟨rules_Check.ok N, rules_Copy.ok N, rules_Turned.ok N, rules_Swapped.ok N⟩)
  · rw [absFn_some (by kernel_rfl)]
    refine (rules_Mirror.entry N (run tb (rules_Mirror.G N) rules_Mirror.A 0 rules_Mirror.fin N) x).trans ?_
    have e0 : (fun (t19_ : Int) (m2_ : (List (Int × (Int × (Int × (List (Int × (Int × (Int × Int))))))))) (m3_ : (List Int)) (m4_ : (List (Int × (Int × (Int × Bool))))) (out : ByteArray) (out2 : Int) (out3 : Int) (out4 : Bool) (out5 : Bool) (out6 : Int) (out7 : Int) (out8 : Int) => run tb (rules_Mirror.G N) rules_Mirror.A 0 rules_Mirror.fin N rules_Mirror.k0 (rules_Mirror.st0 x.1 x.2.1 x.2.2.1 x.2.2.2.1 x.2.2.2.2.1 x.2.2.2.2.2.1 x.2.2.2.2.2.2.1 x.2.2.2.2.2.2.2.1 x.2.2.2.2.2.2.2.2.1 x.2.2.2.2.2.2.2.2.2.1 x.2.2.2.2.2.2.2.2.2.2 t19_ m2_ m3_ m4_ out out2 out3 out4 out5 out6 out7 out8)) = rules_Mirror.l0 N x.1 x.2.1 x.2.2.1 x.2.2.2.1 x.2.2.2.2.1 x.2.2.2.2.2.1 x.2.2.2.2.2.2.1 x.2.2.2.2.2.2.2.1 x.2.2.2.2.2.2.2.2.1 x.2.2.2.2.2.2.2.2.2.1 x.2.2.2.2.2.2.2.2.2.2 N := by funext t19_ m2_ m3_ m4_ out out2 out3 out4 out5 out6 out7 out8; exact (rules_Mirror.runs N x.1 x.2.1 x.2.2.1 x.2.2.2.1 x.2.2.2.2.1 x.2.2.2.2.2.1 x.2.2.2.2.2.2.1 x.2.2.2.2.2.2.2.1 x.2.2.2.2.2.2.2.2.1 x.2.2.2.2.2.2.2.2.2.1 x.2.2.2.2.2.2.2.2.2.2 N) t19_ m2_ m3_ m4_ out out2 out3 out4 out5 out6 out7 out8
    have h' : (rules_Mirror.D N).f x = rules_Mirror.e N (rules_Mirror.l0 N x.1 x.2.1 x.2.2.1 x.2.2.2.1 x.2.2.2.2.1 x.2.2.2.2.2.1 x.2.2.2.2.2.2.1 x.2.2.2.2.2.2.2.1 x.2.2.2.2.2.2.2.2.1 x.2.2.2.2.2.2.2.2.2.1 x.2.2.2.2.2.2.2.2.2.2 N) x.1 x.2.1 x.2.2.1 x.2.2.2.1 x.2.2.2.2.1 x.2.2.2.2.2.1 x.2.2.2.2.2.2.1 x.2.2.2.2.2.2.2.1 x.2.2.2.2.2.2.2.2.1 x.2.2.2.2.2.2.2.2.2.1 x.2.2.2.2.2.2.2.2.2.2 := by kernel_rfl
    exact (congrArg (fun r0 => rules_Mirror.e N r0 x.1 x.2.1 x.2.2.1 x.2.2.2.1 x.2.2.2.2.1 x.2.2.2.2.2.1 x.2.2.2.2.2.2.1 x.2.2.2.2.2.2.2.1 x.2.2.2.2.2.2.2.2.1 x.2.2.2.2.2.2.2.2.2.1 x.2.2.2.2.2.2.2.2.2.2) e0).trans (h'.symm.trans h)
/-! ### f9: gamehall/gamehallkeep1.RulesMirrored -/
def gamehallkeep1_RulesMirrored.as : List AK := [.d true (.prod .str (.prod (.int .i64) (.prod (.int .i64) (.prod (.slice 92 (.prod (.int .u8) (.prod (.int .i64) (.prod (.int .i64) (.slice 113 (.prod (.int .i64) (.prod (.int .i64) (.prod (.int .i64) (.int .i64))))))))) (.prod (.slice 3 (.int .i64)) (.prod .bool (.prod .bool (.prod (.slice 94 (.prod (.int .i64) (.prod (.int .i64) (.prod (.int .i64) .bool)))) (.prod (.int .i64) (.prod (.int .i64) (.int .i64)))))))))))]
def gamehallkeep1_RulesMirrored.rs : List (Bool × Ty) := [(false, .bool)]
def gamehallkeep1_RulesMirrored.D (N : Nat) : DFn := ⟨gamehallkeep1_RulesMirrored.as, gamehallkeep1_RulesMirrored.rs, fun x => gamehallkeep1_RulesMirrored N x.1 x.2.1 x.2.2.1 x.2.2.2.1 x.2.2.2.2.1 x.2.2.2.2.2.1 x.2.2.2.2.2.2.1 x.2.2.2.2.2.2.2.1 x.2.2.2.2.2.2.2.2.1 x.2.2.2.2.2.2.2.2.2.1 x.2.2.2.2.2.2.2.2.2.2⟩
noncomputable def gamehallkeep1_RulesMirrored.G (N : Nat) : Gam := gamOf [(26, gamehallkeep1_three.D N), (27, rules_Mirror.D N), (22, slices_Equal_int_int.D N), (28, rules_Check.D N)]
def gamehallkeep1_RulesMirrored.A : Nat → Option LoopAnn := fun _ => none
noncomputable def gamehallkeep1_RulesMirrored.fin : St → Option Bool := resK tb Try.f9.results.toList (decRes gamehallkeep1_RulesMirrored.rs)
theorem gamehallkeep1_RulesMirrored.entry (N : Nat) (rec : List Item → St → Option Bool) (x : (argTy gamehallkeep1_RulesMirrored.as).den) : seg tb (gamehallkeep1_RulesMirrored.G N) gamehallkeep1_RulesMirrored.A 0 rec gamehallkeep1_RulesMirrored.fin segFuel [.code (bodyOf Try.f9)] (initSt Try.f9 (encArgs gamehallkeep1_RulesMirrored.as x) []) = gamehallkeep1_RulesMirrored.e N x.1 x.2.1 x.2.2.1 x.2.2.2.1 x.2.2.2.2.1 x.2.2.2.2.2.1 x.2.2.2.2.2.2.1 x.2.2.2.2.2.2.2.1 x.2.2.2.2.2.2.2.2.1 x.2.2.2.2.2.2.2.2.2.1 x.2.2.2.2.2.2.2.2.2.2 := by kernel_rfl
theorem gamehallkeep1_RulesMirrored.ok (N : Nat) : DOk Try.prog tb 9 (gamehallkeep1_RulesMirrored.D N) := by
  refine ⟨Try.f9, Try.func9, by kernel_rfl, by kernel_rfl, fun x y h => ⟨gamehallkeep1_RulesMirrored.G N, gamehallkeep1_RulesMirrored.A, N, ?_, ?_⟩⟩
  · exact gamOf_ok tb_ok (Checked.mixed Try.checked) (by simp only [List.forall_mem_cons, List.not_mem_nil, false_implies, implies_true, and_true]; exact ⟨gamehallkeep1_three.ok N, rules_Mirror.ok N, slices_Equal_int_int.ok N, rules_Check.ok N⟩)
  · rw [absFn_some (by kernel_rfl)]; exact (gamehallkeep1_RulesMirrored.entry N (run tb (gamehallkeep1_RulesMirrored.G N) gamehallkeep1_RulesMirrored.A 0 gamehallkeep1_RulesMirrored.fin N) x).trans h
end Go.Proofs.Ytaaljooihacpgaa.Am
