/- PRINTED by gen.py: the abstract machine evaluates the loaded code to these functions. -/
import Derived.Test.YtaaljooihacpgaaFn
import Derived.Test.YtaaljooihacpgaaChecked
import Derived.Eval
set_option linter.unusedVariables false
set_option linter.unusedSimpArgs false
namespace Go.Proofs.Ytaaljooihacpgaa.Am
open Go
set_option maxRecDepth 100000
def ti3 : TI := ⟨.int .i64, 1, 8, some (.int .i64), [.int .i64 0]⟩
def ti4 : TI := ⟨.bool, 1, 1, some .bool, [.bool false]⟩
def ti22 : TI := ⟨.int .i64, 1, 8, some (.int .i64), [.int .i64 0]⟩
def ti42 : TI := ⟨.slice 3, 1, 24, some (.slice 3 (.int .i64)), [.nilS]⟩
def ti67 : TI := ⟨.slice 22, 1, 24, some (.slice 22 (.int .i64)), [.nilS]⟩
def ti69 : TI := ⟨.other, 1, 8, none, [.nilF]⟩
def ti70 : TI := ⟨.array 2 3, 2, 16, some (.prod (.int .i64) (.int .i64)), [.int .i64 0, .int .i64 0]⟩
def ti100 : TI := ⟨.slice 4, 1, 24, some (.slice 4 .bool), [.nilS]⟩
def tbt : TT := (.node 67 ti67 (.node 22 ti22 (.node 4 ti4 (.node 3 ti3 .nil .nil) .nil) (.node 42 ti42 .nil .nil)) (.node 70 ti70 (.node 69 ti69 .nil .nil) (.node 100 ti100 .nil .nil)))
def tb : Tab := tbt.get
theorem ti3_ok : TIok Try.prog tb 3 ti3 := TIok_mk (by kernel_rfl) (by kernel_rfl) ⟨rfl, rfl⟩ (by kernel_rfl) rfl
theorem ti4_ok : TIok Try.prog tb 4 ti4 := TIok_mk (by kernel_rfl) (by kernel_rfl) ⟨rfl, rfl⟩ (by kernel_rfl) rfl
theorem ti22_ok : TIok Try.prog tb 22 ti22 := TIok_mk (by kernel_rfl) (by kernel_rfl) ⟨rfl, rfl⟩ (by kernel_rfl) rfl
theorem ti42_ok : TIok Try.prog tb 42 ti42 := TIok_mk (by kernel_rfl) (by kernel_rfl) ⟨rfl, rfl⟩ (by kernel_rfl) rfl
theorem ti67_ok : TIok Try.prog tb 67 ti67 := TIok_mk (by kernel_rfl) (by kernel_rfl) ⟨rfl, rfl⟩ (by kernel_rfl) rfl
theorem ti69_ok : TIok Try.prog tb 69 ti69 := TIok_mk (by kernel_rfl) (by kernel_rfl) trivial (by kernel_rfl) rfl
theorem ti70_ok : TIok Try.prog tb 70 ti70 := TIok_mk (by kernel_rfl) (by kernel_rfl) ⟨rfl, rfl⟩ (by kernel_rfl) rfl
theorem ti100_ok : TIok Try.prog tb 100 ti100 := TIok_mk (by kernel_rfl) (by kernel_rfl) ⟨rfl, rfl⟩ (by kernel_rfl) rfl
theorem tb_ok : TabOk Try.prog tb := TT.ok ⟨ti67_ok, ⟨ti22_ok, ⟨ti4_ok, ⟨ti3_ok, trivial, trivial⟩, trivial⟩, ⟨ti42_ok, trivial, trivial⟩⟩, ⟨ti70_ok, ⟨ti69_ok, trivial, trivial⟩, ⟨ti100_ok, trivial, trivial⟩⟩⟩
/-! ### f29: gamehall/symm.Check -/
def symm_Check.as : List AK := [.d false (.int .i64), .d false (.int .i64)]
def symm_Check.rs : List (Bool × Ty) := [(false, (.int .i64))]
def symm_Check.D (N : Nat) : DFn := ⟨symm_Check.as, symm_Check.rs, fun x => symm_Check N x.1 x.2⟩
noncomputable def symm_Check.G (N : Nat) : Gam := gamOf []
def symm_Check.A : Nat → Option LoopAnn := fun _ => none
noncomputable def symm_Check.fin : St → Option Int := resK tb Try.f29.results.toList (decRes symm_Check.rs)
theorem symm_Check.entry (N : Nat) (rec : List Item → St → Option Int) (x : (argTy symm_Check.as).den) : seg tb (symm_Check.G N) symm_Check.A 0 rec symm_Check.fin segFuel [.code (bodyOf Try.f29)] (initSt Try.f29 (encArgs symm_Check.as x) []) = symm_Check.e N x.1 x.2 := by kernel_rfl
theorem symm_Check.ok (N : Nat) : DOk Try.prog tb 29 (symm_Check.D N) := by
  refine ⟨Try.f29, Try.func29, by kernel_rfl, by kernel_rfl, fun x y h => ⟨symm_Check.G N, symm_Check.A, N, ?_, ?_⟩⟩
  · exact gamOf_ok tb_ok (Checked.mixed Try.checked) (fun p hp => nomatch hp)
  · rw [absFn_some (by kernel_rfl)]; exact (symm_Check.entry N (run tb (symm_Check.G N) symm_Check.A 0 symm_Check.fin N) x).trans h
/-! ### f30: gamehall/symm.many -/
def symm_many.as : List AK := [.d false (.int .i64), .d false (.int .i64)]
def symm_many.rs : List (Bool × Ty) := [(false, (.int .i64))]
def symm_many.D (N : Nat) : DFn := ⟨symm_many.as, symm_many.rs, fun x => symm_many N x.1 x.2⟩
noncomputable def symm_many.G (N : Nat) : Gam := gamOf []
def symm_many.A : Nat → Option LoopAnn := fun _ => none
noncomputable def symm_many.fin : St → Option Int := resK tb Try.f30.results.toList (decRes symm_many.rs)
theorem symm_many.entry (N : Nat) (rec : List Item → St → Option Int) (x : (argTy symm_many.as).den) : seg tb (symm_many.G N) symm_many.A 0 rec symm_many.fin segFuel [.code (bodyOf Try.f30)] (initSt Try.f30 (encArgs symm_many.as x) []) = symm_many.e N x.1 x.2 := by kernel_rfl
theorem symm_many.ok (N : Nat) : DOk Try.prog tb 30 (symm_many.D N) := by
  refine ⟨Try.f30, Try.func30, by kernel_rfl, by kernel_rfl, fun x y h => ⟨symm_many.G N, symm_many.A, N, ?_, ?_⟩⟩
  · exact gamOf_ok tb_ok (Checked.mixed Try.checked) (fun p hp => nomatch hp)
  · rw [absFn_some (by kernel_rfl)]; exact (symm_many.entry N (run tb (symm_many.G N) symm_many.A 0 symm_many.fin N) x).trans h
/-! ### f35: gamehall/symm.image -/
def symm_image.as : List AK := [.d false (.int .i64), .d false (.int .i64), .d false (.int .i64), .d false (.int .i64)]
def symm_image.rs : List (Bool × Ty) := [(false, (.int .i64))]
def symm_image.D (N : Nat) : DFn := ⟨symm_image.as, symm_image.rs, fun x => symm_image N x.1 x.2.1 x.2.2.1 x.2.2.2⟩
noncomputable def symm_image.G (N : Nat) : Gam := gamOf []
def symm_image.A : Nat → Option LoopAnn := fun _ => none
noncomputable def symm_image.fin : St → Option Int := resK tb Try.f35.results.toList (decRes symm_image.rs)
theorem symm_image.entry (N : Nat) (rec : List Item → St → Option Int) (x : (argTy symm_image.as).den) : seg tb (symm_image.G N) symm_image.A 0 rec symm_image.fin segFuel [.code (bodyOf Try.f35)] (initSt Try.f35 (encArgs symm_image.as x) []) = symm_image.e N x.1 x.2.1 x.2.2.1 x.2.2.2 := by kernel_rfl
theorem symm_image.ok (N : Nat) : DOk Try.prog tb 35 (symm_image.D N) := by
  refine ⟨Try.f35, Try.func35, by kernel_rfl, by kernel_rfl, fun x y h => ⟨symm_image.G N, symm_image.A, N, ?_, ?_⟩⟩
  · exact gamOf_ok tb_ok (Checked.mixed Try.checked) (fun p hp => nomatch hp)
  · rw [absFn_some (by kernel_rfl)]; exact (symm_image.entry N (run tb (symm_image.G N) symm_image.A 0 symm_image.fin N) x).trans h
/-! ### f31: gamehall/symm.cycles -/
def symm_cycles.as : List AK := [.d false (.int .i64), .d false (.int .i64), .d false (.int .i64)]
def symm_cycles.rs : List (Bool × Ty) := [(false, (.int .i64))]
def symm_cycles.D (N : Nat) : DFn := ⟨symm_cycles.as, symm_cycles.rs, fun x => symm_cycles N x.1 x.2.1 x.2.2⟩
noncomputable def symm_cycles.G (N : Nat) : Gam := gamOf [(35, symm_image.D N)]
def symm_cycles.A : Nat → Option LoopAnn := fun k => bif Nat.beq k 0 then some ⟨[0, 1, 2, 7, 8, 15, 16], [], [], [], [], 1⟩ else bif Nat.beq k 2 then some ⟨[0, 1, 2, 7, 8, 9, 15, 16], [], [], [], [], 1⟩ else none
noncomputable def symm_cycles.fin : St → Option Int := resK tb Try.f31.results.toList (decRes symm_cycles.rs)
noncomputable def symm_cycles.k0 : List Item := stackAt [.r, .r, .r, .l, .r, .b] (bodyOf Try.f31) []
def symm_cycles.st0 (width : Int) (height : Int) (s_ : Int) (n_ : Int) (t15_ : Int) (t16_ : Int) (seen : (List Bool)) : St := ⟨[.one (.int .i64 width), .one (.int .i64 height), .one (.int .i64 s_)] ++ List.replicate 4 (.one .any) ++ [.one (.own 0), .one (.int .i64 n_)] ++ List.replicate 6 (.one .any) ++ [.one (.int .i64 t15_), .one (.int .i64 t16_)] ++ List.replicate 23 (.one .any), [.row 4 .bool seen]⟩
noncomputable def symm_cycles.k1 : List Item := stackAt [.r, .r, .r, .l, .r, .b, .w, .r, .r, .l, .b, .r, .r, .r, .b] (bodyOf Try.f31) []
def symm_cycles.st1 (width : Int) (height : Int) (s_ : Int) (n_ : Int) (k_ : Int) (t15_ : Int) (t16_ : Int) (seen : (List Bool)) : St := ⟨[.one (.int .i64 width), .one (.int .i64 height), .one (.int .i64 s_)] ++ List.replicate 4 (.one .any) ++ [.one (.own 0), .one (.int .i64 n_), .one (.int .i64 k_)] ++ List.replicate 5 (.one .any) ++ [.one (.int .i64 t15_), .one (.int .i64 t16_)] ++ List.replicate 23 (.one .any), [.row 4 .bool seen]⟩
theorem symm_cycles.step0 (N : Nat) (rec : List Item → St → Option Int) (width : Int) (height : Int) (s_ : Int) (n_ : Int) (t15_ : Int) (t16_ : Int) (seen : (List Bool)) : seg tb (symm_cycles.G N) symm_cycles.A 0 rec symm_cycles.fin segFuel (loopBody symm_cycles.k0) (symm_cycles.st0 width height s_ n_ t15_ t16_ seen) = symm_cycles.s0 N (fun width height s_ n_ t15_ t16_ seen => rec symm_cycles.k0 (symm_cycles.st0 width height s_ n_ t15_ t16_ seen)) (fun width height s_ n_ k_ t15_ t16_ seen => rec symm_cycles.k1 (symm_cycles.st1 width height s_ n_ k_ t15_ t16_ seen)) width height s_ n_ t15_ t16_ seen := by kernel_rfl
theorem symm_cycles.step1 (N : Nat) (rec : List Item → St → Option Int) (width : Int) (height : Int) (s_ : Int) (n_ : Int) (k_ : Int) (t15_ : Int) (t16_ : Int) (seen : (List Bool)) : seg tb (symm_cycles.G N) symm_cycles.A 0 rec symm_cycles.fin segFuel (loopBody symm_cycles.k1) (symm_cycles.st1 width height s_ n_ k_ t15_ t16_ seen) = symm_cycles.s1 N (fun width height s_ n_ t15_ t16_ seen => rec symm_cycles.k0 (symm_cycles.st0 width height s_ n_ t15_ t16_ seen)) (fun width height s_ n_ k_ t15_ t16_ seen => rec symm_cycles.k1 (symm_cycles.st1 width height s_ n_ k_ t15_ t16_ seen)) width height s_ n_ k_ t15_ t16_ seen := by kernel_rfl
theorem symm_cycles.entry (N : Nat) (rec : List Item → St → Option Int) (x : (argTy symm_cycles.as).den) : seg tb (symm_cycles.G N) symm_cycles.A 0 rec symm_cycles.fin segFuel [.code (bodyOf Try.f31)] (initSt Try.f31 (encArgs symm_cycles.as x) []) = symm_cycles.e N (fun width height s_ n_ t15_ t16_ seen => rec symm_cycles.k0 (symm_cycles.st0 width height s_ n_ t15_ t16_ seen)) (fun width height s_ n_ k_ t15_ t16_ seen => rec symm_cycles.k1 (symm_cycles.st1 width height s_ n_ k_ t15_ t16_ seen)) x.1 x.2.1 x.2.2 := by kernel_rfl
theorem symm_cycles.runs (N : Nat) : ∀ n, (∀ (width : Int) (height : Int) (s_ : Int) (n_ : Int) (t15_ : Int) (t16_ : Int) (seen : (List Bool)), run tb (symm_cycles.G N) symm_cycles.A 0 symm_cycles.fin n symm_cycles.k0 (symm_cycles.st0 width height s_ n_ t15_ t16_ seen) = symm_cycles.l0 N n width height s_ n_ t15_ t16_ seen) ∧ (∀ (width : Int) (height : Int) (s_ : Int) (n_ : Int) (k_ : Int) (t15_ : Int) (t16_ : Int) (seen : (List Bool)), run tb (symm_cycles.G N) symm_cycles.A 0 symm_cycles.fin n symm_cycles.k1 (symm_cycles.st1 width height s_ n_ k_ t15_ t16_ seen) = symm_cycles.l1 N n width height s_ n_ k_ t15_ t16_ seen)
  | 0 => ⟨fun _ _ _ _ _ _ _ => rfl, fun _ _ _ _ _ _ _ _ => rfl⟩
  | n + 1 => by
    obtain ⟨h0, h1⟩ := symm_cycles.runs N n
    have e0 : (fun (width : Int) (height : Int) (s_ : Int) (n_ : Int) (t15_ : Int) (t16_ : Int) (seen : (List Bool)) => run tb (symm_cycles.G N) symm_cycles.A 0 symm_cycles.fin n symm_cycles.k0 (symm_cycles.st0 width height s_ n_ t15_ t16_ seen)) = symm_cycles.l0 N n := by funext width height s_ n_ t15_ t16_ seen; exact h0 width height s_ n_ t15_ t16_ seen
    have e1 : (fun (width : Int) (height : Int) (s_ : Int) (n_ : Int) (k_ : Int) (t15_ : Int) (t16_ : Int) (seen : (List Bool)) => run tb (symm_cycles.G N) symm_cycles.A 0 symm_cycles.fin n symm_cycles.k1 (symm_cycles.st1 width height s_ n_ k_ t15_ t16_ seen)) = symm_cycles.l1 N n := by funext width height s_ n_ k_ t15_ t16_ seen; exact h1 width height s_ n_ k_ t15_ t16_ seen
    have g0 : (∀ (width : Int) (height : Int) (s_ : Int) (n_ : Int) (t15_ : Int) (t16_ : Int) (seen : (List Bool)), run tb (symm_cycles.G N) symm_cycles.A 0 symm_cycles.fin (n + 1) symm_cycles.k0 (symm_cycles.st0 width height s_ n_ t15_ t16_ seen) = symm_cycles.l0 N (n + 1) width height s_ n_ t15_ t16_ seen) := by
      intro width height s_ n_ t15_ t16_ seen
      rw [run_succ (by kernel_rfl), symm_cycles.step0, e0, e1]; rfl
    have g1 : (∀ (width : Int) (height : Int) (s_ : Int) (n_ : Int) (k_ : Int) (t15_ : Int) (t16_ : Int) (seen : (List Bool)), run tb (symm_cycles.G N) symm_cycles.A 0 symm_cycles.fin (n + 1) symm_cycles.k1 (symm_cycles.st1 width height s_ n_ k_ t15_ t16_ seen) = symm_cycles.l1 N (n + 1) width height s_ n_ k_ t15_ t16_ seen) := by
      intro width height s_ n_ k_ t15_ t16_ seen
      rw [run_succ (by kernel_rfl), symm_cycles.step1, e0, e1]; rfl
    exact ⟨g0, g1⟩
theorem symm_cycles.ok (N : Nat) : DOk Try.prog tb 31 (symm_cycles.D N) := by
  refine ⟨Try.f31, Try.func31, by kernel_rfl, by kernel_rfl, fun x y h => ⟨symm_cycles.G N, symm_cycles.A, N, ?_, ?_⟩⟩
  · exact gamOf_ok tb_ok (Checked.mixed Try.checked) (by simp only [List.forall_mem_cons, List.not_mem_nil, false_implies, implies_true, and_true]; exact symm_image.ok N)
  · rw [absFn_some (by kernel_rfl)]
    refine (symm_cycles.entry N (run tb (symm_cycles.G N) symm_cycles.A 0 symm_cycles.fin N) x).trans ?_
    have e0 : (fun (width : Int) (height : Int) (s_ : Int) (n_ : Int) (t15_ : Int) (t16_ : Int) (seen : (List Bool)) => run tb (symm_cycles.G N) symm_cycles.A 0 symm_cycles.fin N symm_cycles.k0 (symm_cycles.st0 width height s_ n_ t15_ t16_ seen)) = symm_cycles.l0 N N := by funext width height s_ n_ t15_ t16_ seen; exact (symm_cycles.runs N N).1 width height s_ n_ t15_ t16_ seen
    have e1 : (fun (width : Int) (height : Int) (s_ : Int) (n_ : Int) (k_ : Int) (t15_ : Int) (t16_ : Int) (seen : (List Bool)) => run tb (symm_cycles.G N) symm_cycles.A 0 symm_cycles.fin N symm_cycles.k1 (symm_cycles.st1 width height s_ n_ k_ t15_ t16_ seen)) = symm_cycles.l1 N N := by funext width height s_ n_ k_ t15_ t16_ seen; exact (symm_cycles.runs N N).2 width height s_ n_ k_ t15_ t16_ seen
    rw [e0, e1]; exact h
/-! ### f10: gamehall/symm.Colours -/
def symm_Colours.as : List AK := [.d false (.int .i64), .d false (.int .i64), .d false (.int .i64)]
def symm_Colours.rs : List (Bool × Ty) := [(false, (.int .i64)), (false, (.int .i64))]
def symm_Colours.D (N : Nat) : DFn := ⟨symm_Colours.as, symm_Colours.rs, fun x => symm_Colours N x.1 x.2.1 x.2.2⟩
noncomputable def symm_Colours.G (N : Nat) : Gam := gamOf [(29, symm_Check.D N), (30, symm_many.D N), (31, symm_cycles.D N)]
def symm_Colours.A : Nat → Option LoopAnn := fun k => bif Nat.beq k 0 then some ⟨[0, 1, 2, 9, 26, 27], [], [], [], [], 0⟩ else bif Nat.beq k 2 then some ⟨[0, 1, 2, 9, 11, 26, 27, 33, 34], [], [], [], [], 0⟩ else none
noncomputable def symm_Colours.fin : St → Option (Int × Int) := resK tb Try.f10.results.toList (decRes symm_Colours.rs)
noncomputable def symm_Colours.k0 : List Item := stackAt [.r, .r, .r, .r, .l, .r, .b] (bodyOf Try.f10) []
def symm_Colours.st0 (width : Int) (height : Int) (colours : Int) (sum : Int) (t26_ : Int) (t27_ : Int) : St := ⟨[.one (.int .i64 width), .one (.int .i64 height), .one (.int .i64 colours)] ++ List.replicate 6 (.one .any) ++ [.one (.int .i64 sum)] ++ List.replicate 16 (.one .any) ++ [.one (.int .i64 t26_), .one (.int .i64 t27_)] ++ List.replicate 23 (.one .any), []⟩
noncomputable def symm_Colours.k1 : List Item := stackAt [.r, .r, .r, .r, .l, .r, .b, .w, .r, .r, .l, .b, .r, .r, .l, .r, .b] (bodyOf Try.f10) []
def symm_Colours.st1 (width : Int) (height : Int) (colours : Int) (sum : Int) (n_ : Int) (t26_ : Int) (t27_ : Int) (t33_ : Int) (t34_ : Int) : St := ⟨[.one (.int .i64 width), .one (.int .i64 height), .one (.int .i64 colours)] ++ List.replicate 6 (.one .any) ++ [.one (.int .i64 sum), .one .any, .one (.int .i64 n_)] ++ List.replicate 14 (.one .any) ++ [.one (.int .i64 t26_), .one (.int .i64 t27_)] ++ List.replicate 5 (.one .any) ++ [.one (.int .i64 t33_), .one (.int .i64 t34_)] ++ List.replicate 16 (.one .any), []⟩
theorem symm_Colours.step0 (N : Nat) (rec : List Item → St → Option (Int × Int)) (width : Int) (height : Int) (colours : Int) (sum : Int) (t26_ : Int) (t27_ : Int) : seg tb (symm_Colours.G N) symm_Colours.A 0 rec symm_Colours.fin segFuel (loopBody symm_Colours.k0) (symm_Colours.st0 width height colours sum t26_ t27_) = symm_Colours.s0 N (fun width height colours sum t26_ t27_ => rec symm_Colours.k0 (symm_Colours.st0 width height colours sum t26_ t27_)) (fun width height colours sum n_ t26_ t27_ t33_ t34_ => rec symm_Colours.k1 (symm_Colours.st1 width height colours sum n_ t26_ t27_ t33_ t34_)) width height colours sum t26_ t27_ := by kernel_rfl
theorem symm_Colours.step1 (N : Nat) (rec : List Item → St → Option (Int × Int)) (width : Int) (height : Int) (colours : Int) (sum : Int) (n_ : Int) (t26_ : Int) (t27_ : Int) (t33_ : Int) (t34_ : Int) : seg tb (symm_Colours.G N) symm_Colours.A 0 rec symm_Colours.fin segFuel (loopBody symm_Colours.k1) (symm_Colours.st1 width height colours sum n_ t26_ t27_ t33_ t34_) = symm_Colours.s1 N (fun width height colours sum t26_ t27_ => rec symm_Colours.k0 (symm_Colours.st0 width height colours sum t26_ t27_)) (fun width height colours sum n_ t26_ t27_ t33_ t34_ => rec symm_Colours.k1 (symm_Colours.st1 width height colours sum n_ t26_ t27_ t33_ t34_)) width height colours sum n_ t26_ t27_ t33_ t34_ := by kernel_rfl
theorem symm_Colours.entry (N : Nat) (rec : List Item → St → Option (Int × Int)) (x : (argTy symm_Colours.as).den) : seg tb (symm_Colours.G N) symm_Colours.A 0 rec symm_Colours.fin segFuel [.code (bodyOf Try.f10)] (initSt Try.f10 (encArgs symm_Colours.as x) []) = symm_Colours.e N (fun width height colours sum t26_ t27_ => rec symm_Colours.k0 (symm_Colours.st0 width height colours sum t26_ t27_)) (fun width height colours sum n_ t26_ t27_ t33_ t34_ => rec symm_Colours.k1 (symm_Colours.st1 width height colours sum n_ t26_ t27_ t33_ t34_)) x.1 x.2.1 x.2.2 := by kernel_rfl
theorem symm_Colours.runs (N : Nat) : ∀ n, (∀ (width : Int) (height : Int) (colours : Int) (sum : Int) (t26_ : Int) (t27_ : Int), run tb (symm_Colours.G N) symm_Colours.A 0 symm_Colours.fin n symm_Colours.k0 (symm_Colours.st0 width height colours sum t26_ t27_) = symm_Colours.l0 N n width height colours sum t26_ t27_) ∧ (∀ (width : Int) (height : Int) (colours : Int) (sum : Int) (n_ : Int) (t26_ : Int) (t27_ : Int) (t33_ : Int) (t34_ : Int), run tb (symm_Colours.G N) symm_Colours.A 0 symm_Colours.fin n symm_Colours.k1 (symm_Colours.st1 width height colours sum n_ t26_ t27_ t33_ t34_) = symm_Colours.l1 N n width height colours sum n_ t26_ t27_ t33_ t34_)
  | 0 => ⟨fun _ _ _ _ _ _ => rfl, fun _ _ _ _ _ _ _ _ _ => rfl⟩
  | n + 1 => by
    obtain ⟨h0, h1⟩ := symm_Colours.runs N n
    have e0 : (fun (width : Int) (height : Int) (colours : Int) (sum : Int) (t26_ : Int) (t27_ : Int) => run tb (symm_Colours.G N) symm_Colours.A 0 symm_Colours.fin n symm_Colours.k0 (symm_Colours.st0 width height colours sum t26_ t27_)) = symm_Colours.l0 N n := by funext width height colours sum t26_ t27_; exact h0 width height colours sum t26_ t27_
    have e1 : (fun (width : Int) (height : Int) (colours : Int) (sum : Int) (n_ : Int) (t26_ : Int) (t27_ : Int) (t33_ : Int) (t34_ : Int) => run tb (symm_Colours.G N) symm_Colours.A 0 symm_Colours.fin n symm_Colours.k1 (symm_Colours.st1 width height colours sum n_ t26_ t27_ t33_ t34_)) = symm_Colours.l1 N n := by funext width height colours sum n_ t26_ t27_ t33_ t34_; exact h1 width height colours sum n_ t26_ t27_ t33_ t34_
    have g0 : (∀ (width : Int) (height : Int) (colours : Int) (sum : Int) (t26_ : Int) (t27_ : Int), run tb (symm_Colours.G N) symm_Colours.A 0 symm_Colours.fin (n + 1) symm_Colours.k0 (symm_Colours.st0 width height colours sum t26_ t27_) = symm_Colours.l0 N (n + 1) width height colours sum t26_ t27_) := by
      intro width height colours sum t26_ t27_
      rw [run_succ (by kernel_rfl), symm_Colours.step0, e0, e1]; rfl
    have g1 : (∀ (width : Int) (height : Int) (colours : Int) (sum : Int) (n_ : Int) (t26_ : Int) (t27_ : Int) (t33_ : Int) (t34_ : Int), run tb (symm_Colours.G N) symm_Colours.A 0 symm_Colours.fin (n + 1) symm_Colours.k1 (symm_Colours.st1 width height colours sum n_ t26_ t27_ t33_ t34_) = symm_Colours.l1 N (n + 1) width height colours sum n_ t26_ t27_ t33_ t34_) := by
      intro width height colours sum n_ t26_ t27_ t33_ t34_
      rw [run_succ (by kernel_rfl), symm_Colours.step1, e0, e1]; rfl
    exact ⟨g0, g1⟩
theorem symm_Colours.ok (N : Nat) : DOk Try.prog tb 10 (symm_Colours.D N) := by
  refine ⟨Try.f10, Try.func10, by kernel_rfl, by kernel_rfl, fun x y h => ⟨symm_Colours.G N, symm_Colours.A, N, ?_, ?_⟩⟩
  · exact gamOf_ok tb_ok (Checked.mixed Try.checked) (by simp only [List.forall_mem_cons, List.not_mem_nil, false_implies, implies_true, and_true]; exact ⟨symm_Check.ok N, symm_many.ok N, symm_cycles.ok N⟩)
  · rw [absFn_some (by kernel_rfl)]
    refine (symm_Colours.entry N (run tb (symm_Colours.G N) symm_Colours.A 0 symm_Colours.fin N) x).trans ?_
    have e0 : (fun (width : Int) (height : Int) (colours : Int) (sum : Int) (t26_ : Int) (t27_ : Int) => run tb (symm_Colours.G N) symm_Colours.A 0 symm_Colours.fin N symm_Colours.k0 (symm_Colours.st0 width height colours sum t26_ t27_)) = symm_Colours.l0 N N := by funext width height colours sum t26_ t27_; exact (symm_Colours.runs N N).1 width height colours sum t26_ t27_
    have e1 : (fun (width : Int) (height : Int) (colours : Int) (sum : Int) (n_ : Int) (t26_ : Int) (t27_ : Int) (t33_ : Int) (t34_ : Int) => run tb (symm_Colours.G N) symm_Colours.A 0 symm_Colours.fin N symm_Colours.k1 (symm_Colours.st1 width height colours sum n_ t26_ t27_ t33_ t34_)) = symm_Colours.l1 N N := by funext width height colours sum n_ t26_ t27_ t33_ t34_; exact (symm_Colours.runs N N).2 width height colours sum n_ t26_ t27_ t33_ t34_
    rw [e0, e1]; exact h
/-! ### f33: gamehall/gamehallkeep1.fine$1 -/
def gamehallkeep1_fine_1.as : List AK := [.d false (.int .i64)]
def gamehallkeep1_fine_1.rs : List (Bool × Ty) := [(false, .bool)]
def gamehallkeep1_fine_1.D (N : Nat) : DFn := ⟨gamehallkeep1_fine_1.as, gamehallkeep1_fine_1.rs, fun x => gamehallkeep1_fine_1 N x⟩
noncomputable def gamehallkeep1_fine_1.G (N : Nat) : Gam := gamOf []
def gamehallkeep1_fine_1.A : Nat → Option LoopAnn := fun _ => none
noncomputable def gamehallkeep1_fine_1.fin : St → Option Bool := resK tb Try.f33.results.toList (decRes gamehallkeep1_fine_1.rs)
theorem gamehallkeep1_fine_1.entry (N : Nat) (rec : List Item → St → Option Bool) (x : (argTy gamehallkeep1_fine_1.as).den) : seg tb (gamehallkeep1_fine_1.G N) gamehallkeep1_fine_1.A 0 rec gamehallkeep1_fine_1.fin segFuel [.code (bodyOf Try.f33)] (initSt Try.f33 (encArgs gamehallkeep1_fine_1.as x) []) = gamehallkeep1_fine_1.e N x := by kernel_rfl
theorem gamehallkeep1_fine_1.ok (N : Nat) : DOk Try.prog tb 33 (gamehallkeep1_fine_1.D N) := by
  refine ⟨Try.f33, Try.func33, by kernel_rfl, by kernel_rfl, fun x y h => ⟨gamehallkeep1_fine_1.G N, gamehallkeep1_fine_1.A, N, ?_, ?_⟩⟩
  · exact gamOf_ok tb_ok (Checked.mixed Try.checked) (fun p hp => nomatch hp)
  · rw [absFn_some (by kernel_rfl)]; exact (gamehallkeep1_fine_1.entry N (run tb (gamehallkeep1_fine_1.G N) gamehallkeep1_fine_1.A 0 gamehallkeep1_fine_1.fin N) x).trans h
/-! ### f46: slices.IndexFunc[[]gamehall/api.Errno,gamehall/api.Errno] -/
def slices_IndexFunc_api_Errno_api_Errno.as : List AK := [.d false (.slice 22 (.int .i64)), .f 33]
def slices_IndexFunc_api_Errno_api_Errno.rs : List (Bool × Ty) := [(false, (.int .i64))]
def slices_IndexFunc_api_Errno_api_Errno.D (N : Nat) : DFn := ⟨slices_IndexFunc_api_Errno_api_Errno.as, slices_IndexFunc_api_Errno_api_Errno.rs, fun x => slices_IndexFunc_api_Errno_api_Errno N x.1⟩
noncomputable def slices_IndexFunc_api_Errno_api_Errno.G (N : Nat) : Gam := gamOf [(33, gamehallkeep1_fine_1.D N)]
def slices_IndexFunc_api_Errno_api_Errno.A : Nat → Option LoopAnn := fun k => bif Nat.beq k 0 then some ⟨[0, 1, 7, 8], [], [], [], [], 0⟩ else none
noncomputable def slices_IndexFunc_api_Errno_api_Errno.fin : St → Option Int := resK tb Try.f46.results.toList (decRes slices_IndexFunc_api_Errno_api_Errno.rs)
noncomputable def slices_IndexFunc_api_Errno_api_Errno.k0 : List Item := stackAt [.r, .l, .r, .b] (bodyOf Try.f46) []
def slices_IndexFunc_api_Errno_api_Errno.st0 (s_ : (List Int)) (t7_ : Int) (t8_ : Int) : St := ⟨[.one (.fro 22 (.int .i64) s_), .one (.fn 33)] ++ List.replicate 5 (.one .any) ++ [.one (.int .i64 t7_), .one (.int .i64 t8_)] ++ List.replicate 10 (.one .any), []⟩
theorem slices_IndexFunc_api_Errno_api_Errno.step0 (N : Nat) (rec : List Item → St → Option Int) (s_ : (List Int)) (t7_ : Int) (t8_ : Int) : seg tb (slices_IndexFunc_api_Errno_api_Errno.G N) slices_IndexFunc_api_Errno_api_Errno.A 0 rec slices_IndexFunc_api_Errno_api_Errno.fin segFuel (loopBody slices_IndexFunc_api_Errno_api_Errno.k0) (slices_IndexFunc_api_Errno_api_Errno.st0 s_ t7_ t8_) = slices_IndexFunc_api_Errno_api_Errno.s0 N (fun s_ t7_ t8_ => rec slices_IndexFunc_api_Errno_api_Errno.k0 (slices_IndexFunc_api_Errno_api_Errno.st0 s_ t7_ t8_)) s_ t7_ t8_ := by kernel_rfl
theorem slices_IndexFunc_api_Errno_api_Errno.entry (N : Nat) (rec : List Item → St → Option Int) (x : (argTy slices_IndexFunc_api_Errno_api_Errno.as).den) : seg tb (slices_IndexFunc_api_Errno_api_Errno.G N) slices_IndexFunc_api_Errno_api_Errno.A 0 rec slices_IndexFunc_api_Errno_api_Errno.fin segFuel [.code (bodyOf Try.f46)] (initSt Try.f46 (encArgs slices_IndexFunc_api_Errno_api_Errno.as x) []) = slices_IndexFunc_api_Errno_api_Errno.e N (fun s_ t7_ t8_ => rec slices_IndexFunc_api_Errno_api_Errno.k0 (slices_IndexFunc_api_Errno_api_Errno.st0 s_ t7_ t8_)) x.1 := by kernel_rfl
theorem slices_IndexFunc_api_Errno_api_Errno.runs (N : Nat) : ∀ n, (∀ (s_ : (List Int)) (t7_ : Int) (t8_ : Int), run tb (slices_IndexFunc_api_Errno_api_Errno.G N) slices_IndexFunc_api_Errno_api_Errno.A 0 slices_IndexFunc_api_Errno_api_Errno.fin n slices_IndexFunc_api_Errno_api_Errno.k0 (slices_IndexFunc_api_Errno_api_Errno.st0 s_ t7_ t8_) = slices_IndexFunc_api_Errno_api_Errno.l0 N n s_ t7_ t8_)
  | 0 => fun _ _ _ => rfl
  | n + 1 => by
    have h0 := slices_IndexFunc_api_Errno_api_Errno.runs N n
    have e0 : (fun (s_ : (List Int)) (t7_ : Int) (t8_ : Int) => run tb (slices_IndexFunc_api_Errno_api_Errno.G N) slices_IndexFunc_api_Errno_api_Errno.A 0 slices_IndexFunc_api_Errno_api_Errno.fin n slices_IndexFunc_api_Errno_api_Errno.k0 (slices_IndexFunc_api_Errno_api_Errno.st0 s_ t7_ t8_)) = slices_IndexFunc_api_Errno_api_Errno.l0 N n := by funext s_ t7_ t8_; exact h0 s_ t7_ t8_
    have g0 : (∀ (s_ : (List Int)) (t7_ : Int) (t8_ : Int), run tb (slices_IndexFunc_api_Errno_api_Errno.G N) slices_IndexFunc_api_Errno_api_Errno.A 0 slices_IndexFunc_api_Errno_api_Errno.fin (n + 1) slices_IndexFunc_api_Errno_api_Errno.k0 (slices_IndexFunc_api_Errno_api_Errno.st0 s_ t7_ t8_) = slices_IndexFunc_api_Errno_api_Errno.l0 N (n + 1) s_ t7_ t8_) := by
      intro s_ t7_ t8_
      rw [run_succ (by kernel_rfl), slices_IndexFunc_api_Errno_api_Errno.step0, e0]; rfl
    exact g0
theorem slices_IndexFunc_api_Errno_api_Errno.ok (N : Nat) : DOk Try.prog tb 46 (slices_IndexFunc_api_Errno_api_Errno.D N) := by
  refine ⟨Try.f46, Try.func46, by kernel_rfl, by kernel_rfl, fun x y h => ⟨slices_IndexFunc_api_Errno_api_Errno.G N, slices_IndexFunc_api_Errno_api_Errno.A, N, ?_, ?_⟩⟩
  · exact gamOf_ok tb_ok (Checked.mixed Try.checked) (by simp only [List.forall_mem_cons, List.not_mem_nil, false_implies, implies_true, and_true]; exact gamehallkeep1_fine_1.ok N)
  · rw [absFn_some (by kernel_rfl)]
    refine (slices_IndexFunc_api_Errno_api_Errno.entry N (run tb (slices_IndexFunc_api_Errno_api_Errno.G N) slices_IndexFunc_api_Errno_api_Errno.A 0 slices_IndexFunc_api_Errno_api_Errno.fin N) x).trans ?_
    have e0 : (fun (s_ : (List Int)) (t7_ : Int) (t8_ : Int) => run tb (slices_IndexFunc_api_Errno_api_Errno.G N) slices_IndexFunc_api_Errno_api_Errno.A 0 slices_IndexFunc_api_Errno_api_Errno.fin N slices_IndexFunc_api_Errno_api_Errno.k0 (slices_IndexFunc_api_Errno_api_Errno.st0 s_ t7_ t8_)) = slices_IndexFunc_api_Errno_api_Errno.l0 N N := by funext s_ t7_ t8_; exact (slices_IndexFunc_api_Errno_api_Errno.runs N N) s_ t7_ t8_
    rw [e0]; exact h
/-! ### f32: slices.ContainsFunc[[]gamehall/api.Errno,gamehall/api.Errno] -/
def slices_ContainsFunc_api_Errno_api_Errno.as : List AK := [.d false (.slice 22 (.int .i64)), .f 33]
def slices_ContainsFunc_api_Errno_api_Errno.rs : List (Bool × Ty) := [(false, .bool)]
def slices_ContainsFunc_api_Errno_api_Errno.D (N : Nat) : DFn := ⟨slices_ContainsFunc_api_Errno_api_Errno.as, slices_ContainsFunc_api_Errno_api_Errno.rs, fun x => slices_ContainsFunc_api_Errno_api_Errno N x.1⟩
noncomputable def slices_ContainsFunc_api_Errno_api_Errno.G (N : Nat) : Gam := gamOf [(46, slices_IndexFunc_api_Errno_api_Errno.D N)]
def slices_ContainsFunc_api_Errno_api_Errno.A : Nat → Option LoopAnn := fun _ => none
noncomputable def slices_ContainsFunc_api_Errno_api_Errno.fin : St → Option Bool := resK tb Try.f32.results.toList (decRes slices_ContainsFunc_api_Errno_api_Errno.rs)
theorem slices_ContainsFunc_api_Errno_api_Errno.entry (N : Nat) (rec : List Item → St → Option Bool) (x : (argTy slices_ContainsFunc_api_Errno_api_Errno.as).den) : seg tb (slices_ContainsFunc_api_Errno_api_Errno.G N) slices_ContainsFunc_api_Errno_api_Errno.A 0 rec slices_ContainsFunc_api_Errno_api_Errno.fin segFuel [.code (bodyOf Try.f32)] (initSt Try.f32 (encArgs slices_ContainsFunc_api_Errno_api_Errno.as x) []) = slices_ContainsFunc_api_Errno_api_Errno.e N x.1 := by kernel_rfl
theorem slices_ContainsFunc_api_Errno_api_Errno.ok (N : Nat) : DOk Try.prog tb 32 (slices_ContainsFunc_api_Errno_api_Errno.D N) := by
  refine ⟨Try.f32, Try.func32, by kernel_rfl, by kernel_rfl, fun x y h => ⟨slices_ContainsFunc_api_Errno_api_Errno.G N, slices_ContainsFunc_api_Errno_api_Errno.A, N, ?_, ?_⟩⟩
  · exact gamOf_ok tb_ok (Checked.mixed Try.checked) (by simp only [List.forall_mem_cons, List.not_mem_nil, false_implies, implies_true, and_true]; exact slices_IndexFunc_api_Errno_api_Errno.ok N)
  · rw [absFn_some (by kernel_rfl)]; exact (slices_ContainsFunc_api_Errno_api_Errno.entry N (run tb (slices_ContainsFunc_api_Errno_api_Errno.G N) slices_ContainsFunc_api_Errno_api_Errno.A 0 slices_ContainsFunc_api_Errno_api_Errno.fin N) x).trans h
/-! ### f11: gamehall/gamehallkeep1.fine -/
def gamehallkeep1_fine.as : List AK := [.d false (.slice 22 (.int .i64))]
def gamehallkeep1_fine.rs : List (Bool × Ty) := [(false, .bool)]
def gamehallkeep1_fine.D (N : Nat) : DFn := ⟨gamehallkeep1_fine.as, gamehallkeep1_fine.rs, fun x => gamehallkeep1_fine N x⟩
noncomputable def gamehallkeep1_fine.G (N : Nat) : Gam := gamOf [(32, slices_ContainsFunc_api_Errno_api_Errno.D N)]
def gamehallkeep1_fine.A : Nat → Option LoopAnn := fun _ => none
noncomputable def gamehallkeep1_fine.fin : St → Option Bool := resK tb Try.f11.results.toList (decRes gamehallkeep1_fine.rs)
theorem gamehallkeep1_fine.entry (N : Nat) (rec : List Item → St → Option Bool) (x : (argTy gamehallkeep1_fine.as).den) : seg tb (gamehallkeep1_fine.G N) gamehallkeep1_fine.A 0 rec gamehallkeep1_fine.fin segFuel [.code (bodyOf Try.f11)] (initSt Try.f11 (encArgs gamehallkeep1_fine.as x) []) = gamehallkeep1_fine.e N x := by kernel_rfl
theorem gamehallkeep1_fine.ok (N : Nat) : DOk Try.prog tb 11 (gamehallkeep1_fine.D N) := by
  refine ⟨Try.f11, Try.func11, by kernel_rfl, by kernel_rfl, fun x y h => ⟨gamehallkeep1_fine.G N, gamehallkeep1_fine.A, N, ?_, ?_⟩⟩
  · exact gamOf_ok tb_ok (Checked.mixed Try.checked) (by simp only [List.forall_mem_cons, List.not_mem_nil, false_implies, implies_true, and_true]; exact slices_ContainsFunc_api_Errno_api_Errno.ok N)
  · rw [absFn_some (by kernel_rfl)]; exact (gamehallkeep1_fine.entry N (run tb (gamehallkeep1_fine.G N) gamehallkeep1_fine.A 0 gamehallkeep1_fine.fin N) x).trans h
/-! ### f3: gamehall/gamehallkeep1.SymmTurned -/
def gamehallkeep1_SymmTurned.as : List AK := [.d false (.int .i64), .d false (.int .i64), .d false (.int .i64)]
def gamehallkeep1_SymmTurned.rs : List (Bool × Ty) := [(false, .bool)]
def gamehallkeep1_SymmTurned.D (N : Nat) : DFn := ⟨gamehallkeep1_SymmTurned.as, gamehallkeep1_SymmTurned.rs, fun x => gamehallkeep1_SymmTurned N x.1 x.2.1 x.2.2⟩
noncomputable def gamehallkeep1_SymmTurned.G (N : Nat) : Gam := gamOf [(10, symm_Colours.D N), (11, gamehallkeep1_fine.D N)]
def gamehallkeep1_SymmTurned.A : Nat → Option LoopAnn := fun _ => none
noncomputable def gamehallkeep1_SymmTurned.fin : St → Option Bool := resK tb Try.f3.results.toList (decRes gamehallkeep1_SymmTurned.rs)
theorem gamehallkeep1_SymmTurned.entry (N : Nat) (rec : List Item → St → Option Bool) (x : (argTy gamehallkeep1_SymmTurned.as).den) : seg tb (gamehallkeep1_SymmTurned.G N) gamehallkeep1_SymmTurned.A 0 rec gamehallkeep1_SymmTurned.fin segFuel [.code (bodyOf Try.f3)] (initSt Try.f3 (encArgs gamehallkeep1_SymmTurned.as x) []) = gamehallkeep1_SymmTurned.e N x.1 x.2.1 x.2.2 := by kernel_rfl
theorem gamehallkeep1_SymmTurned.ok (N : Nat) : DOk Try.prog tb 3 (gamehallkeep1_SymmTurned.D N) := by
  refine ⟨Try.f3, Try.func3, by kernel_rfl, by kernel_rfl, fun x y h => ⟨gamehallkeep1_SymmTurned.G N, gamehallkeep1_SymmTurned.A, N, ?_, ?_⟩⟩
  · exact gamOf_ok tb_ok (Checked.mixed Try.checked) (by simp only [List.forall_mem_cons, List.not_mem_nil, false_implies, implies_true, and_true]; exact ⟨symm_Colours.ok N, gamehallkeep1_fine.ok N⟩)
  · rw [absFn_some (by kernel_rfl)]; exact (gamehallkeep1_SymmTurned.entry N (run tb (gamehallkeep1_SymmTurned.G N) gamehallkeep1_SymmTurned.A 0 gamehallkeep1_SymmTurned.fin N) x).trans h
/-! ### f34: gamehall/symm.check -/
def symm_check.as : List AK := [.d false (.int .i64), .d false (.int .i64), .d false (.int .i64)]
def symm_check.rs : List (Bool × Ty) := [(false, (.int .i64))]
def symm_check.D (N : Nat) : DFn := ⟨symm_check.as, symm_check.rs, fun x => symm_check N x.1 x.2.1 x.2.2⟩
noncomputable def symm_check.G (N : Nat) : Gam := gamOf [(29, symm_Check.D N), (30, symm_many.D N)]
def symm_check.A : Nat → Option LoopAnn := fun _ => none
noncomputable def symm_check.fin : St → Option Int := resK tb Try.f34.results.toList (decRes symm_check.rs)
theorem symm_check.entry (N : Nat) (rec : List Item → St → Option Int) (x : (argTy symm_check.as).den) : seg tb (symm_check.G N) symm_check.A 0 rec symm_check.fin segFuel [.code (bodyOf Try.f34)] (initSt Try.f34 (encArgs symm_check.as x) []) = symm_check.e N x.1 x.2.1 x.2.2 := by kernel_rfl
theorem symm_check.ok (N : Nat) : DOk Try.prog tb 34 (symm_check.D N) := by
  refine ⟨Try.f34, Try.func34, by kernel_rfl, by kernel_rfl, fun x y h => ⟨symm_check.G N, symm_check.A, N, ?_, ?_⟩⟩
  · exact gamOf_ok tb_ok (Checked.mixed Try.checked) (by simp only [List.forall_mem_cons, List.not_mem_nil, false_implies, implies_true, and_true]; exact ⟨symm_Check.ok N, symm_many.ok N⟩)
  · rw [absFn_some (by kernel_rfl)]; exact (symm_check.entry N (run tb (symm_check.G N) symm_check.A 0 symm_check.fin N) x).trans h
/-! ### f12: gamehall/symm.Compose -/
def symm_Compose.as : List AK := [.d false (.int .i64), .d false (.int .i64), .d false (.int .i64), .d false (.int .i64)]
def symm_Compose.rs : List (Bool × Ty) := [(false, (.int .i64)), (false, (.int .i64))]
def symm_Compose.D (N : Nat) : DFn := ⟨symm_Compose.as, symm_Compose.rs, fun x => symm_Compose N x.1 x.2.1 x.2.2.1 x.2.2.2⟩
noncomputable def symm_Compose.G (N : Nat) : Gam := gamOf [(34, symm_check.D N)]
def symm_Compose.A : Nat → Option LoopAnn := fun k => bif Nat.beq k 0 then some ⟨[0, 1, 2, 3, 15, 16], [], [], [], [], 0⟩ else none
noncomputable def symm_Compose.fin : St → Option (Int × Int) := resK tb Try.f12.results.toList (decRes symm_Compose.rs)
noncomputable def symm_Compose.k0 : List Item := stackAt [.r, .l, .r, .b] (bodyOf Try.f12) []
def symm_Compose.st0 (width : Int) (height : Int) (a_ : Int) (b_ : Int) (t15_ : Int) (t15_2 : Int) (t16_ : Int) : St := ⟨[.one (.int .i64 width), .one (.int .i64 height), .one (.int .i64 a_), .one (.int .i64 b_)] ++ List.replicate 11 (.one .any) ++ [.agg [.int .i64 t15_, .int .i64 t15_2], .one (.int .i64 t16_)] ++ List.replicate 26 (.one .any), []⟩
theorem symm_Compose.step0 (N : Nat) (rec : List Item → St → Option (Int × Int)) (width : Int) (height : Int) (a_ : Int) (b_ : Int) (t15_ : Int) (t15_2 : Int) (t16_ : Int) : seg tb (symm_Compose.G N) symm_Compose.A 0 rec symm_Compose.fin segFuel (loopBody symm_Compose.k0) (symm_Compose.st0 width height a_ b_ t15_ t15_2 t16_) = symm_Compose.s0 N (fun width height a_ b_ t15_ t15_2 t16_ => rec symm_Compose.k0 (symm_Compose.st0 width height a_ b_ t15_ t15_2 t16_)) width height a_ b_ t15_ t15_2 t16_ := by kernel_rfl
theorem symm_Compose.entry (N : Nat) (rec : List Item → St → Option (Int × Int)) (x : (argTy symm_Compose.as).den) : seg tb (symm_Compose.G N) symm_Compose.A 0 rec symm_Compose.fin segFuel [.code (bodyOf Try.f12)] (initSt Try.f12 (encArgs symm_Compose.as x) []) = symm_Compose.e N (fun width height a_ b_ t15_ t15_2 t16_ => rec symm_Compose.k0 (symm_Compose.st0 width height a_ b_ t15_ t15_2 t16_)) x.1 x.2.1 x.2.2.1 x.2.2.2 := by kernel_rfl
theorem symm_Compose.runs (N : Nat) : ∀ n, (∀ (width : Int) (height : Int) (a_ : Int) (b_ : Int) (t15_ : Int) (t15_2 : Int) (t16_ : Int), run tb (symm_Compose.G N) symm_Compose.A 0 symm_Compose.fin n symm_Compose.k0 (symm_Compose.st0 width height a_ b_ t15_ t15_2 t16_) = symm_Compose.l0 N n width height a_ b_ t15_ t15_2 t16_)
  | 0 => fun _ _ _ _ _ _ _ => rfl
  | n + 1 => by
    have h0 := symm_Compose.runs N n
    have e0 : (fun (width : Int) (height : Int) (a_ : Int) (b_ : Int) (t15_ : Int) (t15_2 : Int) (t16_ : Int) => run tb (symm_Compose.G N) symm_Compose.A 0 symm_Compose.fin n symm_Compose.k0 (symm_Compose.st0 width height a_ b_ t15_ t15_2 t16_)) = symm_Compose.l0 N n := by funext width height a_ b_ t15_ t15_2 t16_; exact h0 width height a_ b_ t15_ t15_2 t16_
    have g0 : (∀ (width : Int) (height : Int) (a_ : Int) (b_ : Int) (t15_ : Int) (t15_2 : Int) (t16_ : Int), run tb (symm_Compose.G N) symm_Compose.A 0 symm_Compose.fin (n + 1) symm_Compose.k0 (symm_Compose.st0 width height a_ b_ t15_ t15_2 t16_) = symm_Compose.l0 N (n + 1) width height a_ b_ t15_ t15_2 t16_) := by
      intro width height a_ b_ t15_ t15_2 t16_
      rw [run_succ (by kernel_rfl), symm_Compose.step0, e0]; rfl
    exact g0
theorem symm_Compose.ok (N : Nat) : DOk Try.prog tb 12 (symm_Compose.D N) := by
  refine ⟨Try.f12, Try.func12, by kernel_rfl, by kernel_rfl, fun x y h => ⟨symm_Compose.G N, symm_Compose.A, N, ?_, ?_⟩⟩
  · exact gamOf_ok tb_ok (Checked.mixed Try.checked) (by simp only [List.forall_mem_cons, List.not_mem_nil, false_implies, implies_true, and_true]; exact symm_check.ok N)
  · rw [absFn_some (by kernel_rfl)]
    refine (symm_Compose.entry N (run tb (symm_Compose.G N) symm_Compose.A 0 symm_Compose.fin N) x).trans ?_
    have e0 : (fun (width : Int) (height : Int) (a_ : Int) (b_ : Int) (t15_ : Int) (t15_2 : Int) (t16_ : Int) => run tb (symm_Compose.G N) symm_Compose.A 0 symm_Compose.fin N symm_Compose.k0 (symm_Compose.st0 width height a_ b_ t15_ t15_2 t16_)) = symm_Compose.l0 N N := by funext width height a_ b_ t15_ t15_2 t16_; exact (symm_Compose.runs N N) width height a_ b_ t15_ t15_2 t16_
    rw [e0]; exact h
/-! ### f15: gamehall/symm.Map -/
def symm_Map.as : List AK := [.d false (.int .i64), .d false (.int .i64), .d false (.int .i64), .d false (.int .i64)]
def symm_Map.rs : List (Bool × Ty) := [(false, (.int .i64)), (false, (.int .i64))]
def symm_Map.D (N : Nat) : DFn := ⟨symm_Map.as, symm_Map.rs, fun x => symm_Map N x.1 x.2.1 x.2.2.1 x.2.2.2⟩
noncomputable def symm_Map.G (N : Nat) : Gam := gamOf [(34, symm_check.D N), (35, symm_image.D N)]
def symm_Map.A : Nat → Option LoopAnn := fun _ => none
noncomputable def symm_Map.fin : St → Option (Int × Int) := resK tb Try.f15.results.toList (decRes symm_Map.rs)
theorem symm_Map.entry (N : Nat) (rec : List Item → St → Option (Int × Int)) (x : (argTy symm_Map.as).den) : seg tb (symm_Map.G N) symm_Map.A 0 rec symm_Map.fin segFuel [.code (bodyOf Try.f15)] (initSt Try.f15 (encArgs symm_Map.as x) []) = symm_Map.e N x.1 x.2.1 x.2.2.1 x.2.2.2 := by kernel_rfl
theorem symm_Map.ok (N : Nat) : DOk Try.prog tb 15 (symm_Map.D N) := by
  refine ⟨Try.f15, Try.func15, by kernel_rfl, by kernel_rfl, fun x y h => ⟨symm_Map.G N, symm_Map.A, N, ?_, ?_⟩⟩
  · exact gamOf_ok tb_ok (Checked.mixed Try.checked) (by simp only [List.forall_mem_cons, List.not_mem_nil, false_implies, implies_true, and_true]; exact ⟨symm_check.ok N, symm_image.ok N⟩)
  · rw [absFn_some (by kernel_rfl)]; exact (symm_Map.entry N (run tb (symm_Map.G N) symm_Map.A 0 symm_Map.fin N) x).trans h
/-! ### f23: gamehall/symm.Apply -/
def symm_Apply.as : List AK := [.d false (.int .i64), .d false (.int .i64), .d false (.int .i64), .d false (.slice 3 (.int .i64))]
def symm_Apply.rs : List (Bool × Ty) := [(false, (.slice 3 (.int .i64))), (false, (.int .i64))]
def symm_Apply.D (N : Nat) : DFn := ⟨symm_Apply.as, symm_Apply.rs, fun x => symm_Apply N x.1 x.2.1 x.2.2.1 x.2.2.2⟩
noncomputable def symm_Apply.G (N : Nat) : Gam := gamOf [(34, symm_check.D N), (35, symm_image.D N)]
def symm_Apply.A : Nat → Option LoopAnn := fun k => bif Nat.beq k 0 then some ⟨[0, 1, 2, 11, 30, 31, 32], [], [], [], [], 1⟩ else none
noncomputable def symm_Apply.fin : St → Option ((List Int) × Int) := resK tb Try.f23.results.toList (decRes symm_Apply.rs)
noncomputable def symm_Apply.k0 : List Item := stackAt [.r, .r, .r, .r, .l, .r, .b] (bodyOf Try.f23) []
def symm_Apply.st0 (width : Int) (height : Int) (s_ : Int) (t30_ : (List Int)) (t31_ : Int) (t32_ : Int) (out : (List Int)) : St := ⟨[.one (.int .i64 width), .one (.int .i64 height), .one (.int .i64 s_)] ++ List.replicate 8 (.one .any) ++ [.one (.own 0)] ++ List.replicate 18 (.one .any) ++ [.one (.fro 3 (.int .i64) t30_), .one (.int .i64 t31_), .one (.int .i64 t32_)] ++ List.replicate 14 (.one .any), [.row 3 (.int .i64) out]⟩
theorem symm_Apply.step0 (N : Nat) (rec : List Item → St → Option ((List Int) × Int)) (width : Int) (height : Int) (s_ : Int) (t30_ : (List Int)) (t31_ : Int) (t32_ : Int) (out : (List Int)) : seg tb (symm_Apply.G N) symm_Apply.A 0 rec symm_Apply.fin segFuel (loopBody symm_Apply.k0) (symm_Apply.st0 width height s_ t30_ t31_ t32_ out) = symm_Apply.s0 N (fun width height s_ t30_ t31_ t32_ out => rec symm_Apply.k0 (symm_Apply.st0 width height s_ t30_ t31_ t32_ out)) width height s_ t30_ t31_ t32_ out := by kernel_rfl
theorem symm_Apply.entry (N : Nat) (rec : List Item → St → Option ((List Int) × Int)) (x : (argTy symm_Apply.as).den) : seg tb (symm_Apply.G N) symm_Apply.A 0 rec symm_Apply.fin segFuel [.code (bodyOf Try.f23)] (initSt Try.f23 (encArgs symm_Apply.as x) []) = symm_Apply.e N (fun width height s_ t30_ t31_ t32_ out => rec symm_Apply.k0 (symm_Apply.st0 width height s_ t30_ t31_ t32_ out)) x.1 x.2.1 x.2.2.1 x.2.2.2 := by kernel_rfl
theorem symm_Apply.runs (N : Nat) : ∀ n, (∀ (width : Int) (height : Int) (s_ : Int) (t30_ : (List Int)) (t31_ : Int) (t32_ : Int) (out : (List Int)), run tb (symm_Apply.G N) symm_Apply.A 0 symm_Apply.fin n symm_Apply.k0 (symm_Apply.st0 width height s_ t30_ t31_ t32_ out) = symm_Apply.l0 N n width height s_ t30_ t31_ t32_ out)
  | 0 => fun _ _ _ _ _ _ _ => rfl
  | n + 1 => by
    have h0 := symm_Apply.runs N n
    have e0 : (fun (width : Int) (height : Int) (s_ : Int) (t30_ : (List Int)) (t31_ : Int) (t32_ : Int) (out : (List Int)) => run tb (symm_Apply.G N) symm_Apply.A 0 symm_Apply.fin n symm_Apply.k0 (symm_Apply.st0 width height s_ t30_ t31_ t32_ out)) = symm_Apply.l0 N n := by funext width height s_ t30_ t31_ t32_ out; exact h0 width height s_ t30_ t31_ t32_ out
    have g0 : (∀ (width : Int) (height : Int) (s_ : Int) (t30_ : (List Int)) (t31_ : Int) (t32_ : Int) (out : (List Int)), run tb (symm_Apply.G N) symm_Apply.A 0 symm_Apply.fin (n + 1) symm_Apply.k0 (symm_Apply.st0 width height s_ t30_ t31_ t32_ out) = symm_Apply.l0 N (n + 1) width height s_ t30_ t31_ t32_ out) := by
      intro width height s_ t30_ t31_ t32_ out
      rw [run_succ (by kernel_rfl), symm_Apply.step0, e0]; rfl
    exact g0
theorem symm_Apply.ok (N : Nat) : DOk Try.prog tb 23 (symm_Apply.D N) := by
  refine ⟨Try.f23, Try.func23, by kernel_rfl, by kernel_rfl, fun x y h => ⟨symm_Apply.G N, symm_Apply.A, N, ?_, ?_⟩⟩
  · exact gamOf_ok tb_ok (Checked.mixed Try.checked) (by simp only [List.forall_mem_cons, List.not_mem_nil, false_implies, implies_true, and_true]; exact ⟨symm_check.ok N, symm_image.ok N⟩)
  · rw [absFn_some (by kernel_rfl)]
    refine (symm_Apply.entry N (run tb (symm_Apply.G N) symm_Apply.A 0 symm_Apply.fin N) x).trans ?_
    have e0 : (fun (width : Int) (height : Int) (s_ : Int) (t30_ : (List Int)) (t31_ : Int) (t32_ : Int) (out : (List Int)) => run tb (symm_Apply.G N) symm_Apply.A 0 symm_Apply.fin N symm_Apply.k0 (symm_Apply.st0 width height s_ t30_ t31_ t32_ out)) = symm_Apply.l0 N N := by funext width height s_ t30_ t31_ t32_ out; exact (symm_Apply.runs N N) width height s_ t30_ t31_ t32_ out
    rw [e0]; exact h
/-! ### f22: slices.Equal[[]int,int] -/
def slices_Equal_int_int.as : List AK := [.d false (.slice 3 (.int .i64)), .d false (.slice 3 (.int .i64))]
def slices_Equal_int_int.rs : List (Bool × Ty) := [(false, .bool)]
def slices_Equal_int_int.D (N : Nat) : DFn := ⟨slices_Equal_int_int.as, slices_Equal_int_int.rs, fun x => slices_Equal_int_int N x.1 x.2⟩
noncomputable def slices_Equal_int_int.G (N : Nat) : Gam := gamOf []
def slices_Equal_int_int.A : Nat → Option LoopAnn := fun k => bif Nat.beq k 0 then some ⟨[0, 1, 12, 13], [], [], [], [], 0⟩ else none
noncomputable def slices_Equal_int_int.fin : St → Option Bool := resK tb Try.f22.results.toList (decRes slices_Equal_int_int.rs)
noncomputable def slices_Equal_int_int.k0 : List Item := stackAt [.r, .r, .l, .r, .b] (bodyOf Try.f22) []
def slices_Equal_int_int.st0 (s1_ : (List Int)) (s2_ : (List Int)) (t12_ : Int) (t13_ : Int) : St := ⟨[.one (.fro 3 (.int .i64) s1_), .one (.fro 3 (.int .i64) s2_)] ++ List.replicate 10 (.one .any) ++ [.one (.int .i64 t12_), .one (.int .i64 t13_)] ++ List.replicate 12 (.one .any), []⟩
theorem slices_Equal_int_int.step0 (N : Nat) (rec : List Item → St → Option Bool) (s1_ : (List Int)) (s2_ : (List Int)) (t12_ : Int) (t13_ : Int) : seg tb (slices_Equal_int_int.G N) slices_Equal_int_int.A 0 rec slices_Equal_int_int.fin segFuel (loopBody slices_Equal_int_int.k0) (slices_Equal_int_int.st0 s1_ s2_ t12_ t13_) = slices_Equal_int_int.s0 N (fun s1_ s2_ t12_ t13_ => rec slices_Equal_int_int.k0 (slices_Equal_int_int.st0 s1_ s2_ t12_ t13_)) s1_ s2_ t12_ t13_ := by kernel_rfl
theorem slices_Equal_int_int.entry (N : Nat) (rec : List Item → St → Option Bool) (x : (argTy slices_Equal_int_int.as).den) : seg tb (slices_Equal_int_int.G N) slices_Equal_int_int.A 0 rec slices_Equal_int_int.fin segFuel [.code (bodyOf Try.f22)] (initSt Try.f22 (encArgs slices_Equal_int_int.as x) []) = slices_Equal_int_int.e N (fun s1_ s2_ t12_ t13_ => rec slices_Equal_int_int.k0 (slices_Equal_int_int.st0 s1_ s2_ t12_ t13_)) x.1 x.2 := by kernel_rfl
theorem slices_Equal_int_int.runs (N : Nat) : ∀ n, (∀ (s1_ : (List Int)) (s2_ : (List Int)) (t12_ : Int) (t13_ : Int), run tb (slices_Equal_int_int.G N) slices_Equal_int_int.A 0 slices_Equal_int_int.fin n slices_Equal_int_int.k0 (slices_Equal_int_int.st0 s1_ s2_ t12_ t13_) = slices_Equal_int_int.l0 N n s1_ s2_ t12_ t13_)
  | 0 => fun _ _ _ _ => rfl
  | n + 1 => by
    have h0 := slices_Equal_int_int.runs N n
    have e0 : (fun (s1_ : (List Int)) (s2_ : (List Int)) (t12_ : Int) (t13_ : Int) => run tb (slices_Equal_int_int.G N) slices_Equal_int_int.A 0 slices_Equal_int_int.fin n slices_Equal_int_int.k0 (slices_Equal_int_int.st0 s1_ s2_ t12_ t13_)) = slices_Equal_int_int.l0 N n := by funext s1_ s2_ t12_ t13_; exact h0 s1_ s2_ t12_ t13_
    have g0 : (∀ (s1_ : (List Int)) (s2_ : (List Int)) (t12_ : Int) (t13_ : Int), run tb (slices_Equal_int_int.G N) slices_Equal_int_int.A 0 slices_Equal_int_int.fin (n + 1) slices_Equal_int_int.k0 (slices_Equal_int_int.st0 s1_ s2_ t12_ t13_) = slices_Equal_int_int.l0 N (n + 1) s1_ s2_ t12_ t13_) := by
      intro s1_ s2_ t12_ t13_
      rw [run_succ (by kernel_rfl), slices_Equal_int_int.step0, e0]; rfl
    exact g0
theorem slices_Equal_int_int.ok (N : Nat) : DOk Try.prog tb 22 (slices_Equal_int_int.D N) := by
  refine ⟨Try.f22, Try.func22, by kernel_rfl, by kernel_rfl, fun x y h => ⟨slices_Equal_int_int.G N, slices_Equal_int_int.A, N, ?_, ?_⟩⟩
  · exact gamOf_ok tb_ok (Checked.mixed Try.checked) (fun p hp => nomatch hp)
  · rw [absFn_some (by kernel_rfl)]
    refine (slices_Equal_int_int.entry N (run tb (slices_Equal_int_int.G N) slices_Equal_int_int.A 0 slices_Equal_int_int.fin N) x).trans ?_
    have e0 : (fun (s1_ : (List Int)) (s2_ : (List Int)) (t12_ : Int) (t13_ : Int) => run tb (slices_Equal_int_int.G N) slices_Equal_int_int.A 0 slices_Equal_int_int.fin N slices_Equal_int_int.k0 (slices_Equal_int_int.st0 s1_ s2_ t12_ t13_)) = slices_Equal_int_int.l0 N N := by funext s1_ s2_ t12_ t13_; exact (slices_Equal_int_int.runs N N) s1_ s2_ t12_ t13_
    rw [e0]; exact h
/-! ### f13: gamehall/gamehallkeep1.moved -/
def gamehallkeep1_moved.as : List AK := []
def gamehallkeep1_moved.rs : List (Bool × Ty) := [(false, .bool)]
def gamehallkeep1_moved.D (N : Nat) : DFn := ⟨gamehallkeep1_moved.as, gamehallkeep1_moved.rs, fun x => gamehallkeep1_moved N⟩
noncomputable def gamehallkeep1_moved.G (N : Nat) : Gam := gamOf [(15, symm_Map.D N), (23, symm_Apply.D N), (22, slices_Equal_int_int.D N)]
def gamehallkeep1_moved.A : Nat → Option LoopAnn := fun _ => none
noncomputable def gamehallkeep1_moved.fin : St → Option Bool := resK tb Try.f13.results.toList (decRes gamehallkeep1_moved.rs)
theorem gamehallkeep1_moved.entry (N : Nat) (rec : List Item → St → Option Bool) (x : (argTy gamehallkeep1_moved.as).den) : seg tb (gamehallkeep1_moved.G N) gamehallkeep1_moved.A 0 rec gamehallkeep1_moved.fin segFuel [.code (bodyOf Try.f13)] (initSt Try.f13 (encArgs gamehallkeep1_moved.as x) []) = gamehallkeep1_moved.e N := by kernel_rfl
theorem gamehallkeep1_moved.ok (N : Nat) : DOk Try.prog tb 13 (gamehallkeep1_moved.D N) := by
  refine ⟨Try.f13, Try.func13, by kernel_rfl, by kernel_rfl, fun x y h => ⟨gamehallkeep1_moved.G N, gamehallkeep1_moved.A, N, ?_, ?_⟩⟩
  · exact gamOf_ok tb_ok (Checked.mixed Try.checked) (by simp only [List.forall_mem_cons, List.not_mem_nil, false_implies, implies_true, and_true]; exact ⟨symm_Map.ok N, symm_Apply.ok N, slices_Equal_int_int.ok N⟩)
  · rw [absFn_some (by kernel_rfl)]; exact (gamehallkeep1_moved.entry N (run tb (gamehallkeep1_moved.G N) gamehallkeep1_moved.A 0 gamehallkeep1_moved.fin N) x).trans h
/-! ### f14: gamehall/symm.Inverse -/
def symm_Inverse.as : List AK := [.d false (.int .i64), .d false (.int .i64), .d false (.int .i64)]
def symm_Inverse.rs : List (Bool × Ty) := [(false, (.int .i64)), (false, (.int .i64))]
def symm_Inverse.D (N : Nat) : DFn := ⟨symm_Inverse.as, symm_Inverse.rs, fun x => symm_Inverse N x.1 x.2.1 x.2.2⟩
noncomputable def symm_Inverse.G (N : Nat) : Gam := gamOf [(34, symm_check.D N)]
def symm_Inverse.A : Nat → Option LoopAnn := fun _ => none
noncomputable def symm_Inverse.fin : St → Option (Int × Int) := resK tb Try.f14.results.toList (decRes symm_Inverse.rs)
theorem symm_Inverse.entry (N : Nat) (rec : List Item → St → Option (Int × Int)) (x : (argTy symm_Inverse.as).den) : seg tb (symm_Inverse.G N) symm_Inverse.A 0 rec symm_Inverse.fin segFuel [.code (bodyOf Try.f14)] (initSt Try.f14 (encArgs symm_Inverse.as x) []) = symm_Inverse.e N x.1 x.2.1 x.2.2 := by kernel_rfl
theorem symm_Inverse.ok (N : Nat) : DOk Try.prog tb 14 (symm_Inverse.D N) := by
  refine ⟨Try.f14, Try.func14, by kernel_rfl, by kernel_rfl, fun x y h => ⟨symm_Inverse.G N, symm_Inverse.A, N, ?_, ?_⟩⟩
  · exact gamOf_ok tb_ok (Checked.mixed Try.checked) (by simp only [List.forall_mem_cons, List.not_mem_nil, false_implies, implies_true, and_true]; exact symm_check.ok N)
  · rw [absFn_some (by kernel_rfl)]; exact (symm_Inverse.entry N (run tb (symm_Inverse.G N) symm_Inverse.A 0 symm_Inverse.fin N) x).trans h
/-! ### f4: gamehall/gamehallkeep1.SymmGroup -/
def gamehallkeep1_SymmGroup.as : List AK := [.d false (.int .i64), .d false (.int .i64), .d false (.int .i64), .d false (.int .i64), .d false (.int .i64)]
def gamehallkeep1_SymmGroup.rs : List (Bool × Ty) := [(false, .bool)]
def gamehallkeep1_SymmGroup.D (N : Nat) : DFn := ⟨gamehallkeep1_SymmGroup.as, gamehallkeep1_SymmGroup.rs, fun x => gamehallkeep1_SymmGroup N x.1 x.2.1 x.2.2.1 x.2.2.2.1 x.2.2.2.2⟩
noncomputable def gamehallkeep1_SymmGroup.G (N : Nat) : Gam := gamOf [(12, symm_Compose.D N), (13, gamehallkeep1_moved.D N), (14, symm_Inverse.D N), (15, symm_Map.D N), (11, gamehallkeep1_fine.D N)]
def gamehallkeep1_SymmGroup.A : Nat → Option LoopAnn := fun _ => none
noncomputable def gamehallkeep1_SymmGroup.fin : St → Option Bool := resK tb Try.f4.results.toList (decRes gamehallkeep1_SymmGroup.rs)
theorem gamehallkeep1_SymmGroup.entry (N : Nat) (rec : List Item → St → Option Bool) (x : (argTy gamehallkeep1_SymmGroup.as).den) : seg tb (gamehallkeep1_SymmGroup.G N) gamehallkeep1_SymmGroup.A 0 rec gamehallkeep1_SymmGroup.fin segFuel [.code (bodyOf Try.f4)] (initSt Try.f4 (encArgs gamehallkeep1_SymmGroup.as x) []) = gamehallkeep1_SymmGroup.e N x.1 x.2.1 x.2.2.1 x.2.2.2.1 x.2.2.2.2 := by kernel_rfl
theorem gamehallkeep1_SymmGroup.ok (N : Nat) : DOk Try.prog tb 4 (gamehallkeep1_SymmGroup.D N) := by
  refine ⟨Try.f4, Try.func4, by kernel_rfl, by kernel_rfl, fun x y h => ⟨gamehallkeep1_SymmGroup.G N, gamehallkeep1_SymmGroup.A, N, ?_, ?_⟩⟩
  · exact gamOf_ok tb_ok (Checked.mixed Try.checked) (by simp only [List.forall_mem_cons, List.not_mem_nil, false_implies, implies_true, and_true]; exact ⟨symm_Compose.ok N, gamehallkeep1_moved.ok N, symm_Inverse.ok N, symm_Map.ok N, gamehallkeep1_fine.ok N⟩)
  · rw [absFn_some (by kernel_rfl)]; exact (gamehallkeep1_SymmGroup.entry N (run tb (gamehallkeep1_SymmGroup.G N) gamehallkeep1_SymmGroup.A 0 gamehallkeep1_SymmGroup.fin N) x).trans h
/-! ### f50: cmp.isNaN[int] -/
def cmp_isNaN_int.as : List AK := [.d false (.int .i64)]
def cmp_isNaN_int.rs : List (Bool × Ty) := [(false, .bool)]
def cmp_isNaN_int.D (N : Nat) : DFn := ⟨cmp_isNaN_int.as, cmp_isNaN_int.rs, fun x => cmp_isNaN_int N x⟩
noncomputable def cmp_isNaN_int.G (N : Nat) : Gam := gamOf []
def cmp_isNaN_int.A : Nat → Option LoopAnn := fun _ => none
noncomputable def cmp_isNaN_int.fin : St → Option Bool := resK tb Try.f50.results.toList (decRes cmp_isNaN_int.rs)
theorem cmp_isNaN_int.entry (N : Nat) (rec : List Item → St → Option Bool) (x : (argTy cmp_isNaN_int.as).den) : seg tb (cmp_isNaN_int.G N) cmp_isNaN_int.A 0 rec cmp_isNaN_int.fin segFuel [.code (bodyOf Try.f50)] (initSt Try.f50 (encArgs cmp_isNaN_int.as x) []) = cmp_isNaN_int.e N x := by kernel_rfl
theorem cmp_isNaN_int.ok (N : Nat) : DOk Try.prog tb 50 (cmp_isNaN_int.D N) := by
  refine ⟨Try.f50, Try.func50, by kernel_rfl, by kernel_rfl, fun x y h => ⟨cmp_isNaN_int.G N, cmp_isNaN_int.A, N, ?_, ?_⟩⟩
  · exact gamOf_ok tb_ok (Checked.mixed Try.checked) (fun p hp => nomatch hp)
  · rw [absFn_some (by kernel_rfl)]; exact (cmp_isNaN_int.entry N (run tb (cmp_isNaN_int.G N) cmp_isNaN_int.A 0 cmp_isNaN_int.fin N) x).trans h
/-! ### f48: cmp.Compare[int] -/
def cmp_Compare_int.as : List AK := [.d false (.int .i64), .d false (.int .i64)]
def cmp_Compare_int.rs : List (Bool × Ty) := [(false, (.int .i64))]
def cmp_Compare_int.D (N : Nat) : DFn := ⟨cmp_Compare_int.as, cmp_Compare_int.rs, fun x => cmp_Compare_int N x.1 x.2⟩
noncomputable def cmp_Compare_int.G (N : Nat) : Gam := gamOf [(50, cmp_isNaN_int.D N)]
def cmp_Compare_int.A : Nat → Option LoopAnn := fun _ => none
noncomputable def cmp_Compare_int.fin : St → Option Int := resK tb Try.f48.results.toList (decRes cmp_Compare_int.rs)
theorem cmp_Compare_int.entry (N : Nat) (rec : List Item → St → Option Int) (x : (argTy cmp_Compare_int.as).den) : seg tb (cmp_Compare_int.G N) cmp_Compare_int.A 0 rec cmp_Compare_int.fin segFuel [.code (bodyOf Try.f48)] (initSt Try.f48 (encArgs cmp_Compare_int.as x) []) = cmp_Compare_int.e N x.1 x.2 := by kernel_rfl
theorem cmp_Compare_int.ok (N : Nat) : DOk Try.prog tb 48 (cmp_Compare_int.D N) := by
  refine ⟨Try.f48, Try.func48, by kernel_rfl, by kernel_rfl, fun x y h => ⟨cmp_Compare_int.G N, cmp_Compare_int.A, N, ?_, ?_⟩⟩
  · exact gamOf_ok tb_ok (Checked.mixed Try.checked) (by simp only [List.forall_mem_cons, List.not_mem_nil, false_implies, implies_true, and_true]; exact cmp_isNaN_int.ok N)
  · rw [absFn_some (by kernel_rfl)]; exact (cmp_Compare_int.entry N (run tb (cmp_Compare_int.G N) cmp_Compare_int.A 0 cmp_Compare_int.fin N) x).trans h
/-! ### f39: slices.Compare[[]int,int] -/
def slices_Compare_int_int.as : List AK := [.d false (.slice 3 (.int .i64)), .d false (.slice 3 (.int .i64))]
def slices_Compare_int_int.rs : List (Bool × Ty) := [(false, (.int .i64))]
def slices_Compare_int_int.D (N : Nat) : DFn := ⟨slices_Compare_int_int.as, slices_Compare_int_int.rs, fun x => slices_Compare_int_int N x.1 x.2⟩
noncomputable def slices_Compare_int_int.G (N : Nat) : Gam := gamOf [(48, cmp_Compare_int.D N)]
def slices_Compare_int_int.A : Nat → Option LoopAnn := fun k => bif Nat.beq k 0 then some ⟨[0, 1, 9, 10, 11], [], [], [], [], 0⟩ else none
noncomputable def slices_Compare_int_int.fin : St → Option Int := resK tb Try.f39.results.toList (decRes slices_Compare_int_int.rs)
noncomputable def slices_Compare_int_int.k0 : List Item := stackAt [.r, .l, .r, .b] (bodyOf Try.f39) []
def slices_Compare_int_int.st0 (s1_ : (List Int)) (s2_ : (List Int)) (t9_ : (List Int)) (t10_ : Int) (t11_ : Int) : St := ⟨[.one (.fro 3 (.int .i64) s1_), .one (.fro 3 (.int .i64) s2_)] ++ List.replicate 7 (.one .any) ++ [.one (.fro 3 (.int .i64) t9_), .one (.int .i64 t10_), .one (.int .i64 t11_)] ++ List.replicate 24 (.one .any), []⟩
theorem slices_Compare_int_int.step0 (N : Nat) (rec : List Item → St → Option Int) (s1_ : (List Int)) (s2_ : (List Int)) (t9_ : (List Int)) (t10_ : Int) (t11_ : Int) : seg tb (slices_Compare_int_int.G N) slices_Compare_int_int.A 0 rec slices_Compare_int_int.fin segFuel (loopBody slices_Compare_int_int.k0) (slices_Compare_int_int.st0 s1_ s2_ t9_ t10_ t11_) = slices_Compare_int_int.s0 N (fun s1_ s2_ t9_ t10_ t11_ => rec slices_Compare_int_int.k0 (slices_Compare_int_int.st0 s1_ s2_ t9_ t10_ t11_)) s1_ s2_ t9_ t10_ t11_ := by kernel_rfl
theorem slices_Compare_int_int.entry (N : Nat) (rec : List Item → St → Option Int) (x : (argTy slices_Compare_int_int.as).den) : seg tb (slices_Compare_int_int.G N) slices_Compare_int_int.A 0 rec slices_Compare_int_int.fin segFuel [.code (bodyOf Try.f39)] (initSt Try.f39 (encArgs slices_Compare_int_int.as x) []) = slices_Compare_int_int.e N (fun s1_ s2_ t9_ t10_ t11_ => rec slices_Compare_int_int.k0 (slices_Compare_int_int.st0 s1_ s2_ t9_ t10_ t11_)) x.1 x.2 := by kernel_rfl
theorem slices_Compare_int_int.runs (N : Nat) : ∀ n, (∀ (s1_ : (List Int)) (s2_ : (List Int)) (t9_ : (List Int)) (t10_ : Int) (t11_ : Int), run tb (slices_Compare_int_int.G N) slices_Compare_int_int.A 0 slices_Compare_int_int.fin n slices_Compare_int_int.k0 (slices_Compare_int_int.st0 s1_ s2_ t9_ t10_ t11_) = slices_Compare_int_int.l0 N n s1_ s2_ t9_ t10_ t11_)
  | 0 => fun _ _ _ _ _ => rfl
  | n + 1 => by
    have h0 := slices_Compare_int_int.runs N n
    have e0 : (fun (s1_ : (List Int)) (s2_ : (List Int)) (t9_ : (List Int)) (t10_ : Int) (t11_ : Int) => run tb (slices_Compare_int_int.G N) slices_Compare_int_int.A 0 slices_Compare_int_int.fin n slices_Compare_int_int.k0 (slices_Compare_int_int.st0 s1_ s2_ t9_ t10_ t11_)) = slices_Compare_int_int.l0 N n := by funext s1_ s2_ t9_ t10_ t11_; exact h0 s1_ s2_ t9_ t10_ t11_
    have g0 : (∀ (s1_ : (List Int)) (s2_ : (List Int)) (t9_ : (List Int)) (t10_ : Int) (t11_ : Int), run tb (slices_Compare_int_int.G N) slices_Compare_int_int.A 0 slices_Compare_int_int.fin (n + 1) slices_Compare_int_int.k0 (slices_Compare_int_int.st0 s1_ s2_ t9_ t10_ t11_) = slices_Compare_int_int.l0 N (n + 1) s1_ s2_ t9_ t10_ t11_) := by
      intro s1_ s2_ t9_ t10_ t11_
      rw [run_succ (by kernel_rfl), slices_Compare_int_int.step0, e0]; rfl
    exact g0
theorem slices_Compare_int_int.ok (N : Nat) : DOk Try.prog tb 39 (slices_Compare_int_int.D N) := by
  refine ⟨Try.f39, Try.func39, by kernel_rfl, by kernel_rfl, fun x y h => ⟨slices_Compare_int_int.G N, slices_Compare_int_int.A, N, ?_, ?_⟩⟩
  · exact gamOf_ok tb_ok (Checked.mixed Try.checked) (by simp only [List.forall_mem_cons, List.not_mem_nil, false_implies, implies_true, and_true]; exact cmp_Compare_int.ok N)
  · rw [absFn_some (by kernel_rfl)]
    refine (slices_Compare_int_int.entry N (run tb (slices_Compare_int_int.G N) slices_Compare_int_int.A 0 slices_Compare_int_int.fin N) x).trans ?_
    have e0 : (fun (s1_ : (List Int)) (s2_ : (List Int)) (t9_ : (List Int)) (t10_ : Int) (t11_ : Int) => run tb (slices_Compare_int_int.G N) slices_Compare_int_int.A 0 slices_Compare_int_int.fin N slices_Compare_int_int.k0 (slices_Compare_int_int.st0 s1_ s2_ t9_ t10_ t11_)) = slices_Compare_int_int.l0 N N := by funext s1_ s2_ t9_ t10_ t11_; exact (slices_Compare_int_int.runs N N) s1_ s2_ t9_ t10_ t11_
    rw [e0]; exact h
/-! ### f21: gamehall/symm.Canon -/
def symm_Canon.as : List AK := [.d false (.int .i64), .d false (.int .i64), .d false (.slice 3 (.int .i64))]
def symm_Canon.rs : List (Bool × Ty) := [(false, (.slice 3 (.int .i64))), (false, (.int .i64)), (false, (.int .i64))]
def symm_Canon.D (N : Nat) : DFn := ⟨symm_Canon.as, symm_Canon.rs, fun x => symm_Canon N x.1 x.2.1 x.2.2⟩
noncomputable def symm_Canon.G (N : Nat) : Gam := gamOf [(23, symm_Apply.D N), (30, symm_many.D N), (39, slices_Compare_int_int.D N)]
def symm_Canon.A : Nat → Option LoopAnn := fun k => bif Nat.beq k 0 then some ⟨[0, 1, 2, 9, 11, 12], [], [], [(false, 9, 0, 0)], [], 1⟩ else none
noncomputable def symm_Canon.fin : St → Option ((List Int) × (Int × Int)) := resK tb Try.f21.results.toList (decRes symm_Canon.rs)
noncomputable def symm_Canon.k0 : List Item := stackAt [.r, .r, .r, .r, .l, .r, .b] (bodyOf Try.f21) []
def symm_Canon.st0 (width : Int) (height : Int) (cells : (List Int)) (by_ : Int) (s_ : Int) (best : (List Int)) : St := ⟨[.one (.int .i64 width), .one (.int .i64 height), .one (.fro 3 (.int .i64) cells)] ++ List.replicate 6 (.one .any) ++ [.one (.own 0), .one .any, .one (.int .i64 by_), .one (.int .i64 s_)] ++ List.replicate 35 (.one .any), [.row 3 (.int .i64) best]⟩
theorem symm_Canon.step0 (N : Nat) (rec : List Item → St → Option ((List Int) × (Int × Int))) (width : Int) (height : Int) (cells : (List Int)) (by_ : Int) (s_ : Int) (best : (List Int)) : seg tb (symm_Canon.G N) symm_Canon.A 0 rec symm_Canon.fin segFuel (loopBody symm_Canon.k0) (symm_Canon.st0 width height cells by_ s_ best) = symm_Canon.s0 N (fun width height cells by_ s_ best => rec symm_Canon.k0 (symm_Canon.st0 width height cells by_ s_ best)) width height cells by_ s_ best := by kernel_rfl
theorem symm_Canon.entry (N : Nat) (rec : List Item → St → Option ((List Int) × (Int × Int))) (x : (argTy symm_Canon.as).den) : seg tb (symm_Canon.G N) symm_Canon.A 0 rec symm_Canon.fin segFuel [.code (bodyOf Try.f21)] (initSt Try.f21 (encArgs symm_Canon.as x) []) = symm_Canon.e N (fun width height cells by_ s_ best => rec symm_Canon.k0 (symm_Canon.st0 width height cells by_ s_ best)) x.1 x.2.1 x.2.2 := by kernel_rfl
theorem symm_Canon.runs (N : Nat) : ∀ n, (∀ (width : Int) (height : Int) (cells : (List Int)) (by_ : Int) (s_ : Int) (best : (List Int)), run tb (symm_Canon.G N) symm_Canon.A 0 symm_Canon.fin n symm_Canon.k0 (symm_Canon.st0 width height cells by_ s_ best) = symm_Canon.l0 N n width height cells by_ s_ best)
  | 0 => fun _ _ _ _ _ _ => rfl
  | n + 1 => by
    have h0 := symm_Canon.runs N n
    have e0 : (fun (width : Int) (height : Int) (cells : (List Int)) (by_ : Int) (s_ : Int) (best : (List Int)) => run tb (symm_Canon.G N) symm_Canon.A 0 symm_Canon.fin n symm_Canon.k0 (symm_Canon.st0 width height cells by_ s_ best)) = symm_Canon.l0 N n := by funext width height cells by_ s_ best; exact h0 width height cells by_ s_ best
    have g0 : (∀ (width : Int) (height : Int) (cells : (List Int)) (by_ : Int) (s_ : Int) (best : (List Int)), run tb (symm_Canon.G N) symm_Canon.A 0 symm_Canon.fin (n + 1) symm_Canon.k0 (symm_Canon.st0 width height cells by_ s_ best) = symm_Canon.l0 N (n + 1) width height cells by_ s_ best) := by
      intro width height cells by_ s_ best
      rw [run_succ (by kernel_rfl), symm_Canon.step0, e0]; rfl
    exact g0
theorem symm_Canon.ok (N : Nat) : DOk Try.prog tb 21 (symm_Canon.D N) := by
  refine ⟨Try.f21, Try.func21, by kernel_rfl, by kernel_rfl, fun x y h => ⟨symm_Canon.G N, symm_Canon.A, N, ?_, ?_⟩⟩
  · exact gamOf_ok tb_ok (Checked.mixed Try.checked) (by simp only [List.forall_mem_cons, List.not_mem_nil, false_implies, implies_true, and_true]; exact ⟨symm_Apply.ok N, symm_many.ok N, slices_Compare_int_int.ok N⟩)
  · rw [absFn_some (by kernel_rfl)]
    refine (symm_Canon.entry N (run tb (symm_Canon.G N) symm_Canon.A 0 symm_Canon.fin N) x).trans ?_
    have e0 : (fun (width : Int) (height : Int) (cells : (List Int)) (by_ : Int) (s_ : Int) (best : (List Int)) => run tb (symm_Canon.G N) symm_Canon.A 0 symm_Canon.fin N symm_Canon.k0 (symm_Canon.st0 width height cells by_ s_ best)) = symm_Canon.l0 N N := by funext width height cells by_ s_ best; exact (symm_Canon.runs N N) width height cells by_ s_ best
    rw [e0]; exact h
/-! ### f7: gamehall/gamehallkeep1.SymmCanonical -/
def gamehallkeep1_SymmCanonical.as : List AK := [.d false (.int .i64), .d false (.int .i64), .d false (.int .i64), .d false (.slice 3 (.int .i64))]
def gamehallkeep1_SymmCanonical.rs : List (Bool × Ty) := [(false, .bool)]
def gamehallkeep1_SymmCanonical.D (N : Nat) : DFn := ⟨gamehallkeep1_SymmCanonical.as, gamehallkeep1_SymmCanonical.rs, fun x => gamehallkeep1_SymmCanonical N x.1 x.2.1 x.2.2.1 x.2.2.2⟩
noncomputable def gamehallkeep1_SymmCanonical.G (N : Nat) : Gam := gamOf [(21, symm_Canon.D N), (22, slices_Equal_int_int.D N), (13, gamehallkeep1_moved.D N), (23, symm_Apply.D N), (11, gamehallkeep1_fine.D N)]
def gamehallkeep1_SymmCanonical.A : Nat → Option LoopAnn := fun _ => none
noncomputable def gamehallkeep1_SymmCanonical.fin : St → Option Bool := resK tb Try.f7.results.toList (decRes gamehallkeep1_SymmCanonical.rs)
theorem gamehallkeep1_SymmCanonical.entry (N : Nat) (rec : List Item → St → Option Bool) (x : (argTy gamehallkeep1_SymmCanonical.as).den) : seg tb (gamehallkeep1_SymmCanonical.G N) gamehallkeep1_SymmCanonical.A 0 rec gamehallkeep1_SymmCanonical.fin segFuel [.code (bodyOf Try.f7)] (initSt Try.f7 (encArgs gamehallkeep1_SymmCanonical.as x) []) = gamehallkeep1_SymmCanonical.e N x.1 x.2.1 x.2.2.1 x.2.2.2 := by kernel_rfl
theorem gamehallkeep1_SymmCanonical.ok (N : Nat) : DOk Try.prog tb 7 (gamehallkeep1_SymmCanonical.D N) := by
  refine ⟨Try.f7, Try.func7, by kernel_rfl, by kernel_rfl, fun x y h => ⟨gamehallkeep1_SymmCanonical.G N, gamehallkeep1_SymmCanonical.A, N, ?_, ?_⟩⟩
  · exact gamOf_ok tb_ok (Checked.mixed Try.checked) (by simp only [List.forall_mem_cons, List.not_mem_nil, false_implies, implies_true, and_true]; exact ⟨symm_Canon.ok N, slices_Equal_int_int.ok N, gamehallkeep1_moved.ok N, symm_Apply.ok N, gamehallkeep1_fine.ok N⟩)
  · rw [absFn_some (by kernel_rfl)]; exact (gamehallkeep1_SymmCanonical.entry N (run tb (gamehallkeep1_SymmCanonical.G N) gamehallkeep1_SymmCanonical.A 0 gamehallkeep1_SymmCanonical.fin N) x).trans h
end Go.Proofs.Ytaaljooihacpgaa.Am
