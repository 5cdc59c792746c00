/- PRINTED by gen.py: the abstract machine evaluates the loaded code to these functions. -/
import Derived.Test.YtiacnffpgdikoaaFnm
import Derived.Test.YtiacnffpgdikoaaChecked
import Derived.Eval
set_option linter.unusedVariables false
set_option linter.unusedSimpArgs false
namespace Go.Proofs.Ytiacnffpgdikoaa.Am
open Go
noncomputable section
set_option maxRecDepth 100000
def ti3 : TI := ⟨.int .i64, 1, 8, some (.int .i64), [.int .i64 0], false⟩
def ti4 : TI := ⟨.bool, 1, 1, some .bool, [.bool false], false⟩
def ti5 : TI := ⟨.int .u8, 1, 1, some (.int .u8), [.int .u8 0], false⟩
def ti9 : TI := ⟨.str, 1, 16, some .str, [.str (⟨#[]⟩ : ByteArray)], false⟩
def ti22 : TI := ⟨.slice 69, 1, 24, some (.slice 69 (.prod (.int .u8) (.prod (.int .i64) (.prod (.int .i64) (.slice 101 (.prod (.int .i64) (.prod (.int .i64) (.prod (.int .i64) (.int .i64))))))))), [.nilS], false⟩
def ti23 : TI := ⟨.slice 3, 1, 24, some (.slice 3 (.int .i64)), [.nilS], false⟩
def ti24 : TI := ⟨.slice 71, 1, 24, some (.slice 71 (.prod (.int .i64) (.prod (.int .i64) (.prod (.int .i64) .bool)))), [.nilS], false⟩
def ti26 : TI := ⟨.struct [(0, 9), (1, 3), (2, 3), (3, 22), (4, 23), (5, 4), (6, 4), (7, 24), (8, 3), (9, 3), (10, 3)], 11, 136, some (.prod .str (.prod (.int .i64) (.prod (.int .i64) (.prod (.slice 69 (.prod (.int .u8) (.prod (.int .i64) (.prod (.int .i64) (.slice 101 (.prod (.int .i64) (.prod (.int .i64) (.prod (.int .i64) (.int .i64))))))))) (.prod (.slice 3 (.int .i64)) (.prod .bool (.prod .bool (.prod (.slice 71 (.prod (.int .i64) (.prod (.int .i64) (.prod (.int .i64) .bool)))) (.prod (.int .i64) (.prod (.int .i64) (.int .i64))))))))))), [.str (⟨#[]⟩ : ByteArray), .int .i64 0, .int .i64 0, .nilS, .nilS, .bool false, .bool false, .nilS, .int .i64 0, .int .i64 0, .int .i64 0], false⟩
def ti27 : TI := ⟨.array 2 23, 2, 48, some (.prod (.slice 3 (.int .i64)) (.slice 3 (.int .i64))), [.nilS, .nilS], false⟩
def ti29 : TI := ⟨.struct [(0, 23), (1, 27), (3, 3), (4, 3)], 5, 88, some (.prod (.slice 3 (.int .i64)) (.prod (.prod (.slice 3 (.int .i64)) (.slice 3 (.int .i64))) (.prod (.int .i64) (.int .i64)))), [.nilS, .nilS, .nilS, .int .i64 0, .int .i64 0], false⟩
def ti30 : TI := ⟨.int .i64, 1, 8, some (.int .i64), [.int .i64 0], false⟩
def ti36 : TI := ⟨.slice 42, 1, 24, some (.slice 42 (.prod (.int .i64) (.prod (.int .i64) (.int .i64)))), [.nilS], false⟩
def ti42 : TI := ⟨.struct [(0, 3), (1, 3), (2, 3)], 3, 24, some (.prod (.int .i64) (.prod (.int .i64) (.int .i64))), [.int .i64 0, .int .i64 0, .int .i64 0], true⟩
def ti67 : TI := ⟨.slice 101, 1, 24, some (.slice 101 (.prod (.int .i64) (.prod (.int .i64) (.prod (.int .i64) (.int .i64))))), [.nilS], false⟩
def ti69 : TI := ⟨.struct [(0, 5), (1, 3), (2, 3), (3, 67)], 4, 48, some (.prod (.int .u8) (.prod (.int .i64) (.prod (.int .i64) (.slice 101 (.prod (.int .i64) (.prod (.int .i64) (.prod (.int .i64) (.int .i64)))))))), [.int .u8 0, .int .i64 0, .int .i64 0, .nilS], false⟩
def ti71 : TI := ⟨.struct [(0, 3), (1, 3), (2, 3), (3, 4)], 4, 32, some (.prod (.int .i64) (.prod (.int .i64) (.prod (.int .i64) .bool))), [.int .i64 0, .int .i64 0, .int .i64 0, .bool false], false⟩
def ti76 : TI := ⟨.slice 30, 1, 24, some (.slice 30 (.int .i64)), [.nilS], false⟩
def ti78 : TI := ⟨.other, 1, 8, none, [.nilF], false⟩
def ti101 : TI := ⟨.struct [(0, 3), (1, 3), (2, 3), (3, 3)], 4, 32, some (.prod (.int .i64) (.prod (.int .i64) (.prod (.int .i64) (.int .i64)))), [.int .i64 0, .int .i64 0, .int .i64 0, .int .i64 0], false⟩
def ti104 : TI := ⟨.other, 1, 8, none, [.nilF], false⟩
def ti108 : TI := ⟨.int .u64, 1, 8, some (.int .u64), [.int .u64 0], false⟩
def ti128 : TI := ⟨.int .u64, 1, 8, some (.int .u64), [.int .u64 0], false⟩
def ti137 : TI := ⟨.int .i64, 1, 8, some (.int .i64), [.int .i64 0], false⟩
def ti150 : TI := ⟨.int .u64, 1, 8, some (.int .u64), [.int .u64 0], false⟩
def ti154 : TI := ⟨.ptr 3, 1, 8, none, [.nilP], false⟩
def ti156 : TI := ⟨.ptr 150, 1, 8, none, [.nilP], false⟩
def tbt : TT := (.node 67 ti67 (.node 24 ti24 (.node 9 ti9 (.node 4 ti4 (.node 3 ti3 .nil .nil) (.node 5 ti5 .nil .nil)) (.node 23 ti23 (.node 22 ti22 .nil .nil) .nil)) (.node 30 ti30 (.node 27 ti27 (.node 26 ti26 .nil .nil) (.node 29 ti29 .nil .nil)) (.node 42 ti42 (.node 36 ti36 .nil .nil) .nil))) (.node 108 ti108 (.node 78 ti78 (.node 71 ti71 (.node 69 ti69 .nil .nil) (.node 76 ti76 .nil .nil)) (.node 104 ti104 (.node 101 ti101 .nil .nil) .nil)) (.node 150 ti150 (.node 137 ti137 (.node 128 ti128 .nil .nil) .nil) (.node 156 ti156 (.node 154 ti154 .nil .nil) .nil))))
def tb : Tab := tbt.get
theorem ti3_ok : TIok Try.prog tb 3 ti3 := TIok_mk (by kernel_rfl) (by kernel_rfl) ⟨rfl, rfl⟩ (by kernel_rfl) rfl (by kernel_rfl)
theorem ti4_ok : TIok Try.prog tb 4 ti4 := TIok_mk (by kernel_rfl) (by kernel_rfl) ⟨rfl, rfl⟩ (by kernel_rfl) rfl (by kernel_rfl)
theorem ti5_ok : TIok Try.prog tb 5 ti5 := TIok_mk (by kernel_rfl) (by kernel_rfl) ⟨rfl, rfl⟩ (by kernel_rfl) rfl (by kernel_rfl)
theorem ti9_ok : TIok Try.prog tb 9 ti9 := TIok_mk (by kernel_rfl) (by kernel_rfl) ⟨rfl, rfl⟩ (by kernel_rfl) rfl (by kernel_rfl)
theorem ti22_ok : TIok Try.prog tb 22 ti22 := TIok_mk (by kernel_rfl) (by kernel_rfl) ⟨rfl, rfl⟩ (by kernel_rfl) rfl (by kernel_rfl)
theorem ti23_ok : TIok Try.prog tb 23 ti23 := TIok_mk (by kernel_rfl) (by kernel_rfl) ⟨rfl, rfl⟩ (by kernel_rfl) rfl (by kernel_rfl)
theorem ti24_ok : TIok Try.prog tb 24 ti24 := TIok_mk (by kernel_rfl) (by kernel_rfl) ⟨rfl, rfl⟩ (by kernel_rfl) rfl (by kernel_rfl)
theorem ti26_ok : TIok Try.prog tb 26 ti26 := TIok_mk (by kernel_rfl) (by kernel_rfl) ⟨rfl, rfl⟩ (by kernel_rfl) rfl (by kernel_rfl)
theorem ti27_ok : TIok Try.prog tb 27 ti27 := TIok_mk (by kernel_rfl) (by kernel_rfl) ⟨rfl, rfl⟩ (by kernel_rfl) rfl (by kernel_rfl)
theorem ti29_ok : TIok Try.prog tb 29 ti29 := TIok_mk (by kernel_rfl) (by kernel_rfl) ⟨rfl, rfl⟩ (by kernel_rfl) rfl (by kernel_rfl)
theorem ti30_ok : TIok Try.prog tb 30 ti30 := TIok_mk (by kernel_rfl) (by kernel_rfl) ⟨rfl, rfl⟩ (by kernel_rfl) rfl (by kernel_rfl)
theorem ti36_ok : TIok Try.prog tb 36 ti36 := TIok_mk (by kernel_rfl) (by kernel_rfl) ⟨rfl, rfl⟩ (by kernel_rfl) rfl (by kernel_rfl)
theorem ti42_ok : TIok Try.prog tb 42 ti42 := TIok_mk (by kernel_rfl) (by kernel_rfl) ⟨rfl, rfl⟩ (by kernel_rfl) rfl (by kernel_rfl)
theorem ti67_ok : TIok Try.prog tb 67 ti67 := TIok_mk (by kernel_rfl) (by kernel_rfl) ⟨rfl, rfl⟩ (by kernel_rfl) rfl (by kernel_rfl)
theorem ti69_ok : TIok Try.prog tb 69 ti69 := TIok_mk (by kernel_rfl) (by kernel_rfl) ⟨rfl, rfl⟩ (by kernel_rfl) rfl (by kernel_rfl)
theorem ti71_ok : TIok Try.prog tb 71 ti71 := TIok_mk (by kernel_rfl) (by kernel_rfl) ⟨rfl, rfl⟩ (by kernel_rfl) rfl (by kernel_rfl)
theorem ti76_ok : TIok Try.prog tb 76 ti76 := TIok_mk (by kernel_rfl) (by kernel_rfl) ⟨rfl, rfl⟩ (by kernel_rfl) rfl (by kernel_rfl)
theorem ti78_ok : TIok Try.prog tb 78 ti78 := TIok_mk (by kernel_rfl) (by kernel_rfl) trivial (by kernel_rfl) rfl (by kernel_rfl)
theorem ti101_ok : TIok Try.prog tb 101 ti101 := TIok_mk (by kernel_rfl) (by kernel_rfl) ⟨rfl, rfl⟩ (by kernel_rfl) rfl (by kernel_rfl)
theorem ti104_ok : TIok Try.prog tb 104 ti104 := TIok_mk (by kernel_rfl) (by kernel_rfl) trivial (by kernel_rfl) rfl (by kernel_rfl)
theorem ti108_ok : TIok Try.prog tb 108 ti108 := TIok_mk (by kernel_rfl) (by kernel_rfl) ⟨rfl, rfl⟩ (by kernel_rfl) rfl (by kernel_rfl)
theorem ti128_ok : TIok Try.prog tb 128 ti128 := TIok_mk (by kernel_rfl) (by kernel_rfl) ⟨rfl, rfl⟩ (by kernel_rfl) rfl (by kernel_rfl)
theorem ti137_ok : TIok Try.prog tb 137 ti137 := TIok_mk (by kernel_rfl) (by kernel_rfl) ⟨rfl, rfl⟩ (by kernel_rfl) rfl (by kernel_rfl)
theorem ti150_ok : TIok Try.prog tb 150 ti150 := TIok_mk (by kernel_rfl) (by kernel_rfl) ⟨rfl, rfl⟩ (by kernel_rfl) rfl (by kernel_rfl)
theorem ti154_ok : TIok Try.prog tb 154 ti154 := TIok_mk (by kernel_rfl) (by kernel_rfl) trivial (by kernel_rfl) rfl (by kernel_rfl)
theorem ti156_ok : TIok Try.prog tb 156 ti156 := TIok_mk (by kernel_rfl) (by kernel_rfl) trivial (by kernel_rfl) rfl (by kernel_rfl)
theorem tb_ok : TabOk Try.prog tb := TT.ok ⟨ti67_ok, ⟨ti24_ok, ⟨ti9_ok, ⟨ti4_ok, ⟨ti3_ok, trivial, trivial⟩, ⟨ti5_ok, trivial, trivial⟩⟩, ⟨ti23_ok, ⟨ti22_ok, trivial, trivial⟩, trivial⟩⟩, ⟨ti30_ok, ⟨ti27_ok, ⟨ti26_ok, trivial, trivial⟩, ⟨ti29_ok, trivial, trivial⟩⟩, ⟨ti42_ok, ⟨ti36_ok, trivial, trivial⟩, trivial⟩⟩⟩, ⟨ti108_ok, ⟨ti78_ok, ⟨ti71_ok, ⟨ti69_ok, trivial, trivial⟩, ⟨ti76_ok, trivial, trivial⟩⟩, ⟨ti104_ok, ⟨ti101_ok, trivial, trivial⟩, trivial⟩⟩, ⟨ti150_ok, ⟨ti137_ok, ⟨ti128_ok, trivial, trivial⟩, trivial⟩, ⟨ti156_ok, ⟨ti154_ok, trivial, trivial⟩, trivial⟩⟩⟩⟩
/-! ### f8: gamehall/gamehallkeep1.three -/
def gamehallkeep1_three.as : List MK := []
def gamehallkeep1_three.rs : List (Bool × HT) := [(true, (.prod (.d .str) (.prod (.d (.int .i64)) (.prod (.d (.int .i64)) (.prod (.own 69 (.prod (.int .u8) (.prod (.int .i64) (.prod (.int .i64) (.slice 101 (.prod (.int .i64) (.prod (.int .i64) (.prod (.int .i64) (.int .i64))))))))) (.prod (.own 3 (.int .i64)) (.prod (.d .bool) (.prod (.d .bool) (.prod (.own 71 (.prod (.int .i64) (.prod (.int .i64) (.prod (.int .i64) .bool)))) (.d (.prod (.int .i64) (.prod (.int .i64) (.int .i64)))))))))))))]
def gamehallkeep1_three.lc : List AC := []
def gamehallkeep1_three.D (N : Nat) : DFn := ⟨gamehallkeep1_three.as, gamehallkeep1_three.rs, TRules, fun x => gamehallkeep1_three N, fun r o => r.1, fun b => (b, ()), fun b => ()⟩
theorem gamehallkeep1_three.fit (N : Nat) : (gamehallkeep1_three.D N).Fit := ⟨fun _ _ => rfl, fun _ _ => rfl, by kernel_rfl⟩
noncomputable def gamehallkeep1_three.G (N : Nat) : Gam := gamOf []
def gamehallkeep1_three.A : Nat → Option LoopAnn := fun _ => none
noncomputable def gamehallkeep1_three.fin (N : Nat) : St → Option TRules := resK tb Try.f8.results.toList (decRes (gamehallkeep1_three.D N) gamehallkeep1_three.lc)
theorem gamehallkeep1_three.entry (N : Nat) (rec : List Item → St → Option TRules) (x : (argH gamehallkeep1_three.as).den) : seg tb (gamehallkeep1_three.G N) gamehallkeep1_three.A 0 rec (gamehallkeep1_three.fin N) segFuel [.code (bodyOf Try.f8)] (initSt Try.f8 (encArgs gamehallkeep1_three.as x) (encMem gamehallkeep1_three.as x)) = gamehallkeep1_three.e N := by kernel_rfl
theorem gamehallkeep1_three.ok (N : Nat) : FnOk Try.prog 8 (gamehallkeep1_three.D N) := by
  refine FnOk_of tb_ok (Checked.mixed Try.checked) ⟨Try.f8, Try.func8, by kernel_rfl, by kernel_rfl, fun x y h => ⟨gamehallkeep1_three.G N, gamehallkeep1_three.A, N, gamOf_ok (fun p hp => nomatch hp), ?_⟩⟩ (gamehallkeep1_three.fit N)
  rw [absFn_n (n0 := 0) rfl (by kernel_rfl)]
  exact (gamehallkeep1_three.entry N _ x).trans h
/-! ### f9: gamehall/gamehallkeep1.near -/
def gamehallkeep1_near.as : List MK := []
def gamehallkeep1_near.rs : List (Bool × HT) := [(true, (.prod (.own 3 (.int .i64)) (.prod (.prod (.own 3 (.int .i64)) (.own 3 (.int .i64))) (.d (.prod (.int .i64) (.int .i64))))))]
def gamehallkeep1_near.lc : List AC := []
def gamehallkeep1_near.D (N : Nat) : DFn := ⟨gamehallkeep1_near.as, gamehallkeep1_near.rs, TPos, fun x => gamehallkeep1_near N, fun r o => r.1, fun b => (b, ()), fun b => ()⟩
theorem gamehallkeep1_near.fit (N : Nat) : (gamehallkeep1_near.D N).Fit := ⟨fun _ _ => rfl, fun _ _ => rfl, by kernel_rfl⟩
noncomputable def gamehallkeep1_near.G (N : Nat) : Gam := gamOf []
def gamehallkeep1_near.A : Nat → Option LoopAnn := fun _ => none
noncomputable def gamehallkeep1_near.fin (N : Nat) : St → Option TPos := resK tb Try.f9.results.toList (decRes (gamehallkeep1_near.D N) gamehallkeep1_near.lc)
theorem gamehallkeep1_near.entry (N : Nat) (rec : List Item → St → Option TPos) (x : (argH gamehallkeep1_near.as).den) : seg tb (gamehallkeep1_near.G N) gamehallkeep1_near.A 0 rec (gamehallkeep1_near.fin N) segFuel [.code (bodyOf Try.f9)] (initSt Try.f9 (encArgs gamehallkeep1_near.as x) (encMem gamehallkeep1_near.as x)) = gamehallkeep1_near.e N := by kernel_rfl
theorem gamehallkeep1_near.ok (N : Nat) : FnOk Try.prog 9 (gamehallkeep1_near.D N) := by
  refine FnOk_of tb_ok (Checked.mixed Try.checked) ⟨Try.f9, Try.func9, by kernel_rfl, by kernel_rfl, fun x y h => ⟨gamehallkeep1_near.G N, gamehallkeep1_near.A, N, gamOf_ok (fun p hp => nomatch hp), ?_⟩⟩ (gamehallkeep1_near.fit N)
  rw [absFn_n (n0 := 0) rfl (by kernel_rfl)]
  exact (gamehallkeep1_near.entry N _ x).trans h
/-! ### f80: gamehall/rules.Name -/
def rules_Name.as : List MK := [.d false .str]
def rules_Name.rs : List (Bool × HT) := [(false, (.d .bool))]
def rules_Name.lc : List AC := []
def rules_Name.D (N : Nat) : DFn := ⟨rules_Name.as, rules_Name.rs, Bool, fun x => rules_Name N x.1, fun r o => r.1, fun b => (b, ()), fun b => ()⟩
theorem rules_Name.fit (N : Nat) : (rules_Name.D N).Fit := ⟨fun _ _ => rfl, fun _ _ => rfl, by kernel_rfl⟩
noncomputable def rules_Name.G (N : Nat) : Gam := gamOf []
def rules_Name.A : Nat → Option LoopAnn := fun k => bif Nat.beq k 0 then some ⟨[0, 22, 23], [], [], [], [], 0, false⟩ else none
noncomputable def rules_Name.fin (N : Nat) : St → Option Bool := resK tb Try.f80.results.toList (decRes (rules_Name.D N) rules_Name.lc)
noncomputable def rules_Name.k0 : List Item := stackAt [.r, .r, .l, .r, .b] (bodyOf Try.f80) []
def rules_Name.st0 (s_ : ByteArray) (t23_ : Int) : St := ⟨[.one (.str s_)] ++ List.replicate 21 (.one .any) ++ [.one (.int .i64 (s_.size : Int)), .one (.int .i64 t23_)] ++ List.replicate 25 (.one .any), []⟩
theorem rules_Name.step0 (N : Nat) (rec : List Item → St → Option Bool) (s_ : ByteArray) (t23_ : Int) : seg tb (rules_Name.G N) rules_Name.A 0 rec (rules_Name.fin N) segFuel (loopBody rules_Name.k0) (rules_Name.st0 s_ t23_) = rules_Name.s0 N s_ (fun t23_ => rec rules_Name.k0 (rules_Name.st0 s_ t23_)) t23_ := by kernel_rfl
theorem rules_Name.entry (N : Nat) (rec : List Item → St → Option Bool) (x : (argH rules_Name.as).den) : seg tb (rules_Name.G N) rules_Name.A 0 rec (rules_Name.fin N) segFuel [.code (bodyOf Try.f80)] (initSt Try.f80 (encArgs rules_Name.as x) (encMem rules_Name.as x)) = rules_Name.e N (fun t23_ => rec rules_Name.k0 (rules_Name.st0 x.1 t23_)) x.1 := by kernel_rfl
theorem rules_Name.runs (N : Nat) (s_ : ByteArray) : ∀ n, (∀ (t23_ : Int), run tb (rules_Name.G N) rules_Name.A 0 (rules_Name.fin N) n rules_Name.k0 (rules_Name.st0 s_ t23_) = rules_Name.l0 N s_ n t23_)
  | 0 => fun _ => rfl
  | n + 1 => by
    have h0 := rules_Name.runs N s_ n
    have e0 : (fun (t23_ : Int) => run tb (rules_Name.G N) rules_Name.A 0 (rules_Name.fin N) n rules_Name.k0 (rules_Name.st0 s_ t23_)) = rules_Name.l0 N s_ n := by funext t23_; exact h0 t23_
    have g0 : (∀ (t23_ : Int), run tb (rules_Name.G N) rules_Name.A 0 (rules_Name.fin N) (n + 1) rules_Name.k0 (rules_Name.st0 s_ t23_) = rules_Name.l0 N s_ (n + 1) t23_) := by
      intro t23_
      exact (run_succ (by kernel_rfl)).trans ((rules_Name.step0 N _ s_ t23_).trans ((congrArg (fun r0 => rules_Name.s0 N s_ r0 t23_) e0).trans (rules_Name.l0_s N s_ n t23_).symm))
    exact g0
theorem rules_Name.ok (N : Nat) : FnOk Try.prog 80 (rules_Name.D N) := by
  refine FnOk_of tb_ok (Checked.mixed Try.checked) ⟨Try.f80, Try.func80, by kernel_rfl, by kernel_rfl, fun x y h => ⟨rules_Name.G N, rules_Name.A, N, gamOf_ok (fun p hp => nomatch hp), ?_⟩⟩ (rules_Name.fit N)
  rw [absFn_n (n0 := 0) rfl (by kernel_rfl)]
  refine (rules_Name.entry N (run tb (rules_Name.G N) rules_Name.A 0 (rules_Name.fin N) N) x).trans ?_
  have e0 : (fun (t23_ : Int) => run tb (rules_Name.G N) rules_Name.A 0 (rules_Name.fin N) N rules_Name.k0 (rules_Name.st0 x.1 t23_)) = rules_Name.l0 N x.1 N := by funext t23_; exact (rules_Name.runs N x.1 N) t23_
  have h' : (rules_Name.D N).f x = rules_Name.e N (rules_Name.l0 N x.1 N) x.1 := by kernel_rfl
  exact (congrArg (fun r0 => rules_Name.e N r0 x.1) e0).trans (h'.symm.trans h)
/-! ### f93: gamehall/rules.way -/
def rules_way.as : List MK := [.d true (.prod (.int .i64) (.prod (.int .i64) (.prod (.int .i64) (.int .i64))))]
def rules_way.rs : List (Bool × HT) := [(false, (.d (.int .i64)))]
def rules_way.lc : List AC := []
def rules_way.D (N : Nat) : DFn := ⟨rules_way.as, rules_way.rs, Int, fun x => rules_way N x.1, fun r o => r.1, fun b => (b, ()), fun b => ()⟩
theorem rules_way.fit (N : Nat) : (rules_way.D N).Fit := ⟨fun _ _ => rfl, fun _ _ => rfl, by kernel_rfl⟩
noncomputable def rules_way.G (N : Nat) : Gam := gamOf []
def rules_way.A : Nat → Option LoopAnn := fun _ => none
noncomputable def rules_way.fin (N : Nat) : St → Option Int := resK tb Try.f93.results.toList (decRes (rules_way.D N) rules_way.lc)
theorem rules_way.entry (N : Nat) (rec : List Item → St → Option Int) (x : (argH rules_way.as).den) : seg tb (rules_way.G N) rules_way.A 0 rec (rules_way.fin N) segFuel [.code (bodyOf Try.f93)] (initSt Try.f93 (encArgs rules_way.as x) (encMem rules_way.as x)) = rules_way.e N x.1 := by kernel_rfl
theorem rules_way.ok (N : Nat) : FnOk Try.prog 93 (rules_way.D N) := by
  refine FnOk_of tb_ok (Checked.mixed Try.checked) ⟨Try.f93, Try.func93, by kernel_rfl, by kernel_rfl, fun x y h => ⟨rules_way.G N, rules_way.A, N, gamOf_ok (fun p hp => nomatch hp), ?_⟩⟩ (rules_way.fit N)
  rw [absFn_n (n0 := 0) rfl (by kernel_rfl)]
  exact (rules_way.entry N _ x).trans h
/-! ### f81: gamehall/rules.pieces -/
def rules_pieces.as : List MK := [.d false (.slice 69 (.prod (.int .u8) (.prod (.int .i64) (.prod (.int .i64) (.slice 101 (.prod (.int .i64) (.prod (.int .i64) (.prod (.int .i64) (.int .i64)))))))))]
def rules_pieces.rs : List (Bool × HT) := [(false, (.d (.int .i64)))]
def rules_pieces.lc : List AC := []
def rules_pieces.D (N : Nat) : DFn := ⟨rules_pieces.as, rules_pieces.rs, Int, fun x => rules_pieces N x.1, fun r o => r.1, fun b => (b, ()), fun b => ()⟩
theorem rules_pieces.fit (N : Nat) : (rules_pieces.D N).Fit := ⟨fun _ _ => rfl, fun _ _ => rfl, by kernel_rfl⟩
noncomputable def rules_pieces.G (N : Nat) : Gam := gamOf [(93, rules_way.D N)]
def rules_pieces.A : Nat → Option LoopAnn := fun k => bif Nat.beq k 1 then some ⟨[0, 18, 19, 20], [], [], [], [], 0, false⟩ else bif Nat.beq k 3 then some ⟨[0, 4, 18, 19, 20, 35, 36, 37], [], [], [], [], 1, false⟩ else bif Nat.beq k 5 then some ⟨[0, 18, 19, 20, 72, 73, 74], [], [], [], [], 0, false⟩ else none
noncomputable def rules_pieces.fin (N : Nat) : St → Option Int := resK tb Try.f81.results.toList (decRes (rules_pieces.D N) rules_pieces.lc)
noncomputable def rules_pieces.k0 : List Item := stackAt [.r, .r, .l, .r, .b] (bodyOf Try.f81) []
def rules_pieces.st0 (l_ : (List TPiece)) (t20_ : Int) : St := ⟨[.one (.fro 69 (.prod (.int .u8) (.prod (.int .i64) (.prod (.int .i64) (.slice 101 (.prod (.int .i64) (.prod (.int .i64) (.prod (.int .i64) (.int .i64)))))))) l_)] ++ List.replicate 17 (.one .any) ++ [.one (.fro 69 (.prod (.int .u8) (.prod (.int .i64) (.prod (.int .i64) (.slice 101 (.prod (.int .i64) (.prod (.int .i64) (.prod (.int .i64) (.int .i64)))))))) l_), .one (.int .i64 (l_.length : Int)), .one (.int .i64 t20_)] ++ List.replicate 64 (.one .any), []⟩
noncomputable def rules_pieces.k1 : List Item := stackAt [.r, .r, .l, .r, .b, .w, .r, .r, .l, .b, .r, .r, .l, .r, .b] (bodyOf Try.f81) []
def rules_pieces.st1 (l_ : (List TPiece)) (t20_ : Int) (t35_ : (List TPiece)) (t36_ : Int) (t37_ : Int) (p_ : Int) (p_2 : Int) (p_3 : Int) (p_4 : (List TWay)) : St := ⟨[.one (.fro 69 (.prod (.int .u8) (.prod (.int .i64) (.prod (.int .i64) (.slice 101 (.prod (.int .i64) (.prod (.int .i64) (.prod (.int .i64) (.int .i64)))))))) l_)] ++ List.replicate 3 (.one .any) ++ [.one (.ptr 0 0)] ++ List.replicate 13 (.one .any) ++ [.one (.fro 69 (.prod (.int .u8) (.prod (.int .i64) (.prod (.int .i64) (.slice 101 (.prod (.int .i64) (.prod (.int .i64) (.prod (.int .i64) (.int .i64)))))))) l_), .one (.int .i64 (l_.length : Int)), .one (.int .i64 t20_)] ++ List.replicate 14 (.one .any) ++ [.one (.fro 69 (.prod (.int .u8) (.prod (.int .i64) (.prod (.int .i64) (.slice 101 (.prod (.int .i64) (.prod (.int .i64) (.prod (.int .i64) (.int .i64)))))))) t35_), .one (.int .i64 t36_), .one (.int .i64 t37_)] ++ List.replicate 47 (.one .any), [.var 69 [.int .u8 p_, .int .i64 p_2, .int .i64 p_3, .fro 101 (.prod (.int .i64) (.prod (.int .i64) (.prod (.int .i64) (.int .i64)))) p_4]]⟩
noncomputable def rules_pieces.k2 : List Item := stackAt [.r, .r, .l, .r, .b, .w, .r, .r, .l, .b, .r, .r, .r, .r, .r, .r, .b] (bodyOf Try.f81) []
def rules_pieces.st2 (l_ : (List TPiece)) (t20_ : Int) (t72_ : (List TWay)) (t73_ : Int) (t74_ : Int) : St := ⟨[.one (.fro 69 (.prod (.int .u8) (.prod (.int .i64) (.prod (.int .i64) (.slice 101 (.prod (.int .i64) (.prod (.int .i64) (.prod (.int .i64) (.int .i64)))))))) l_)] ++ List.replicate 17 (.one .any) ++ [.one (.fro 69 (.prod (.int .u8) (.prod (.int .i64) (.prod (.int .i64) (.slice 101 (.prod (.int .i64) (.prod (.int .i64) (.prod (.int .i64) (.int .i64)))))))) l_), .one (.int .i64 (l_.length : Int)), .one (.int .i64 t20_)] ++ List.replicate 51 (.one .any) ++ [.one (.fro 101 (.prod (.int .i64) (.prod (.int .i64) (.prod (.int .i64) (.int .i64)))) t72_), .one (.int .i64 t73_), .one (.int .i64 t74_)] ++ List.replicate 10 (.one .any), []⟩
theorem rules_pieces.step0 (N : Nat) (rec : List Item → St → Option Int) (l_ : (List TPiece)) (t20_ : Int) : seg tb (rules_pieces.G N) rules_pieces.A 0 rec (rules_pieces.fin N) segFuel (loopBody rules_pieces.k0) (rules_pieces.st0 l_ t20_) = rules_pieces.s0 N l_ (fun t20_ => rec rules_pieces.k0 (rules_pieces.st0 l_ t20_)) (fun t20_ t35_ t36_ t37_ p_ p_2 p_3 p_4 => rec rules_pieces.k1 (rules_pieces.st1 l_ t20_ t35_ t36_ t37_ p_ p_2 p_3 p_4)) (fun t20_ t72_ t73_ t74_ => rec rules_pieces.k2 (rules_pieces.st2 l_ t20_ t72_ t73_ t74_)) t20_ := by kernel_rfl
theorem rules_pieces.step1 (N : Nat) (rec : List Item → St → Option Int) (l_ : (List TPiece)) (t20_ : Int) (t35_ : (List TPiece)) (t36_ : Int) (t37_ : Int) (p_ : Int) (p_2 : Int) (p_3 : Int) (p_4 : (List TWay)) : seg tb (rules_pieces.G N) rules_pieces.A 0 rec (rules_pieces.fin N) segFuel (loopBody rules_pieces.k1) (rules_pieces.st1 l_ t20_ t35_ t36_ t37_ p_ p_2 p_3 p_4) = rules_pieces.s1 N l_ (fun t20_ => rec rules_pieces.k0 (rules_pieces.st0 l_ t20_)) (fun t20_ t35_ t36_ t37_ p_ p_2 p_3 p_4 => rec rules_pieces.k1 (rules_pieces.st1 l_ t20_ t35_ t36_ t37_ p_ p_2 p_3 p_4)) (fun t20_ t72_ t73_ t74_ => rec rules_pieces.k2 (rules_pieces.st2 l_ t20_ t72_ t73_ t74_)) t20_ t35_ t36_ t37_ p_ p_2 p_3 p_4 := by kernel_rfl
theorem rules_pieces.step2 (N : Nat) (rec : List Item → St → Option Int) (l_ : (List TPiece)) (t20_ : Int) (t72_ : (List TWay)) (t73_ : Int) (t74_ : Int) : seg tb (rules_pieces.G N) rules_pieces.A 0 rec (rules_pieces.fin N) segFuel (loopBody rules_pieces.k2) (rules_pieces.st2 l_ t20_ t72_ t73_ t74_) = rules_pieces.s2 N l_ (fun t20_ => rec rules_pieces.k0 (rules_pieces.st0 l_ t20_)) (fun t20_ t35_ t36_ t37_ p_ p_2 p_3 p_4 => rec rules_pieces.k1 (rules_pieces.st1 l_ t20_ t35_ t36_ t37_ p_ p_2 p_3 p_4)) (fun t20_ t72_ t73_ t74_ => rec rules_pieces.k2 (rules_pieces.st2 l_ t20_ t72_ t73_ t74_)) t20_ t72_ t73_ t74_ := by kernel_rfl
theorem rules_pieces.entry (N : Nat) (rec : List Item → St → Option Int) (x : (argH rules_pieces.as).den) : seg tb (rules_pieces.G N) rules_pieces.A 0 rec (rules_pieces.fin N) segFuel [.code (bodyOf Try.f81)] (initSt Try.f81 (encArgs rules_pieces.as x) (encMem rules_pieces.as x)) = rules_pieces.e N (fun t20_ => rec rules_pieces.k0 (rules_pieces.st0 x.1 t20_)) (fun t20_ t35_ t36_ t37_ p_ p_2 p_3 p_4 => rec rules_pieces.k1 (rules_pieces.st1 x.1 t20_ t35_ t36_ t37_ p_ p_2 p_3 p_4)) (fun t20_ t72_ t73_ t74_ => rec rules_pieces.k2 (rules_pieces.st2 x.1 t20_ t72_ t73_ t74_)) x.1 := by kernel_rfl
theorem rules_pieces.runs (N : Nat) (l_ : (List TPiece)) : ∀ n, (∀ (t20_ : Int), run tb (rules_pieces.G N) rules_pieces.A 0 (rules_pieces.fin N) n rules_pieces.k0 (rules_pieces.st0 l_ t20_) = rules_pieces.l0 N l_ n t20_) ∧ (∀ (t20_ : Int) (t35_ : (List TPiece)) (t36_ : Int) (t37_ : Int) (p_ : Int) (p_2 : Int) (p_3 : Int) (p_4 : (List TWay)), run tb (rules_pieces.G N) rules_pieces.A 0 (rules_pieces.fin N) n rules_pieces.k1 (rules_pieces.st1 l_ t20_ t35_ t36_ t37_ p_ p_2 p_3 p_4) = rules_pieces.l1 N l_ n t20_ t35_ t36_ t37_ p_ p_2 p_3 p_4) ∧ (∀ (t20_ : Int) (t72_ : (List TWay)) (t73_ : Int) (t74_ : Int), run tb (rules_pieces.G N) rules_pieces.A 0 (rules_pieces.fin N) n rules_pieces.k2 (rules_pieces.st2 l_ t20_ t72_ t73_ t74_) = rules_pieces.l2 N l_ n t20_ t72_ t73_ t74_)
  | 0 => ⟨fun _ => rfl, fun _ _ _ _ _ _ _ _ => rfl, fun _ _ _ _ => rfl⟩
  | n + 1 => by
    obtain ⟨h0, h1, h2⟩ := rules_pieces.runs N l_ n
    have e0 : (fun (t20_ : Int) => run tb (rules_pieces.G N) rules_pieces.A 0 (rules_pieces.fin N) n rules_pieces.k0 (rules_pieces.st0 l_ t20_)) = rules_pieces.l0 N l_ n := by funext t20_; exact h0 t20_
    have e1 : (fun (t20_ : Int) (t35_ : (List TPiece)) (t36_ : Int) (t37_ : Int) (p_ : Int) (p_2 : Int) (p_3 : Int) (p_4 : (List TWay)) => run tb (rules_pieces.G N) rules_pieces.A 0 (rules_pieces.fin N) n rules_pieces.k1 (rules_pieces.st1 l_ t20_ t35_ t36_ t37_ p_ p_2 p_3 p_4)) = rules_pieces.l1 N l_ n := by funext t20_ t35_ t36_ t37_ p_ p_2 p_3 p_4; exact h1 t20_ t35_ t36_ t37_ p_ p_2 p_3 p_4
    have e2 : (fun (t20_ : Int) (t72_ : (List TWay)) (t73_ : Int) (t74_ : Int) => run tb (rules_pieces.G N) rules_pieces.A 0 (rules_pieces.fin N) n rules_pieces.k2 (rules_pieces.st2 l_ t20_ t72_ t73_ t74_)) = rules_pieces.l2 N l_ n := by funext t20_ t72_ t73_ t74_; exact h2 t20_ t72_ t73_ t74_
    have g0 : (∀ (t20_ : Int), run tb (rules_pieces.G N) rules_pieces.A 0 (rules_pieces.fin N) (n + 1) rules_pieces.k0 (rules_pieces.st0 l_ t20_) = rules_pieces.l0 N l_ (n + 1) t20_) := by
      intro t20_
      exact (run_succ (by kernel_rfl)).trans ((rules_pieces.step0 N _ l_ t20_).trans ((congr (congr (congrArg (fun r0 r1 r2 => rules_pieces.s0 N l_ r0 r1 r2 t20_) e0) e1) e2).trans (rules_pieces.l0_s N l_ n t20_).symm))
    have g1 : (∀ (t20_ : Int) (t35_ : (List TPiece)) (t36_ : Int) (t37_ : Int) (p_ : Int) (p_2 : Int) (p_3 : Int) (p_4 : (List TWay)), run tb (rules_pieces.G N) rules_pieces.A 0 (rules_pieces.fin N) (n + 1) rules_pieces.k1 (rules_pieces.st1 l_ t20_ t35_ t36_ t37_ p_ p_2 p_3 p_4) = rules_pieces.l1 N l_ (n + 1) t20_ t35_ t36_ t37_ p_ p_2 p_3 p_4) := by
      intro t20_ t35_ t36_ t37_ p_ p_2 p_3 p_4
      exact (run_succ (by kernel_rfl)).trans ((rules_pieces.step1 N _ l_ t20_ t35_ t36_ t37_ p_ p_2 p_3 p_4).trans ((congr (congr (congrArg (fun r0 r1 r2 => rules_pieces.s1 N l_ r0 r1 r2 t20_ t35_ t36_ t37_ p_ p_2 p_3 p_4) e0) e1) e2).trans (rules_pieces.l1_s N l_ n t20_ t35_ t36_ t37_ p_ p_2 p_3 p_4).symm))
    have g2 : (∀ (t20_ : Int) (t72_ : (List TWay)) (t73_ : Int) (t74_ : Int), run tb (rules_pieces.G N) rules_pieces.A 0 (rules_pieces.fin N) (n + 1) rules_pieces.k2 (rules_pieces.st2 l_ t20_ t72_ t73_ t74_) = rules_pieces.l2 N l_ (n + 1) t20_ t72_ t73_ t74_) := by
      intro t20_ t72_ t73_ t74_
      exact (run_succ (by kernel_rfl)).trans ((rules_pieces.step2 N _ l_ t20_ t72_ t73_ t74_).trans ((congr (congr (congrArg (fun r0 r1 r2 => rules_pieces.s2 N l_ r0 r1 r2 t20_ t72_ t73_ t74_) e0) e1) e2).trans (rules_pieces.l2_s N l_ n t20_ t72_ t73_ t74_).symm))
    exact ⟨g0, g1, g2⟩
theorem rules_pieces.ok (N : Nat) : FnOk Try.prog 81 (rules_pieces.D N) := by
  refine FnOk_of tb_ok (Checked.mixed Try.checked) ⟨Try.f81, Try.func81, by kernel_rfl, by kernel_rfl, fun x y h => ⟨rules_pieces.G N, rules_pieces.A, N, gamOf_ok (by simp only [List.forall_mem_cons, List.not_mem_nil, false_implies, implies_true, and_true]; exact ⟨rules_way.ok N, rules_way.fit N⟩), ?_⟩⟩ (rules_pieces.fit N)
  rw [absFn_n (n0 := 0) rfl (by kernel_rfl)]
  refine (rules_pieces.entry N (run tb (rules_pieces.G N) rules_pieces.A 0 (rules_pieces.fin N) N) x).trans ?_
  have e0 : (fun (t20_ : Int) => run tb (rules_pieces.G N) rules_pieces.A 0 (rules_pieces.fin N) N rules_pieces.k0 (rules_pieces.st0 x.1 t20_)) = rules_pieces.l0 N x.1 N := by funext t20_; exact (rules_pieces.runs N x.1 N).1 t20_
  have e1 : (fun (t20_ : Int) (t35_ : (List TPiece)) (t36_ : Int) (t37_ : Int) (p_ : Int) (p_2 : Int) (p_3 : Int) (p_4 : (List TWay)) => run tb (rules_pieces.G N) rules_pieces.A 0 (rules_pieces.fin N) N rules_pieces.k1 (rules_pieces.st1 x.1 t20_ t35_ t36_ t37_ p_ p_2 p_3 p_4)) = rules_pieces.l1 N x.1 N := by funext t20_ t35_ t36_ t37_ p_ p_2 p_3 p_4; exact (rules_pieces.runs N x.1 N).2.1 t20_ t35_ t36_ t37_ p_ p_2 p_3 p_4
  have e2 : (fun (t20_ : Int) (t72_ : (List TWay)) (t73_ : Int) (t74_ : Int) => run tb (rules_pieces.G N) rules_pieces.A 0 (rules_pieces.fin N) N rules_pieces.k2 (rules_pieces.st2 x.1 t20_ t72_ t73_ t74_)) = rules_pieces.l2 N x.1 N := by funext t20_ t72_ t73_ t74_; exact (rules_pieces.runs N x.1 N).2.2 t20_ t72_ t73_ t74_
  have h' : (rules_pieces.D N).f x = rules_pieces.e N (rules_pieces.l0 N x.1 N) (rules_pieces.l1 N x.1 N) (rules_pieces.l2 N x.1 N) x.1 := by kernel_rfl
  exact (congr (congr (congrArg (fun r0 r1 r2 => rules_pieces.e N r0 r1 r2 x.1) e0) e1) e2).trans (h'.symm.trans h)
/-! ### f82: gamehall/rules.end -/
def rules_end.as : List MK := [.d true (.prod (.int .i64) (.prod (.int .i64) (.prod (.int .i64) .bool))), .d false (.int .i64)]
def rules_end.rs : List (Bool × HT) := [(false, (.d (.int .i64)))]
def rules_end.lc : List AC := []
def rules_end.D (N : Nat) : DFn := ⟨rules_end.as, rules_end.rs, Int, fun x => rules_end N x.1 x.2.1, fun r o => r.1, fun b => (b, ()), fun b => ()⟩
theorem rules_end.fit (N : Nat) : (rules_end.D N).Fit := ⟨fun _ _ => rfl, fun _ _ => rfl, by kernel_rfl⟩
noncomputable def rules_end.G (N : Nat) : Gam := gamOf []
def rules_end.A : Nat → Option LoopAnn := fun _ => none
noncomputable def rules_end.fin (N : Nat) : St → Option Int := resK tb Try.f82.results.toList (decRes (rules_end.D N) rules_end.lc)
theorem rules_end.entry (N : Nat) (rec : List Item → St → Option Int) (x : (argH rules_end.as).den) : seg tb (rules_end.G N) rules_end.A 0 rec (rules_end.fin N) segFuel [.code (bodyOf Try.f82)] (initSt Try.f82 (encArgs rules_end.as x) (encMem rules_end.as x)) = rules_end.e N x.1 x.2.1 := by kernel_rfl
theorem rules_end.ok (N : Nat) : FnOk Try.prog 82 (rules_end.D N) := by
  refine FnOk_of tb_ok (Checked.mixed Try.checked) ⟨Try.f82, Try.func82, by kernel_rfl, by kernel_rfl, fun x y h => ⟨rules_end.G N, rules_end.A, N, gamOf_ok (fun p hp => nomatch hp), ?_⟩⟩ (rules_end.fit N)
  rw [absFn_n (n0 := 0) rfl (by kernel_rfl)]
  exact (rules_end.entry N _ x).trans h
/-! ### f58: gamehall/rules.Check -/
def rules_Check.as : List MK := [.d true (.prod .str (.prod (.int .i64) (.prod (.int .i64) (.prod (.slice 69 (.prod (.int .u8) (.prod (.int .i64) (.prod (.int .i64) (.slice 101 (.prod (.int .i64) (.prod (.int .i64) (.prod (.int .i64) (.int .i64))))))))) (.prod (.slice 3 (.int .i64)) (.prod .bool (.prod .bool (.prod (.slice 71 (.prod (.int .i64) (.prod (.int .i64) (.prod (.int .i64) .bool)))) (.prod (.int .i64) (.prod (.int .i64) (.int .i64)))))))))))]
def rules_Check.rs : List (Bool × HT) := [(false, (.d (.int .i64)))]
def rules_Check.lc : List AC := []
def rules_Check.D (N : Nat) : DFn := ⟨rules_Check.as, rules_Check.rs, Int, fun x => rules_Check N x.1, fun r o => r.1, fun b => (b, ()), fun b => ()⟩
theorem rules_Check.fit (N : Nat) : (rules_Check.D N).Fit := ⟨fun _ _ => rfl, fun _ _ => rfl, by kernel_rfl⟩
noncomputable def rules_Check.G (N : Nat) : Gam := gamOf [(80, rules_Name.D N), (81, rules_pieces.D N), (82, rules_end.D N)]
def rules_Check.A : Nat → Option LoopAnn := fun k => bif Nat.beq k 1 then some ⟨[1, 49, 50, 51], [], [], [], [], 1, false⟩ else bif Nat.beq k 3 then some ⟨[1, 71, 72, 73], [], [], [], [], 1, false⟩ else none
noncomputable def rules_Check.fin (N : Nat) : St → Option Int := resK tb Try.f58.results.toList (decRes (rules_Check.D N) rules_Check.lc)
noncomputable def rules_Check.k0 : List Item := stackAt [.r, .r, .r, .r, .l, .r, .b] (bodyOf Try.f58) []
def rules_Check.st0 (r_ : TRules) (t50_ : Int) (t51_ : Int) : St := ⟨[.one .any, .one (.ptr 0 0)] ++ List.replicate 47 (.one .any) ++ [.one (.fro 3 (.int .i64) r_.2.2.2.2.1), .one (.int .i64 t50_), .one (.int .i64 t51_)] ++ List.replicate 67 (.one .any), [.var 26 [.str r_.1, .int .i64 r_.2.1, .int .i64 r_.2.2.1, .fro 69 (.prod (.int .u8) (.prod (.int .i64) (.prod (.int .i64) (.slice 101 (.prod (.int .i64) (.prod (.int .i64) (.prod (.int .i64) (.int .i64)))))))) r_.2.2.2.1, .fro 3 (.int .i64) r_.2.2.2.2.1, .bool r_.2.2.2.2.2.1, .bool r_.2.2.2.2.2.2.1, .fro 71 (.prod (.int .i64) (.prod (.int .i64) (.prod (.int .i64) .bool))) r_.2.2.2.2.2.2.2.1, .int .i64 r_.2.2.2.2.2.2.2.2.1, .int .i64 r_.2.2.2.2.2.2.2.2.2.1, .int .i64 r_.2.2.2.2.2.2.2.2.2.2]]⟩
noncomputable def rules_Check.k1 : List Item := stackAt [.r, .r, .r, .r, .r, .r, .l, .r, .b] (bodyOf Try.f58) []
def rules_Check.st1 (r_ : TRules) (t72_ : Int) (t73_ : Int) : St := ⟨[.one .any, .one (.ptr 0 0)] ++ List.replicate 69 (.one .any) ++ [.one (.fro 71 (.prod (.int .i64) (.prod (.int .i64) (.prod (.int .i64) .bool))) r_.2.2.2.2.2.2.2.1), .one (.int .i64 t72_), .one (.int .i64 t73_)] ++ List.replicate 45 (.one .any), [.var 26 [.str r_.1, .int .i64 r_.2.1, .int .i64 r_.2.2.1, .fro 69 (.prod (.int .u8) (.prod (.int .i64) (.prod (.int .i64) (.slice 101 (.prod (.int .i64) (.prod (.int .i64) (.prod (.int .i64) (.int .i64)))))))) r_.2.2.2.1, .fro 3 (.int .i64) r_.2.2.2.2.1, .bool r_.2.2.2.2.2.1, .bool r_.2.2.2.2.2.2.1, .fro 71 (.prod (.int .i64) (.prod (.int .i64) (.prod (.int .i64) .bool))) r_.2.2.2.2.2.2.2.1, .int .i64 r_.2.2.2.2.2.2.2.2.1, .int .i64 r_.2.2.2.2.2.2.2.2.2.1, .int .i64 r_.2.2.2.2.2.2.2.2.2.2]]⟩
theorem rules_Check.step0 (N : Nat) (rec : List Item → St → Option Int) (r_ : TRules) (t50_ : Int) (t51_ : Int) : seg tb (rules_Check.G N) rules_Check.A 0 rec (rules_Check.fin N) segFuel (loopBody rules_Check.k0) (rules_Check.st0 r_ t50_ t51_) = rules_Check.s0 N r_ (fun t50_ t51_ => rec rules_Check.k0 (rules_Check.st0 r_ t50_ t51_)) (fun t72_ t73_ => rec rules_Check.k1 (rules_Check.st1 r_ t72_ t73_)) t50_ t51_ := by kernel_rfl
theorem rules_Check.step1 (N : Nat) (rec : List Item → St → Option Int) (r_ : TRules) (t72_ : Int) (t73_ : Int) : seg tb (rules_Check.G N) rules_Check.A 0 rec (rules_Check.fin N) segFuel (loopBody rules_Check.k1) (rules_Check.st1 r_ t72_ t73_) = rules_Check.s1 N r_ (fun t50_ t51_ => rec rules_Check.k0 (rules_Check.st0 r_ t50_ t51_)) (fun t72_ t73_ => rec rules_Check.k1 (rules_Check.st1 r_ t72_ t73_)) t72_ t73_ := by kernel_rfl
theorem rules_Check.entry (N : Nat) (rec : List Item → St → Option Int) (x : (argH rules_Check.as).den) : seg tb (rules_Check.G N) rules_Check.A 0 rec (rules_Check.fin N) segFuel [.code (bodyOf Try.f58)] (initSt Try.f58 (encArgs rules_Check.as x) (encMem rules_Check.as x)) = rules_Check.e N (fun t50_ t51_ => rec rules_Check.k0 (rules_Check.st0 x.1 t50_ t51_)) (fun t72_ t73_ => rec rules_Check.k1 (rules_Check.st1 x.1 t72_ t73_)) x.1 := by kernel_rfl
theorem rules_Check.runs (N : Nat) (r_ : TRules) : ∀ n, (∀ (t50_ : Int) (t51_ : Int), run tb (rules_Check.G N) rules_Check.A 0 (rules_Check.fin N) n rules_Check.k0 (rules_Check.st0 r_ t50_ t51_) = rules_Check.l0 N r_ n t50_ t51_) ∧ (∀ (t72_ : Int) (t73_ : Int), run tb (rules_Check.G N) rules_Check.A 0 (rules_Check.fin N) n rules_Check.k1 (rules_Check.st1 r_ t72_ t73_) = rules_Check.l1 N r_ n t72_ t73_)
  | 0 => ⟨fun _ _ => rfl, fun _ _ => rfl⟩
  | n + 1 => by
    obtain ⟨h0, h1⟩ := rules_Check.runs N r_ n
    have e0 : (fun (t50_ : Int) (t51_ : Int) => run tb (rules_Check.G N) rules_Check.A 0 (rules_Check.fin N) n rules_Check.k0 (rules_Check.st0 r_ t50_ t51_)) = rules_Check.l0 N r_ n := by funext t50_ t51_; exact h0 t50_ t51_
    have e1 : (fun (t72_ : Int) (t73_ : Int) => run tb (rules_Check.G N) rules_Check.A 0 (rules_Check.fin N) n rules_Check.k1 (rules_Check.st1 r_ t72_ t73_)) = rules_Check.l1 N r_ n := by funext t72_ t73_; exact h1 t72_ t73_
    have g0 : (∀ (t50_ : Int) (t51_ : Int), run tb (rules_Check.G N) rules_Check.A 0 (rules_Check.fin N) (n + 1) rules_Check.k0 (rules_Check.st0 r_ t50_ t51_) = rules_Check.l0 N r_ (n + 1) t50_ t51_) := by
      intro t50_ t51_
      exact (run_succ (by kernel_rfl)).trans ((rules_Check.step0 N _ r_ t50_ t51_).trans ((congr (congrArg (fun r0 r1 => rules_Check.s0 N r_ r0 r1 t50_ t51_) e0) e1).trans (rules_Check.l0_s N r_ n t50_ t51_).symm))
    have g1 : (∀ (t72_ : Int) (t73_ : Int), run tb (rules_Check.G N) rules_Check.A 0 (rules_Check.fin N) (n + 1) rules_Check.k1 (rules_Check.st1 r_ t72_ t73_) = rules_Check.l1 N r_ (n + 1) t72_ t73_) := by
      intro t72_ t73_
      exact (run_succ (by kernel_rfl)).trans ((rules_Check.step1 N _ r_ t72_ t73_).trans ((congr (congrArg (fun r0 r1 => rules_Check.s1 N r_ r0 r1 t72_ t73_) e0) e1).trans (rules_Check.l1_s N r_ n t72_ t73_).symm))
    exact ⟨g0, g1⟩
theorem rules_Check.ok (N : Nat) : FnOk Try.prog 58 (rules_Check.D N) := by
  refine FnOk_of tb_ok (Checked.mixed Try.checked) ⟨Try.f58, Try.func58, by kernel_rfl, by kernel_rfl, fun x y h => ⟨rules_Check.G N, rules_Check.A, N, gamOf_ok (by simp only [List.forall_mem_cons, List.not_mem_nil, false_implies, implies_true, and_true]; exact ⟨⟨rules_Name.ok N, rules_Name.fit N⟩, ⟨rules_pieces.ok N, rules_pieces.fit N⟩, ⟨rules_end.ok N, rules_end.fit N⟩⟩), ?_⟩⟩ (rules_Check.fit N)
  rw [absFn_n (n0 := 0) rfl (by kernel_rfl)]
  refine (rules_Check.entry N (run tb (rules_Check.G N) rules_Check.A 0 (rules_Check.fin N) N) x).trans ?_
  have e0 : (fun (t50_ : Int) (t51_ : Int) => run tb (rules_Check.G N) rules_Check.A 0 (rules_Check.fin N) N rules_Check.k0 (rules_Check.st0 x.1 t50_ t51_)) = rules_Check.l0 N x.1 N := by funext t50_ t51_; exact (rules_Check.runs N x.1 N).1 t50_ t51_
  have e1 : (fun (t72_ : Int) (t73_ : Int) => run tb (rules_Check.G N) rules_Check.A 0 (rules_Check.fin N) N rules_Check.k1 (rules_Check.st1 x.1 t72_ t73_)) = rules_Check.l1 N x.1 N := by funext t72_ t73_; exact (rules_Check.runs N x.1 N).2 t72_ t73_
  have h' : (rules_Check.D N).f x = rules_Check.e N (rules_Check.l0 N x.1 N) (rules_Check.l1 N x.1 N) x.1 := by kernel_rfl
  exact (congr (congrArg (fun r0 r1 => rules_Check.e N r0 r1 x.1) e0) e1).trans (h'.symm.trans h)
/-! ### f34: gamehall/place.Check -/
def place_Check.as : List MK := [.d true (.prod .str (.prod (.int .i64) (.prod (.int .i64) (.prod (.slice 69 (.prod (.int .u8) (.prod (.int .i64) (.prod (.int .i64) (.slice 101 (.prod (.int .i64) (.prod (.int .i64) (.prod (.int .i64) (.int .i64))))))))) (.prod (.slice 3 (.int .i64)) (.prod .bool (.prod .bool (.prod (.slice 71 (.prod (.int .i64) (.prod (.int .i64) (.prod (.int .i64) .bool)))) (.prod (.int .i64) (.prod (.int .i64) (.int .i64))))))))))), .d true (.prod (.slice 3 (.int .i64)) (.prod (.prod (.slice 3 (.int .i64)) (.slice 3 (.int .i64))) (.prod (.int .i64) (.int .i64))))]
def place_Check.rs : List (Bool × HT) := [(false, (.d (.int .i64)))]
def place_Check.lc : List AC := []
def place_Check.D (N : Nat) : DFn := ⟨place_Check.as, place_Check.rs, Int, fun x => place_Check N x.1 x.2.1, fun r o => r.1, fun b => (b, ()), fun b => ()⟩
theorem place_Check.fit (N : Nat) : (place_Check.D N).Fit := ⟨fun _ _ => rfl, fun _ _ => rfl, by kernel_rfl⟩
noncomputable def place_Check.G (N : Nat) : Gam := gamOf [(58, rules_Check.D N)]
def place_Check.A : Nat → Option LoopAnn := fun k => bif Nat.beq k 0 then some ⟨[2, 3, 47, 48, 49], [], [], [], [], 2, false⟩ else bif Nat.beq k 2 then some ⟨[3, 65, 66], [], [], [], [0], 2, false⟩ else bif Nat.beq k 4 then some ⟨[3, 65, 66, 69, 70, 71], [], [], [], [], 2, false⟩ else none
noncomputable def place_Check.fin (N : Nat) : St → Option Int := resK tb Try.f34.results.toList (decRes (place_Check.D N) place_Check.lc)
noncomputable def place_Check.k0 : List Item := stackAt [.r, .r, .r, .l, .r, .b] (bodyOf Try.f34) []
def place_Check.st0 (r_ : TRules) (p_ : TPos) (t49_ : Int) : St := ⟨[.one .any, .one .any, .one (.ptr 0 0), .one (.ptr 1 0)] ++ List.replicate 43 (.one .any) ++ [.one (.fro 3 (.int .i64) p_.1), .one (.int .i64 (p_.1.length : Int)), .one (.int .i64 t49_)] ++ List.replicate 51 (.one .any), [.var 26 [.str r_.1, .int .i64 r_.2.1, .int .i64 r_.2.2.1, .fro 69 (.prod (.int .u8) (.prod (.int .i64) (.prod (.int .i64) (.slice 101 (.prod (.int .i64) (.prod (.int .i64) (.prod (.int .i64) (.int .i64)))))))) r_.2.2.2.1, .fro 3 (.int .i64) r_.2.2.2.2.1, .bool r_.2.2.2.2.2.1, .bool r_.2.2.2.2.2.2.1, .fro 71 (.prod (.int .i64) (.prod (.int .i64) (.prod (.int .i64) .bool))) r_.2.2.2.2.2.2.2.1, .int .i64 r_.2.2.2.2.2.2.2.2.1, .int .i64 r_.2.2.2.2.2.2.2.2.2.1, .int .i64 r_.2.2.2.2.2.2.2.2.2.2], .var 29 [.fro 3 (.int .i64) p_.1, .fro 3 (.int .i64) p_.2.1.1, .fro 3 (.int .i64) p_.2.1.2, .int .i64 p_.2.2.1, .int .i64 p_.2.2.2]]⟩
noncomputable def place_Check.k1 : List Item := stackAt [.r, .r, .r, .r, .l, .r, .b] (bodyOf Try.f34) []
def place_Check.st1 (r_ : TRules) (p_ : TPos) (t66_ : Int) : St := ⟨List.replicate 3 (.one .any) ++ [.one (.ptr 1 0)] ++ List.replicate 61 (.one .any) ++ [.agg [.fro 3 (.int .i64) p_.2.1.1, .fro 3 (.int .i64) p_.2.1.2], .one (.int .i64 t66_)] ++ List.replicate 34 (.one .any), [.gone, .var 29 [.fro 3 (.int .i64) p_.1, .fro 3 (.int .i64) p_.2.1.1, .fro 3 (.int .i64) p_.2.1.2, .int .i64 p_.2.2.1, .int .i64 p_.2.2.2]]⟩
noncomputable def place_Check.k2 : List Item := stackAt [.r, .r, .r, .r, .l, .r, .b, .w, .r, .r, .l, .b, .r, .r, .b] (bodyOf Try.f34) []
def place_Check.st2 (r_ : TRules) (p_ : TPos) (t66_ : Int) (t69_ : LInt) (t70_ : Int) (t71_ : Int) : St := ⟨List.replicate 3 (.one .any) ++ [.one (.ptr 1 0)] ++ List.replicate 61 (.one .any) ++ [.agg [.fro 3 (.int .i64) p_.2.1.1, .fro 3 (.int .i64) p_.2.1.2], .one (.int .i64 t66_), .one .any, .one .any, .one (.fro 3 (.int .i64) t69_), .one (.int .i64 t70_), .one (.int .i64 t71_)] ++ List.replicate 29 (.one .any), [.gone, .var 29 [.fro 3 (.int .i64) p_.1, .fro 3 (.int .i64) p_.2.1.1, .fro 3 (.int .i64) p_.2.1.2, .int .i64 p_.2.2.1, .int .i64 p_.2.2.2]]⟩
theorem place_Check.step0 (N : Nat) (rec : List Item → St → Option Int) (r_ : TRules) (p_ : TPos) (t49_ : Int) : seg tb (place_Check.G N) place_Check.A 0 rec (place_Check.fin N) segFuel (loopBody place_Check.k0) (place_Check.st0 r_ p_ t49_) = place_Check.s0 N r_ p_ (fun t49_ => rec place_Check.k0 (place_Check.st0 r_ p_ t49_)) (fun t66_ => rec place_Check.k1 (place_Check.st1 r_ p_ t66_)) (fun t66_ t69_ t70_ t71_ => rec place_Check.k2 (place_Check.st2 r_ p_ t66_ t69_ t70_ t71_)) t49_ := by kernel_rfl
theorem place_Check.step1 (N : Nat) (rec : List Item → St → Option Int) (r_ : TRules) (p_ : TPos) (t66_ : Int) : seg tb (place_Check.G N) place_Check.A 0 rec (place_Check.fin N) segFuel (loopBody place_Check.k1) (place_Check.st1 r_ p_ t66_) = place_Check.s1 N r_ p_ (fun t49_ => rec place_Check.k0 (place_Check.st0 r_ p_ t49_)) (fun t66_ => rec place_Check.k1 (place_Check.st1 r_ p_ t66_)) (fun t66_ t69_ t70_ t71_ => rec place_Check.k2 (place_Check.st2 r_ p_ t66_ t69_ t70_ t71_)) t66_ := by kernel_rfl
theorem place_Check.step2 (N : Nat) (rec : List Item → St → Option Int) (r_ : TRules) (p_ : TPos) (t66_ : Int) (t69_ : LInt) (t70_ : Int) (t71_ : Int) : seg tb (place_Check.G N) place_Check.A 0 rec (place_Check.fin N) segFuel (loopBody place_Check.k2) (place_Check.st2 r_ p_ t66_ t69_ t70_ t71_) = place_Check.s2 N r_ p_ (fun t49_ => rec place_Check.k0 (place_Check.st0 r_ p_ t49_)) (fun t66_ => rec place_Check.k1 (place_Check.st1 r_ p_ t66_)) (fun t66_ t69_ t70_ t71_ => rec place_Check.k2 (place_Check.st2 r_ p_ t66_ t69_ t70_ t71_)) t66_ t69_ t70_ t71_ := by kernel_rfl
theorem place_Check.entry (N : Nat) (rec : List Item → St → Option Int) (x : (argH place_Check.as).den) : seg tb (place_Check.G N) place_Check.A 0 rec (place_Check.fin N) segFuel [.code (bodyOf Try.f34)] (initSt Try.f34 (encArgs place_Check.as x) (encMem place_Check.as x)) = place_Check.e N (fun t49_ => rec place_Check.k0 (place_Check.st0 x.1 x.2.1 t49_)) (fun t66_ => rec place_Check.k1 (place_Check.st1 x.1 x.2.1 t66_)) (fun t66_ t69_ t70_ t71_ => rec place_Check.k2 (place_Check.st2 x.1 x.2.1 t66_ t69_ t70_ t71_)) x.1 x.2.1 := by kernel_rfl
theorem place_Check.runs (N : Nat) (r_ : TRules) (p_ : TPos) : ∀ n, (∀ (t49_ : Int), run tb (place_Check.G N) place_Check.A 0 (place_Check.fin N) n place_Check.k0 (place_Check.st0 r_ p_ t49_) = place_Check.l0 N r_ p_ n t49_) ∧ (∀ (t66_ : Int), run tb (place_Check.G N) place_Check.A 0 (place_Check.fin N) n place_Check.k1 (place_Check.st1 r_ p_ t66_) = place_Check.l1 N r_ p_ n t66_) ∧ (∀ (t66_ : Int) (t69_ : LInt) (t70_ : Int) (t71_ : Int), run tb (place_Check.G N) place_Check.A 0 (place_Check.fin N) n place_Check.k2 (place_Check.st2 r_ p_ t66_ t69_ t70_ t71_) = place_Check.l2 N r_ p_ n t66_ t69_ t70_ t71_)
  | 0 => ⟨fun _ => rfl, fun _ => rfl, fun _ _ _ _ => rfl⟩
  | n + 1 => by
    obtain ⟨h0, h1, h2⟩ := place_Check.runs N r_ p_ n
    have e0 : (fun (t49_ : Int) => run tb (place_Check.G N) place_Check.A 0 (place_Check.fin N) n place_Check.k0 (place_Check.st0 r_ p_ t49_)) = place_Check.l0 N r_ p_ n := by funext t49_; exact h0 t49_
    have e1 : (fun (t66_ : Int) => run tb (place_Check.G N) place_Check.A 0 (place_Check.fin N) n place_Check.k1 (place_Check.st1 r_ p_ t66_)) = place_Check.l1 N r_ p_ n := by funext t66_; exact h1 t66_
    have e2 : (fun (t66_ : Int) (t69_ : LInt) (t70_ : Int) (t71_ : Int) => run tb (place_Check.G N) place_Check.A 0 (place_Check.fin N) n place_Check.k2 (place_Check.st2 r_ p_ t66_ t69_ t70_ t71_)) = place_Check.l2 N r_ p_ n := by funext t66_ t69_ t70_ t71_; exact h2 t66_ t69_ t70_ t71_
    have g0 : (∀ (t49_ : Int), run tb (place_Check.G N) place_Check.A 0 (place_Check.fin N) (n + 1) place_Check.k0 (place_Check.st0 r_ p_ t49_) = place_Check.l0 N r_ p_ (n + 1) t49_) := by
      intro t49_
      exact (run_succ (by kernel_rfl)).trans ((place_Check.step0 N _ r_ p_ t49_).trans ((congr (congr (congrArg (fun r0 r1 r2 => place_Check.s0 N r_ p_ r0 r1 r2 t49_) e0) e1) e2).trans (place_Check.l0_s N r_ p_ n t49_).symm))
    have g1 : (∀ (t66_ : Int), run tb (place_Check.G N) place_Check.A 0 (place_Check.fin N) (n + 1) place_Check.k1 (place_Check.st1 r_ p_ t66_) = place_Check.l1 N r_ p_ (n + 1) t66_) := by
      intro t66_
      exact (run_succ (by kernel_rfl)).trans ((place_Check.step1 N _ r_ p_ t66_).trans ((congr (congr (congrArg (fun r0 r1 r2 => place_Check.s1 N r_ p_ r0 r1 r2 t66_) e0) e1) e2).trans (place_Check.l1_s N r_ p_ n t66_).symm))
    have g2 : (∀ (t66_ : Int) (t69_ : LInt) (t70_ : Int) (t71_ : Int), run tb (place_Check.G N) place_Check.A 0 (place_Check.fin N) (n + 1) place_Check.k2 (place_Check.st2 r_ p_ t66_ t69_ t70_ t71_) = place_Check.l2 N r_ p_ (n + 1) t66_ t69_ t70_ t71_) := by
      intro t66_ t69_ t70_ t71_
      exact (run_succ (by kernel_rfl)).trans ((place_Check.step2 N _ r_ p_ t66_ t69_ t70_ t71_).trans ((congr (congr (congrArg (fun r0 r1 r2 => place_Check.s2 N r_ p_ r0 r1 r2 t66_ t69_ t70_ t71_) e0) e1) e2).trans (place_Check.l2_s N r_ p_ n t66_ t69_ t70_ t71_).symm))
    exact ⟨g0, g1, g2⟩
theorem place_Check.ok (N : Nat) : FnOk Try.prog 34 (place_Check.D N) := by
  refine FnOk_of tb_ok (Checked.mixed Try.checked) ⟨Try.f34, Try.func34, by kernel_rfl, by kernel_rfl, fun x y h => ⟨place_Check.G N, place_Check.A, N, gamOf_ok (by simp only [List.forall_mem_cons, List.not_mem_nil, false_implies, implies_true, and_true]; exact ⟨rules_Check.ok N, rules_Check.fit N⟩), ?_⟩⟩ (place_Check.fit N)
  rw [absFn_n (n0 := 0) rfl (by kernel_rfl)]
  refine (place_Check.entry N (run tb (place_Check.G N) place_Check.A 0 (place_Check.fin N) N) x).trans ?_
  have e0 : (fun (t49_ : Int) => run tb (place_Check.G N) place_Check.A 0 (place_Check.fin N) N place_Check.k0 (place_Check.st0 x.1 x.2.1 t49_)) = place_Check.l0 N x.1 x.2.1 N := by funext t49_; exact (place_Check.runs N x.1 x.2.1 N).1 t49_
  have e1 : (fun (t66_ : Int) => run tb (place_Check.G N) place_Check.A 0 (place_Check.fin N) N place_Check.k1 (place_Check.st1 x.1 x.2.1 t66_)) = place_Check.l1 N x.1 x.2.1 N := by funext t66_; exact (place_Check.runs N x.1 x.2.1 N).2.1 t66_
  have e2 : (fun (t66_ : Int) (t69_ : LInt) (t70_ : Int) (t71_ : Int) => run tb (place_Check.G N) place_Check.A 0 (place_Check.fin N) N place_Check.k2 (place_Check.st2 x.1 x.2.1 t66_ t69_ t70_ t71_)) = place_Check.l2 N x.1 x.2.1 N := by funext t66_ t69_ t70_ t71_; exact (place_Check.runs N x.1 x.2.1 N).2.2 t66_ t69_ t70_ t71_
  have h' : (place_Check.D N).f x = place_Check.e N (place_Check.l0 N x.1 x.2.1 N) (place_Check.l1 N x.1 x.2.1 N) (place_Check.l2 N x.1 x.2.1 N) x.1 x.2.1 := by kernel_rfl
  exact (congr (congr (congrArg (fun r0 r1 r2 => place_Check.e N r0 r1 r2 x.1 x.2.1) e0) e1) e2).trans (h'.symm.trans h)
/-! ### f59: slices.Clone[[]int,int] -/
def slices_Clone_int_int.as : List MK := [.d false (.slice 3 (.int .i64))]
def slices_Clone_int_int.rs : List (Bool × HT) := [(false, (.own 3 (.int .i64)))]
def slices_Clone_int_int.lc : List AC := []
def slices_Clone_int_int.D (N : Nat) : DFn := ⟨slices_Clone_int_int.as, slices_Clone_int_int.rs, LInt, fun x => slices_Clone_int_int N x.1, fun r o => r.1, fun b => (b, ()), fun b => ()⟩
theorem slices_Clone_int_int.fit (N : Nat) : (slices_Clone_int_int.D N).Fit := ⟨fun _ _ => rfl, fun _ _ => rfl, by kernel_rfl⟩
noncomputable def slices_Clone_int_int.G (N : Nat) : Gam := gamOf []
def slices_Clone_int_int.A : Nat → Option LoopAnn := fun _ => none
noncomputable def slices_Clone_int_int.fin (N : Nat) : St → Option LInt := resK tb Try.f59.results.toList (decRes (slices_Clone_int_int.D N) slices_Clone_int_int.lc)
theorem slices_Clone_int_int.entry0 (N : Nat) (rec : List Item → St → Option LInt) : seg tb (slices_Clone_int_int.G N) slices_Clone_int_int.A 0 rec (slices_Clone_int_int.fin N) segFuel [.code (bodyOf Try.f59)] (initSt Try.f59 [.one .nilS] []) = some [] := by kernel_rfl
theorem slices_Clone_int_int.entry (N : Nat) (rec : List Item → St → Option LInt) (x : LInt) : seg tb (slices_Clone_int_int.G N) slices_Clone_int_int.A 0 rec (slices_Clone_int_int.fin N) segFuel [.code (bodyOf Try.f59)] (initSt Try.f59 [.one (.frn 3 (.int .i64) x)] []) = slices_Clone_int_int.e N x := by kernel_rfl
theorem slices_Clone_int_int.ok (N : Nat) : FnOk Try.prog 59 (slices_Clone_int_int.D N) := by
  refine FnOk_ofN (e := 3) (t := (.int .i64)) (h := rfl) tb_ok (Checked.mixed Try.checked) ⟨Try.f59, Try.func59, by kernel_rfl, by kernel_rfl, fun x y h => ⟨slices_Clone_int_int.G N, slices_Clone_int_int.A, N, gamOf_ok (fun p hp => nomatch hp), fun hx => ?_, ?_⟩⟩ (slices_Clone_int_int.fit N)
  · subst hx; rw [absFn_n (n0 := 0) rfl (by kernel_rfl)]; exact (slices_Clone_int_int.entry0 N _).trans h
  · rw [absFn_n (n0 := 0) rfl (by kernel_rfl)]; exact (slices_Clone_int_int.entry N _ x).trans h
/-! ### f35: gamehall/place.Copy -/
def place_Copy.as : List MK := [.d true (.prod (.slice 3 (.int .i64)) (.prod (.prod (.slice 3 (.int .i64)) (.slice 3 (.int .i64))) (.prod (.int .i64) (.int .i64))))]
def place_Copy.rs : List (Bool × HT) := [(true, (.prod (.own 3 (.int .i64)) (.prod (.prod (.own 3 (.int .i64)) (.own 3 (.int .i64))) (.d (.prod (.int .i64) (.int .i64))))))]
def place_Copy.lc : List AC := []
def place_Copy.D (N : Nat) : DFn := ⟨place_Copy.as, place_Copy.rs, TPos, fun x => place_Copy N x.1, fun r o => r.1, fun b => (b, ()), fun b => ()⟩
theorem place_Copy.fit (N : Nat) : (place_Copy.D N).Fit := ⟨fun _ _ => rfl, fun _ _ => rfl, by kernel_rfl⟩
noncomputable def place_Copy.G (N : Nat) : Gam := gamOf [(59, slices_Clone_int_int.D N)]
def place_Copy.A : Nat → Option LoopAnn := fun k => bif Nat.beq k 0 then some ⟨[], [], [], [], [], 0, true⟩ else none
noncomputable def place_Copy.fin (N : Nat) : St → Option TPos := resK tb Try.f35.results.toList (decRes (place_Copy.D N) place_Copy.lc)
theorem place_Copy.entry (N : Nat) (rec : List Item → St → Option TPos) (x : (argH place_Copy.as).den) : seg tb (place_Copy.G N) place_Copy.A 0 rec (place_Copy.fin N) segFuel [.code (bodyOf Try.f35)] (initSt Try.f35 (encArgs place_Copy.as x) (encMem place_Copy.as x)) = place_Copy.e N x.1 := by kernel_rfl
theorem place_Copy.ok (N : Nat) : FnOk Try.prog 35 (place_Copy.D N) := by
  refine FnOk_of tb_ok (Checked.mixed Try.checked) ⟨Try.f35, Try.func35, by kernel_rfl, by kernel_rfl, fun x y h => ⟨place_Copy.G N, place_Copy.A, N, gamOf_ok (by simp only [List.forall_mem_cons, List.not_mem_nil, false_implies, implies_true, and_true]; exact ⟨slices_Clone_int_int.ok N, slices_Clone_int_int.fit N⟩), ?_⟩⟩ (place_Copy.fit N)
  rw [absFn_n (n0 := 0) rfl (by kernel_rfl)]
  exact (place_Copy.entry N _ x).trans h
/-! ### f37: gamehall/rules.Turned -/
def rules_Turned.as : List MK := [.d true (.prod .str (.prod (.int .i64) (.prod (.int .i64) (.prod (.slice 69 (.prod (.int .u8) (.prod (.int .i64) (.prod (.int .i64) (.slice 101 (.prod (.int .i64) (.prod (.int .i64) (.prod (.int .i64) (.int .i64))))))))) (.prod (.slice 3 (.int .i64)) (.prod .bool (.prod .bool (.prod (.slice 71 (.prod (.int .i64) (.prod (.int .i64) (.prod (.int .i64) .bool)))) (.prod (.int .i64) (.prod (.int .i64) (.int .i64))))))))))), .d false (.int .i64)]
def rules_Turned.rs : List (Bool × HT) := [(false, (.d (.int .i64)))]
def rules_Turned.lc : List AC := []
def rules_Turned.D (N : Nat) : DFn := ⟨rules_Turned.as, rules_Turned.rs, Int, fun x => rules_Turned N x.1 x.2.1, fun r o => r.1, fun b => (b, ()), fun b => ()⟩
theorem rules_Turned.fit (N : Nat) : (rules_Turned.D N).Fit := ⟨fun _ _ => rfl, fun _ _ => rfl, by kernel_rfl⟩
noncomputable def rules_Turned.G (N : Nat) : Gam := gamOf []
def rules_Turned.A : Nat → Option LoopAnn := fun _ => none
noncomputable def rules_Turned.fin (N : Nat) : St → Option Int := resK tb Try.f37.results.toList (decRes (rules_Turned.D N) rules_Turned.lc)
theorem rules_Turned.entry (N : Nat) (rec : List Item → St → Option Int) (x : (argH rules_Turned.as).den) : seg tb (rules_Turned.G N) rules_Turned.A 0 rec (rules_Turned.fin N) segFuel [.code (bodyOf Try.f37)] (initSt Try.f37 (encArgs rules_Turned.as x) (encMem rules_Turned.as x)) = rules_Turned.e N x.1 x.2.1 := by kernel_rfl
theorem rules_Turned.ok (N : Nat) : FnOk Try.prog 37 (rules_Turned.D N) := by
  refine FnOk_of tb_ok (Checked.mixed Try.checked) ⟨Try.f37, Try.func37, by kernel_rfl, by kernel_rfl, fun x y h => ⟨rules_Turned.G N, rules_Turned.A, N, gamOf_ok (fun p hp => nomatch hp), ?_⟩⟩ (rules_Turned.fit N)
  rw [absFn_n (n0 := 0) rfl (by kernel_rfl)]
  exact (rules_Turned.entry N _ x).trans h
/-! ### f36: gamehall/rules.Swapped -/
def rules_Swapped.as : List MK := [.d false (.int .i64)]
def rules_Swapped.rs : List (Bool × HT) := [(false, (.d (.int .i64)))]
def rules_Swapped.lc : List AC := []
def rules_Swapped.D (N : Nat) : DFn := ⟨rules_Swapped.as, rules_Swapped.rs, Int, fun x => rules_Swapped N x.1, fun r o => r.1, fun b => (b, ()), fun b => ()⟩
theorem rules_Swapped.fit (N : Nat) : (rules_Swapped.D N).Fit := ⟨fun _ _ => rfl, fun _ _ => rfl, by kernel_rfl⟩
noncomputable def rules_Swapped.G (N : Nat) : Gam := gamOf []
def rules_Swapped.A : Nat → Option LoopAnn := fun _ => none
noncomputable def rules_Swapped.fin (N : Nat) : St → Option Int := resK tb Try.f36.results.toList (decRes (rules_Swapped.D N) rules_Swapped.lc)
theorem rules_Swapped.entry (N : Nat) (rec : List Item → St → Option Int) (x : (argH rules_Swapped.as).den) : seg tb (rules_Swapped.G N) rules_Swapped.A 0 rec (rules_Swapped.fin N) segFuel [.code (bodyOf Try.f36)] (initSt Try.f36 (encArgs rules_Swapped.as x) (encMem rules_Swapped.as x)) = rules_Swapped.e N x.1 := by kernel_rfl
theorem rules_Swapped.ok (N : Nat) : FnOk Try.prog 36 (rules_Swapped.D N) := by
  refine FnOk_of tb_ok (Checked.mixed Try.checked) ⟨Try.f36, Try.func36, by kernel_rfl, by kernel_rfl, fun x y h => ⟨rules_Swapped.G N, rules_Swapped.A, N, gamOf_ok (fun p hp => nomatch hp), ?_⟩⟩ (rules_Swapped.fit N)
  rw [absFn_n (n0 := 0) rfl (by kernel_rfl)]
  exact (rules_Swapped.entry N _ x).trans h
/-! ### f7: gamehall/place.Other -/
def place_Other.as : List MK := [.d true (.prod .str (.prod (.int .i64) (.prod (.int .i64) (.prod (.slice 69 (.prod (.int .u8) (.prod (.int .i64) (.prod (.int .i64) (.slice 101 (.prod (.int .i64) (.prod (.int .i64) (.prod (.int .i64) (.int .i64))))))))) (.prod (.slice 3 (.int .i64)) (.prod .bool (.prod .bool (.prod (.slice 71 (.prod (.int .i64) (.prod (.int .i64) (.prod (.int .i64) .bool)))) (.prod (.int .i64) (.prod (.int .i64) (.int .i64))))))))))), .d true (.prod (.slice 3 (.int .i64)) (.prod (.prod (.slice 3 (.int .i64)) (.slice 3 (.int .i64))) (.prod (.int .i64) (.int .i64))))]
def place_Other.rs : List (Bool × HT) := [(true, (.prod (.own 3 (.int .i64)) (.prod (.prod (.own 3 (.int .i64)) (.own 3 (.int .i64))) (.d (.prod (.int .i64) (.int .i64)))))), (false, (.d (.int .i64)))]
def place_Other.lc : List AC := []
def place_Other.D (N : Nat) : DFn := ⟨place_Other.as, place_Other.rs, (TPos × Int), fun x => place_Other N x.1 x.2.1, fun r o => (r.1, r.2.1), fun b => (b.1, (b.2, ())), fun b => ()⟩
theorem place_Other.fit (N : Nat) : (place_Other.D N).Fit := ⟨fun _ _ => rfl, fun _ _ => rfl, by kernel_rfl⟩
noncomputable def place_Other.G (N : Nat) : Gam := gamOf [(34, place_Check.D N), (35, place_Copy.D N), (37, rules_Turned.D N), (36, rules_Swapped.D N)]
def place_Other.A : Nat → Option LoopAnn := fun k => bif Nat.beq k 0 then some ⟨[2, 3, 4, 7, 20, 21, 22], [], [], [], [], 7, false⟩ else none
noncomputable def place_Other.fin (N : Nat) : St → Option (TPos × Int) := resK tb Try.f7.results.toList (decRes (place_Other.D N) place_Other.lc)
noncomputable def place_Other.k0 : List Item := stackAt [.r, .r, .r, .l, .r, .b] (bodyOf Try.f7) []
def place_Other.st0 (r_ : TRules) (p_ : TPos) (t22_ : Int) (m3_ : LInt) (m4_ : LInt) (m5_ : LInt) (out : Int) (out2 : Int) : St := ⟨[.one .any, .one .any, .one (.ptr 0 0), .one (.ptr 1 0), .one (.ptr 2 0), .one .any, .one .any, .one (.ptr 6 0)] ++ List.replicate 12 (.one .any) ++ [.one (.fro 3 (.int .i64) p_.1), .one (.int .i64 (p_.1.length : Int)), .one (.int .i64 t22_)] ++ List.replicate 28 (.one .any), [.var 26 [.str r_.1, .int .i64 r_.2.1, .int .i64 r_.2.2.1, .fro 69 (.prod (.int .u8) (.prod (.int .i64) (.prod (.int .i64) (.slice 101 (.prod (.int .i64) (.prod (.int .i64) (.prod (.int .i64) (.int .i64)))))))) r_.2.2.2.1, .fro 3 (.int .i64) r_.2.2.2.2.1, .bool r_.2.2.2.2.2.1, .bool r_.2.2.2.2.2.2.1, .fro 71 (.prod (.int .i64) (.prod (.int .i64) (.prod (.int .i64) .bool))) r_.2.2.2.2.2.2.2.1, .int .i64 r_.2.2.2.2.2.2.2.2.1, .int .i64 r_.2.2.2.2.2.2.2.2.2.1, .int .i64 r_.2.2.2.2.2.2.2.2.2.2], .var 29 [.fro 3 (.int .i64) p_.1, .fro 3 (.int .i64) p_.2.1.1, .fro 3 (.int .i64) p_.2.1.2, .int .i64 p_.2.2.1, .int .i64 p_.2.2.2], .var 29 [.nilS, .nilS, .nilS, .int .i64 0, .int .i64 0], .row 3 (.int .i64) m3_, .row 3 (.int .i64) m4_, .row 3 (.int .i64) m5_, .var 29 [.own 3, .own 4, .own 5, .int .i64 out, .int .i64 out2]]⟩
theorem place_Other.step0 (N : Nat) (rec : List Item → St → Option (TPos × Int)) (r_ : TRules) (p_ : TPos) (t22_ : Int) (m3_ : LInt) (m4_ : LInt) (m5_ : LInt) (out : Int) (out2 : Int) : seg tb (place_Other.G N) place_Other.A 0 rec (place_Other.fin N) segFuel (loopBody place_Other.k0) (place_Other.st0 r_ p_ t22_ m3_ m4_ m5_ out out2) = place_Other.s0 N r_ p_ (fun t22_ m3_ m4_ m5_ out out2 => rec place_Other.k0 (place_Other.st0 r_ p_ t22_ m3_ m4_ m5_ out out2)) t22_ m3_ m4_ m5_ out out2 := by kernel_rfl
theorem place_Other.entry (N : Nat) (rec : List Item → St → Option (TPos × Int)) (x : (argH place_Other.as).den) : seg tb (place_Other.G N) place_Other.A 0 rec (place_Other.fin N) segFuel [.code (bodyOf Try.f7)] (initSt Try.f7 (encArgs place_Other.as x) (encMem place_Other.as x)) = place_Other.e N (fun t22_ m3_ m4_ m5_ out out2 => rec place_Other.k0 (place_Other.st0 x.1 x.2.1 t22_ m3_ m4_ m5_ out out2)) x.1 x.2.1 := by kernel_rfl
theorem place_Other.runs (N : Nat) (r_ : TRules) (p_ : TPos) : ∀ n, (∀ (t22_ : Int) (m3_ : LInt) (m4_ : LInt) (m5_ : LInt) (out : Int) (out2 : Int), run tb (place_Other.G N) place_Other.A 0 (place_Other.fin N) n place_Other.k0 (place_Other.st0 r_ p_ t22_ m3_ m4_ m5_ out out2) = place_Other.l0 N r_ p_ n t22_ m3_ m4_ m5_ out out2)
  | 0 => fun _ _ _ _ _ _ => rfl
  | n + 1 => by
    have h0 := place_Other.runs N r_ p_ n
    have e0 : (fun (t22_ : Int) (m3_ : LInt) (m4_ : LInt) (m5_ : LInt) (out : Int) (out2 : Int) => run tb (place_Other.G N) place_Other.A 0 (place_Other.fin N) n place_Other.k0 (place_Other.st0 r_ p_ t22_ m3_ m4_ m5_ out out2)) = place_Other.l0 N r_ p_ n := by funext t22_ m3_ m4_ m5_ out out2; exact h0 t22_ m3_ m4_ m5_ out out2
    have g0 : (∀ (t22_ : Int) (m3_ : LInt) (m4_ : LInt) (m5_ : LInt) (out : Int) (out2 : Int), run tb (place_Other.G N) place_Other.A 0 (place_Other.fin N) (n + 1) place_Other.k0 (place_Other.st0 r_ p_ t22_ m3_ m4_ m5_ out out2) = place_Other.l0 N r_ p_ (n + 1) t22_ m3_ m4_ m5_ out out2) := by
      intro t22_ m3_ m4_ m5_ out out2
      exact (run_succ (by kernel_rfl)).trans ((place_Other.step0 N _ r_ p_ t22_ m3_ m4_ m5_ out out2).trans ((congrArg (fun r0 => place_Other.s0 N r_ p_ r0 t22_ m3_ m4_ m5_ out out2) e0).trans (place_Other.l0_s N r_ p_ n t22_ m3_ m4_ m5_ out out2).symm))
    exact g0
theorem place_Other.ok (N : Nat) : FnOk Try.prog 7 (place_Other.D N) := by
  refine FnOk_of tb_ok (Checked.mixed Try.checked) ⟨Try.f7, Try.func7, by kernel_rfl, by kernel_rfl, fun x y h => ⟨place_Other.G N, place_Other.A, N, gamOf_ok (by simp only [List.forall_mem_cons, List.not_mem_nil, false_implies, implies_true, and_true]; exact ⟨⟨place_Check.ok N, place_Check.fit N⟩, ⟨place_Copy.ok N, place_Copy.fit N⟩, ⟨rules_Turned.ok N, rules_Turned.fit N⟩, ⟨rules_Swapped.ok N, rules_Swapped.fit N⟩⟩), ?_⟩⟩ (place_Other.fit N)
  rw [absFn_n (n0 := 0) rfl (by kernel_rfl)]
  refine (place_Other.entry N (run tb (place_Other.G N) place_Other.A 0 (place_Other.fin N) N) x).trans ?_
  have e0 : (fun (t22_ : Int) (m3_ : LInt) (m4_ : LInt) (m5_ : LInt) (out : Int) (out2 : Int) => run tb (place_Other.G N) place_Other.A 0 (place_Other.fin N) N place_Other.k0 (place_Other.st0 x.1 x.2.1 t22_ m3_ m4_ m5_ out out2)) = place_Other.l0 N x.1 x.2.1 N := by funext t22_ m3_ m4_ m5_ out out2; exact (place_Other.runs N x.1 x.2.1 N) t22_ m3_ m4_ m5_ out out2
  have h' : (place_Other.D N).f x = place_Other.e N (place_Other.l0 N x.1 x.2.1 N) x.1 x.2.1 := by kernel_rfl
  exact (congrArg (fun r0 => place_Other.e N r0 x.1 x.2.1) e0).trans (h'.symm.trans h)
/-! ### f60: gamehall/place.Fresh -/
def place_Fresh.as : List MK := [.d true (.prod .str (.prod (.int .i64) (.prod (.int .i64) (.prod (.slice 69 (.prod (.int .u8) (.prod (.int .i64) (.prod (.int .i64) (.slice 101 (.prod (.int .i64) (.prod (.int .i64) (.prod (.int .i64) (.int .i64))))))))) (.prod (.slice 3 (.int .i64)) (.prod .bool (.prod .bool (.prod (.slice 71 (.prod (.int .i64) (.prod (.int .i64) (.prod (.int .i64) .bool)))) (.prod (.int .i64) (.prod (.int .i64) (.int .i64)))))))))))]
def place_Fresh.rs : List (Bool × HT) := [(true, (.prod (.own 3 (.int .i64)) (.prod (.prod (.own 3 (.int .i64)) (.own 3 (.int .i64))) (.d (.prod (.int .i64) (.int .i64))))))]
def place_Fresh.lc : List AC := []
def place_Fresh.D (N : Nat) : DFn := ⟨place_Fresh.as, place_Fresh.rs, TPos, fun x => place_Fresh N x.1, fun r o => r.1, fun b => (b, ()), fun b => ()⟩
theorem place_Fresh.fit (N : Nat) : (place_Fresh.D N).Fit := ⟨fun _ _ => rfl, fun _ _ => rfl, by kernel_rfl⟩
noncomputable def place_Fresh.G (N : Nat) : Gam := gamOf [(59, slices_Clone_int_int.D N)]
def place_Fresh.A : Nat → Option LoopAnn := fun k => bif Nat.beq k 0 then some ⟨[1, 2, 3, 11], [], [(3, 1, 3), (3, 2, 3)], [], [], 6, false⟩ else bif Nat.beq k 2 then some ⟨[1, 2, 3, 4, 11, 15, 16, 17], [], [(3, 1, 3), (3, 2, 3)], [(true, 3, 1, 4), (true, 3, 2, 5)], [], 6, false⟩ else bif Nat.beq k 1000008 then some ⟨[4], [], [], [], [], 2, false⟩ else none
noncomputable def place_Fresh.fin (N : Nat) : St → Option TPos := resK tb Try.f60.results.toList (decRes (place_Fresh.D N) place_Fresh.lc)
noncomputable def place_Fresh.k0 : List Item := stackAt [.r, .r, .l, .r, .b] (bodyOf Try.f60) []
def place_Fresh.st0 (r_ : TRules) (t11_ : Int) (m2_ : LInt) (m4_ : LInt) (m5_ : LInt) : St := ⟨[.one .any, .one (.ptr 0 0), .one (.ptr 1 0), .one (.ptr 3 0)] ++ List.replicate 7 (.one .any) ++ [.one (.int .i64 t11_)] ++ List.replicate 23 (.one .any), [.var 26 [.str r_.1, .int .i64 r_.2.1, .int .i64 r_.2.2.1, .fro 69 (.prod (.int .u8) (.prod (.int .i64) (.prod (.int .i64) (.slice 101 (.prod (.int .i64) (.prod (.int .i64) (.prod (.int .i64) (.int .i64)))))))) r_.2.2.2.1, .fro 3 (.int .i64) r_.2.2.2.2.1, .bool r_.2.2.2.2.2.1, .bool r_.2.2.2.2.2.2.1, .fro 71 (.prod (.int .i64) (.prod (.int .i64) (.prod (.int .i64) .bool))) r_.2.2.2.2.2.2.2.1, .int .i64 r_.2.2.2.2.2.2.2.2.1, .int .i64 r_.2.2.2.2.2.2.2.2.2.1, .int .i64 r_.2.2.2.2.2.2.2.2.2.2], .var 29 [.nilS, .nilS, .nilS, .int .i64 0, .int .i64 0], .row 3 (.int .i64) m2_, .var 29 [.own 2, .own 4, .own 5, .int .i64 0, .int .i64 0], .row 3 (.int .i64) m4_, .row 3 (.int .i64) m5_]⟩
noncomputable def place_Fresh.k1 : List Item := stackAt [.r, .r, .l, .r, .b, .w, .r, .r, .l, .b, .r, .r, .b] (bodyOf Try.f60) []
def place_Fresh.st1 (r_ : TRules) (o_ : Int) (t11_ : Int) (t16_ : Int) (t17_ : Int) (m2_ : LInt) (m4_ : LInt) (m5_ : LInt) : St := ⟨[.one .any, .one (.ptr 0 0), .one (.ptr 1 0), .one (.ptr 3 0), .one (.int .i64 o_)] ++ List.replicate 6 (.one .any) ++ [.one (.int .i64 t11_)] ++ List.replicate 3 (.one .any) ++ [.one (.fro 69 (.prod (.int .u8) (.prod (.int .i64) (.prod (.int .i64) (.slice 101 (.prod (.int .i64) (.prod (.int .i64) (.prod (.int .i64) (.int .i64)))))))) r_.2.2.2.1), .one (.int .i64 t16_), .one (.int .i64 t17_)] ++ List.replicate 17 (.one .any), [.var 26 [.str r_.1, .int .i64 r_.2.1, .int .i64 r_.2.2.1, .fro 69 (.prod (.int .u8) (.prod (.int .i64) (.prod (.int .i64) (.slice 101 (.prod (.int .i64) (.prod (.int .i64) (.prod (.int .i64) (.int .i64)))))))) r_.2.2.2.1, .fro 3 (.int .i64) r_.2.2.2.2.1, .bool r_.2.2.2.2.2.1, .bool r_.2.2.2.2.2.2.1, .fro 71 (.prod (.int .i64) (.prod (.int .i64) (.prod (.int .i64) .bool))) r_.2.2.2.2.2.2.2.1, .int .i64 r_.2.2.2.2.2.2.2.2.1, .int .i64 r_.2.2.2.2.2.2.2.2.2.1, .int .i64 r_.2.2.2.2.2.2.2.2.2.2], .var 29 [.nilS, .nilS, .nilS, .int .i64 0, .int .i64 0], .row 3 (.int .i64) m2_, .var 29 [.own 2, .own 4, .own 5, .int .i64 0, .int .i64 0], .row 3 (.int .i64) m4_, .row 3 (.int .i64) m5_]⟩
theorem place_Fresh.step0 (N : Nat) (rec : List Item → St → Option TPos) (r_ : TRules) (t11_ : Int) (m2_ : LInt) (m4_ : LInt) (m5_ : LInt) : seg tb (place_Fresh.G N) place_Fresh.A 0 rec (place_Fresh.fin N) segFuel (loopBody place_Fresh.k0) (place_Fresh.st0 r_ t11_ m2_ m4_ m5_) = place_Fresh.s0 N r_ (fun t11_ m2_ m4_ m5_ => rec place_Fresh.k0 (place_Fresh.st0 r_ t11_ m2_ m4_ m5_)) (fun o_ t11_ t16_ t17_ m2_ m4_ m5_ => rec place_Fresh.k1 (place_Fresh.st1 r_ o_ t11_ t16_ t17_ m2_ m4_ m5_)) t11_ m2_ m4_ m5_ := by kernel_rfl
theorem place_Fresh.step1 (N : Nat) (rec : List Item → St → Option TPos) (r_ : TRules) (o_ : Int) (t11_ : Int) (t16_ : Int) (t17_ : Int) (m2_ : LInt) (m4_ : LInt) (m5_ : LInt) : seg tb (place_Fresh.G N) place_Fresh.A 0 rec (place_Fresh.fin N) segFuel (loopBody place_Fresh.k1) (place_Fresh.st1 r_ o_ t11_ t16_ t17_ m2_ m4_ m5_) = place_Fresh.s1 N r_ (fun t11_ m2_ m4_ m5_ => rec place_Fresh.k0 (place_Fresh.st0 r_ t11_ m2_ m4_ m5_)) (fun o_ t11_ t16_ t17_ m2_ m4_ m5_ => rec place_Fresh.k1 (place_Fresh.st1 r_ o_ t11_ t16_ t17_ m2_ m4_ m5_)) o_ t11_ t16_ t17_ m2_ m4_ m5_ := by kernel_rfl
theorem place_Fresh.entry (N : Nat) (rec : List Item → St → Option TPos) (x : (argH place_Fresh.as).den) : seg tb (place_Fresh.G N) place_Fresh.A 0 rec (place_Fresh.fin N) segFuel [.code (bodyOf Try.f60)] (initSt Try.f60 (encArgs place_Fresh.as x) (encMem place_Fresh.as x)) = place_Fresh.e N (fun t11_ m2_ m4_ m5_ => rec place_Fresh.k0 (place_Fresh.st0 x.1 t11_ m2_ m4_ m5_)) (fun o_ t11_ t16_ t17_ m2_ m4_ m5_ => rec place_Fresh.k1 (place_Fresh.st1 x.1 o_ t11_ t16_ t17_ m2_ m4_ m5_)) x.1 := by kernel_rfl
theorem place_Fresh.runs (N : Nat) (r_ : TRules) : ∀ n, (∀ (t11_ : Int) (m2_ : LInt) (m4_ : LInt) (m5_ : LInt), run tb (place_Fresh.G N) place_Fresh.A 0 (place_Fresh.fin N) n place_Fresh.k0 (place_Fresh.st0 r_ t11_ m2_ m4_ m5_) = place_Fresh.l0 N r_ n t11_ m2_ m4_ m5_) ∧ (∀ (o_ : Int) (t11_ : Int) (t16_ : Int) (t17_ : Int) (m2_ : LInt) (m4_ : LInt) (m5_ : LInt), run tb (place_Fresh.G N) place_Fresh.A 0 (place_Fresh.fin N) n place_Fresh.k1 (place_Fresh.st1 r_ o_ t11_ t16_ t17_ m2_ m4_ m5_) = place_Fresh.l1 N r_ n o_ t11_ t16_ t17_ m2_ m4_ m5_)
  | 0 => ⟨fun _ _ _ _ => rfl, fun _ _ _ _ _ _ _ => rfl⟩
  | n + 1 => by
    obtain ⟨h0, h1⟩ := place_Fresh.runs N r_ n
    have e0 : (fun (t11_ : Int) (m2_ : LInt) (m4_ : LInt) (m5_ : LInt) => run tb (place_Fresh.G N) place_Fresh.A 0 (place_Fresh.fin N) n place_Fresh.k0 (place_Fresh.st0 r_ t11_ m2_ m4_ m5_)) = place_Fresh.l0 N r_ n := by funext t11_ m2_ m4_ m5_; exact h0 t11_ m2_ m4_ m5_
    have e1 : (fun (o_ : Int) (t11_ : Int) (t16_ : Int) (t17_ : Int) (m2_ : LInt) (m4_ : LInt) (m5_ : LInt) => run tb (place_Fresh.G N) place_Fresh.A 0 (place_Fresh.fin N) n place_Fresh.k1 (place_Fresh.st1 r_ o_ t11_ t16_ t17_ m2_ m4_ m5_)) = place_Fresh.l1 N r_ n := by funext o_ t11_ t16_ t17_ m2_ m4_ m5_; exact h1 o_ t11_ t16_ t17_ m2_ m4_ m5_
    have g0 : (∀ (t11_ : Int) (m2_ : LInt) (m4_ : LInt) (m5_ : LInt), run tb (place_Fresh.G N) place_Fresh.A 0 (place_Fresh.fin N) (n + 1) place_Fresh.k0 (place_Fresh.st0 r_ t11_ m2_ m4_ m5_) = place_Fresh.l0 N r_ (n + 1) t11_ m2_ m4_ m5_) := by
      intro t11_ m2_ m4_ m5_
      exact (run_succ (by kernel_rfl)).trans ((place_Fresh.step0 N _ r_ t11_ m2_ m4_ m5_).trans ((congr (congrArg (fun r0 r1 => place_Fresh.s0 N r_ r0 r1 t11_ m2_ m4_ m5_) e0) e1).trans (place_Fresh.l0_s N r_ n t11_ m2_ m4_ m5_).symm))
    have g1 : (∀ (o_ : Int) (t11_ : Int) (t16_ : Int) (t17_ : Int) (m2_ : LInt) (m4_ : LInt) (m5_ : LInt), run tb (place_Fresh.G N) place_Fresh.A 0 (place_Fresh.fin N) (n + 1) place_Fresh.k1 (place_Fresh.st1 r_ o_ t11_ t16_ t17_ m2_ m4_ m5_) = place_Fresh.l1 N r_ (n + 1) o_ t11_ t16_ t17_ m2_ m4_ m5_) := by
      intro o_ t11_ t16_ t17_ m2_ m4_ m5_
      exact (run_succ (by kernel_rfl)).trans ((place_Fresh.step1 N _ r_ o_ t11_ t16_ t17_ m2_ m4_ m5_).trans ((congr (congrArg (fun r0 r1 => place_Fresh.s1 N r_ r0 r1 o_ t11_ t16_ t17_ m2_ m4_ m5_) e0) e1).trans (place_Fresh.l1_s N r_ n o_ t11_ t16_ t17_ m2_ m4_ m5_).symm))
    exact ⟨g0, g1⟩
theorem place_Fresh.ok (N : Nat) : FnOk Try.prog 60 (place_Fresh.D N) := by
  refine FnOk_of tb_ok (Checked.mixed Try.checked) ⟨Try.f60, Try.func60, by kernel_rfl, by kernel_rfl, fun x y h => ⟨place_Fresh.G N, place_Fresh.A, N, gamOf_ok (by simp only [List.forall_mem_cons, List.not_mem_nil, false_implies, implies_true, and_true]; exact ⟨slices_Clone_int_int.ok N, slices_Clone_int_int.fit N⟩), ?_⟩⟩ (place_Fresh.fit N)
  rw [absFn_n (n0 := 0) rfl (by kernel_rfl)]
  refine (place_Fresh.entry N (run tb (place_Fresh.G N) place_Fresh.A 0 (place_Fresh.fin N) N) x).trans ?_
  have e0 : (fun (t11_ : Int) (m2_ : LInt) (m4_ : LInt) (m5_ : LInt) => run tb (place_Fresh.G N) place_Fresh.A 0 (place_Fresh.fin N) N place_Fresh.k0 (place_Fresh.st0 x.1 t11_ m2_ m4_ m5_)) = place_Fresh.l0 N x.1 N := by funext t11_ m2_ m4_ m5_; exact (place_Fresh.runs N x.1 N).1 t11_ m2_ m4_ m5_
  have e1 : (fun (o_ : Int) (t11_ : Int) (t16_ : Int) (t17_ : Int) (m2_ : LInt) (m4_ : LInt) (m5_ : LInt) => run tb (place_Fresh.G N) place_Fresh.A 0 (place_Fresh.fin N) N place_Fresh.k1 (place_Fresh.st1 x.1 o_ t11_ t16_ t17_ m2_ m4_ m5_)) = place_Fresh.l1 N x.1 N := by funext o_ t11_ t16_ t17_ m2_ m4_ m5_; exact (place_Fresh.runs N x.1 N).2 o_ t11_ t16_ t17_ m2_ m4_ m5_
  have h' : (place_Fresh.D N).f x = place_Fresh.e N (place_Fresh.l0 N x.1 N) (place_Fresh.l1 N x.1 N) x.1 := by kernel_rfl
  exact (congr (congrArg (fun r0 r1 => place_Fresh.e N r0 r1 x.1) e0) e1).trans (h'.symm.trans h)
/-! ### f38: gamehall/place.Begin -/
def place_Begin.as : List MK := [.d true (.prod .str (.prod (.int .i64) (.prod (.int .i64) (.prod (.slice 69 (.prod (.int .u8) (.prod (.int .i64) (.prod (.int .i64) (.slice 101 (.prod (.int .i64) (.prod (.int .i64) (.prod (.int .i64) (.int .i64))))))))) (.prod (.slice 3 (.int .i64)) (.prod .bool (.prod .bool (.prod (.slice 71 (.prod (.int .i64) (.prod (.int .i64) (.prod (.int .i64) .bool)))) (.prod (.int .i64) (.prod (.int .i64) (.int .i64)))))))))))]
def place_Begin.rs : List (Bool × HT) := [(true, (.prod (.own 3 (.int .i64)) (.prod (.prod (.own 3 (.int .i64)) (.own 3 (.int .i64))) (.d (.prod (.int .i64) (.int .i64)))))), (false, (.d (.int .i64)))]
def place_Begin.lc : List AC := []
def place_Begin.D (N : Nat) : DFn := ⟨place_Begin.as, place_Begin.rs, (TPos × Int), fun x => place_Begin N x.1, fun r o => (r.1, r.2.1), fun b => (b.1, (b.2, ())), fun b => ()⟩
theorem place_Begin.fit (N : Nat) : (place_Begin.D N).Fit := ⟨fun _ _ => rfl, fun _ _ => rfl, by kernel_rfl⟩
noncomputable def place_Begin.G (N : Nat) : Gam := gamOf [(58, rules_Check.D N), (60, place_Fresh.D N)]
def place_Begin.A : Nat → Option LoopAnn := fun _ => none
noncomputable def place_Begin.fin (N : Nat) : St → Option (TPos × Int) := resK tb Try.f38.results.toList (decRes (place_Begin.D N) place_Begin.lc)
theorem place_Begin.entry (N : Nat) (rec : List Item → St → Option (TPos × Int)) (x : (argH place_Begin.as).den) : seg tb (place_Begin.G N) place_Begin.A 0 rec (place_Begin.fin N) segFuel [.code (bodyOf Try.f38)] (initSt Try.f38 (encArgs place_Begin.as x) (encMem place_Begin.as x)) = place_Begin.e N x.1 := by kernel_rfl
theorem place_Begin.ok (N : Nat) : FnOk Try.prog 38 (place_Begin.D N) := by
  refine FnOk_of tb_ok (Checked.mixed Try.checked) ⟨Try.f38, Try.func38, by kernel_rfl, by kernel_rfl, fun x y h => ⟨place_Begin.G N, place_Begin.A, N, gamOf_ok (by simp only [List.forall_mem_cons, List.not_mem_nil, false_implies, implies_true, and_true]; exact ⟨⟨rules_Check.ok N, rules_Check.fit N⟩, ⟨place_Fresh.ok N, place_Fresh.fit N⟩⟩), ?_⟩⟩ (place_Begin.fit N)
  rw [absFn_n (n0 := 0) rfl (by kernel_rfl)]
  exact (place_Begin.entry N _ x).trans h
/-! ### f62: gamehall/moves.Owner -/
def moves_Owner.as : List MK := [.d false (.int .i64)]
def moves_Owner.rs : List (Bool × HT) := [(false, (.d (.int .i64)))]
def moves_Owner.lc : List AC := []
def moves_Owner.D (N : Nat) : DFn := ⟨moves_Owner.as, moves_Owner.rs, Int, fun x => moves_Owner N x.1, fun r o => r.1, fun b => (b, ()), fun b => ()⟩
theorem moves_Owner.fit (N : Nat) : (moves_Owner.D N).Fit := ⟨fun _ _ => rfl, fun _ _ => rfl, by kernel_rfl⟩
noncomputable def moves_Owner.G (N : Nat) : Gam := gamOf []
def moves_Owner.A : Nat → Option LoopAnn := fun _ => none
noncomputable def moves_Owner.fin (N : Nat) : St → Option Int := resK tb Try.f62.results.toList (decRes (moves_Owner.D N) moves_Owner.lc)
theorem moves_Owner.entry (N : Nat) (rec : List Item → St → Option Int) (x : (argH moves_Owner.as).den) : seg tb (moves_Owner.G N) moves_Owner.A 0 rec (moves_Owner.fin N) segFuel [.code (bodyOf Try.f62)] (initSt Try.f62 (encArgs moves_Owner.as x) (encMem moves_Owner.as x)) = moves_Owner.e N x.1 := by kernel_rfl
theorem moves_Owner.ok (N : Nat) : FnOk Try.prog 62 (moves_Owner.D N) := by
  refine FnOk_of tb_ok (Checked.mixed Try.checked) ⟨Try.f62, Try.func62, by kernel_rfl, by kernel_rfl, fun x y h => ⟨moves_Owner.G N, moves_Owner.A, N, gamOf_ok (fun p hp => nomatch hp), ?_⟩⟩ (moves_Owner.fit N)
  rw [absFn_n (n0 := 0) rfl (by kernel_rfl)]
  exact (moves_Owner.entry N _ x).trans h
/-! ### f63: gamehall/moves.Kind -/
def moves_Kind.as : List MK := [.d false (.int .i64)]
def moves_Kind.rs : List (Bool × HT) := [(false, (.d (.int .i64)))]
def moves_Kind.lc : List AC := []
def moves_Kind.D (N : Nat) : DFn := ⟨moves_Kind.as, moves_Kind.rs, Int, fun x => moves_Kind N x.1, fun r o => r.1, fun b => (b, ()), fun b => ()⟩
theorem moves_Kind.fit (N : Nat) : (moves_Kind.D N).Fit := ⟨fun _ _ => rfl, fun _ _ => rfl, by kernel_rfl⟩
noncomputable def moves_Kind.G (N : Nat) : Gam := gamOf []
def moves_Kind.A : Nat → Option LoopAnn := fun _ => none
noncomputable def moves_Kind.fin (N : Nat) : St → Option Int := resK tb Try.f63.results.toList (decRes (moves_Kind.D N) moves_Kind.lc)
theorem moves_Kind.entry (N : Nat) (rec : List Item → St → Option Int) (x : (argH moves_Kind.as).den) : seg tb (moves_Kind.G N) moves_Kind.A 0 rec (moves_Kind.fin N) segFuel [.code (bodyOf Try.f63)] (initSt Try.f63 (encArgs moves_Kind.as x) (encMem moves_Kind.as x)) = moves_Kind.e N x.1 := by kernel_rfl
theorem moves_Kind.ok (N : Nat) : FnOk Try.prog 63 (moves_Kind.D N) := by
  refine FnOk_of tb_ok (Checked.mixed Try.checked) ⟨Try.f63, Try.func63, by kernel_rfl, by kernel_rfl, fun x y h => ⟨moves_Kind.G N, moves_Kind.A, N, gamOf_ok (fun p hp => nomatch hp), ?_⟩⟩ (moves_Kind.fit N)
  rw [absFn_n (n0 := 0) rfl (by kernel_rfl)]
  exact (moves_Kind.entry N _ x).trans h
/-! ### f103: math/bits.Len64 -/
def math_bits_Len64.as : List MK := [.d false (.int .u64)]
def math_bits_Len64.rs : List (Bool × HT) := [(false, (.d (.int .i64)))]
def math_bits_Len64.lc : List AC := []
def math_bits_Len64.D (N : Nat) : DFn := ⟨math_bits_Len64.as, math_bits_Len64.rs, Int, fun x => math_bits_Len64 N x.1, fun r o => r.1, fun b => (b, ()), fun b => ()⟩
theorem math_bits_Len64.fit (N : Nat) : (math_bits_Len64.D N).Fit := ⟨fun _ _ => rfl, fun _ _ => rfl, by kernel_rfl⟩
noncomputable def math_bits_Len64.G (N : Nat) : Gam := gamOf []
def math_bits_Len64.A : Nat → Option LoopAnn := fun _ => none
noncomputable def math_bits_Len64.fin (N : Nat) : St → Option Int := resK tb Try.f103.results.toList (decRes (math_bits_Len64.D N) math_bits_Len64.lc)
theorem math_bits_Len64.entry (N : Nat) (rec : List Item → St → Option Int) (x : (argH math_bits_Len64.as).den) : seg tb (math_bits_Len64.G N) math_bits_Len64.A 0 rec (math_bits_Len64.fin N) segFuel [.code (bodyOf Try.f103)] (initSt Try.f103 (encArgs math_bits_Len64.as x) (encMem math_bits_Len64.as x)) = math_bits_Len64.e N x.1 := by kernel_rfl
theorem math_bits_Len64.ok (N : Nat) : FnOk Try.prog 103 (math_bits_Len64.D N) := by
  refine FnOk_of tb_ok (Checked.mixed Try.checked) ⟨Try.f103, Try.func103, by kernel_rfl, by kernel_rfl, fun x y h => ⟨math_bits_Len64.G N, math_bits_Len64.A, N, gamOf_ok (fun p hp => nomatch hp), ?_⟩⟩ (math_bits_Len64.fit N)
  rw [absFn_n (n0 := 0) rfl (by kernel_rfl)]
  exact (math_bits_Len64.entry N _ x).trans h
/-! ### f85: math/bits.Len -/
def math_bits_Len.as : List MK := [.d false (.int .u64)]
def math_bits_Len.rs : List (Bool × HT) := [(false, (.d (.int .i64)))]
def math_bits_Len.lc : List AC := []
def math_bits_Len.D (N : Nat) : DFn := ⟨math_bits_Len.as, math_bits_Len.rs, Int, fun x => math_bits_Len N x.1, fun r o => r.1, fun b => (b, ()), fun b => ()⟩
theorem math_bits_Len.fit (N : Nat) : (math_bits_Len.D N).Fit := ⟨fun _ _ => rfl, fun _ _ => rfl, by kernel_rfl⟩
noncomputable def math_bits_Len.G (N : Nat) : Gam := gamOf [(103, math_bits_Len64.D N)]
def math_bits_Len.A : Nat → Option LoopAnn := fun _ => none
noncomputable def math_bits_Len.fin (N : Nat) : St → Option Int := resK tb Try.f85.results.toList (decRes (math_bits_Len.D N) math_bits_Len.lc)
theorem math_bits_Len.entry (N : Nat) (rec : List Item → St → Option Int) (x : (argH math_bits_Len.as).den) : seg tb (math_bits_Len.G N) math_bits_Len.A 0 rec (math_bits_Len.fin N) segFuel [.code (bodyOf Try.f85)] (initSt Try.f85 (encArgs math_bits_Len.as x) (encMem math_bits_Len.as x)) = math_bits_Len.e N x.1 := by kernel_rfl
theorem math_bits_Len.ok (N : Nat) : FnOk Try.prog 85 (math_bits_Len.D N) := by
  refine FnOk_of tb_ok (Checked.mixed Try.checked) ⟨Try.f85, Try.func85, by kernel_rfl, by kernel_rfl, fun x y h => ⟨math_bits_Len.G N, math_bits_Len.A, N, gamOf_ok (by simp only [List.forall_mem_cons, List.not_mem_nil, false_implies, implies_true, and_true]; exact ⟨math_bits_Len64.ok N, math_bits_Len64.fit N⟩), ?_⟩⟩ (math_bits_Len.fit N)
  rw [absFn_n (n0 := 0) rfl (by kernel_rfl)]
  exact (math_bits_Len.entry N _ x).trans h
/-! ### f104: cmp.isNaN[int] -/
def cmp_isNaN_int.as : List MK := [.d false (.int .i64)]
def cmp_isNaN_int.rs : List (Bool × HT) := [(false, (.d .bool))]
def cmp_isNaN_int.lc : List AC := []
def cmp_isNaN_int.D (N : Nat) : DFn := ⟨cmp_isNaN_int.as, cmp_isNaN_int.rs, Bool, fun x => cmp_isNaN_int N x.1, fun r o => r.1, fun b => (b, ()), fun b => ()⟩
theorem cmp_isNaN_int.fit (N : Nat) : (cmp_isNaN_int.D N).Fit := ⟨fun _ _ => rfl, fun _ _ => rfl, by kernel_rfl⟩
noncomputable def cmp_isNaN_int.G (N : Nat) : Gam := gamOf []
def cmp_isNaN_int.A : Nat → Option LoopAnn := fun _ => none
noncomputable def cmp_isNaN_int.fin (N : Nat) : St → Option Bool := resK tb Try.f104.results.toList (decRes (cmp_isNaN_int.D N) cmp_isNaN_int.lc)
theorem cmp_isNaN_int.entry (N : Nat) (rec : List Item → St → Option Bool) (x : (argH cmp_isNaN_int.as).den) : seg tb (cmp_isNaN_int.G N) cmp_isNaN_int.A 0 rec (cmp_isNaN_int.fin N) segFuel [.code (bodyOf Try.f104)] (initSt Try.f104 (encArgs cmp_isNaN_int.as x) (encMem cmp_isNaN_int.as x)) = cmp_isNaN_int.e N x.1 := by kernel_rfl
theorem cmp_isNaN_int.ok (N : Nat) : FnOk Try.prog 104 (cmp_isNaN_int.D N) := by
  refine FnOk_of tb_ok (Checked.mixed Try.checked) ⟨Try.f104, Try.func104, by kernel_rfl, by kernel_rfl, fun x y h => ⟨cmp_isNaN_int.G N, cmp_isNaN_int.A, N, gamOf_ok (fun p hp => nomatch hp), ?_⟩⟩ (cmp_isNaN_int.fit N)
  rw [absFn_n (n0 := 0) rfl (by kernel_rfl)]
  exact (cmp_isNaN_int.entry N _ x).trans h
/-! ### f87: cmp.Compare[int] -/
def cmp_Compare_int.as : List MK := [.d false (.int .i64), .d false (.int .i64)]
def cmp_Compare_int.rs : List (Bool × HT) := [(false, (.d (.int .i64)))]
def cmp_Compare_int.lc : List AC := []
def cmp_Compare_int.D (N : Nat) : DFn := ⟨cmp_Compare_int.as, cmp_Compare_int.rs, Int, fun x => cmp_Compare_int N x.1 x.2.1, fun r o => r.1, fun b => (b, ()), fun b => ()⟩
theorem cmp_Compare_int.fit (N : Nat) : (cmp_Compare_int.D N).Fit := ⟨fun _ _ => rfl, fun _ _ => rfl, by kernel_rfl⟩
noncomputable def cmp_Compare_int.G (N : Nat) : Gam := gamOf [(104, cmp_isNaN_int.D N)]
def cmp_Compare_int.A : Nat → Option LoopAnn := fun _ => none
noncomputable def cmp_Compare_int.fin (N : Nat) : St → Option Int := resK tb Try.f87.results.toList (decRes (cmp_Compare_int.D N) cmp_Compare_int.lc)
theorem cmp_Compare_int.entry (N : Nat) (rec : List Item → St → Option Int) (x : (argH cmp_Compare_int.as).den) : seg tb (cmp_Compare_int.G N) cmp_Compare_int.A 0 rec (cmp_Compare_int.fin N) segFuel [.code (bodyOf Try.f87)] (initSt Try.f87 (encArgs cmp_Compare_int.as x) (encMem cmp_Compare_int.as x)) = cmp_Compare_int.e N x.1 x.2.1 := by kernel_rfl
theorem cmp_Compare_int.ok (N : Nat) : FnOk Try.prog 87 (cmp_Compare_int.D N) := by
  refine FnOk_of tb_ok (Checked.mixed Try.checked) ⟨Try.f87, Try.func87, by kernel_rfl, by kernel_rfl, fun x y h => ⟨cmp_Compare_int.G N, cmp_Compare_int.A, N, gamOf_ok (by simp only [List.forall_mem_cons, List.not_mem_nil, false_implies, implies_true, and_true]; exact ⟨cmp_isNaN_int.ok N, cmp_isNaN_int.fit N⟩), ?_⟩⟩ (cmp_Compare_int.fit N)
  rw [absFn_n (n0 := 0) rfl (by kernel_rfl)]
  exact (cmp_Compare_int.entry N _ x).trans h
/-! ### f86: cmp.Or[int] -/
def cmp_Or_int.as : List MK := [.d false (.slice 3 (.int .i64))]
def cmp_Or_int.rs : List (Bool × HT) := [(false, (.d (.int .i64)))]
def cmp_Or_int.lc : List AC := []
def cmp_Or_int.D (N : Nat) : DFn := ⟨cmp_Or_int.as, cmp_Or_int.rs, Int, fun x => cmp_Or_int N x.1, fun r o => r.1, fun b => (b, ()), fun b => ()⟩
theorem cmp_Or_int.fit (N : Nat) : (cmp_Or_int.D N).Fit := ⟨fun _ _ => rfl, fun _ _ => rfl, by kernel_rfl⟩
noncomputable def cmp_Or_int.G (N : Nat) : Gam := gamOf []
def cmp_Or_int.A : Nat → Option LoopAnn := fun k => bif Nat.beq k 0 then some ⟨[3, 6, 7, 8], [], [], [], [], 0, false⟩ else none
noncomputable def cmp_Or_int.fin (N : Nat) : St → Option Int := resK tb Try.f86.results.toList (decRes (cmp_Or_int.D N) cmp_Or_int.lc)
noncomputable def cmp_Or_int.k0 : List Item := stackAt [.r, .r, .l, .r, .b] (bodyOf Try.f86) []
def cmp_Or_int.st0 (vals : LInt) (t8_ : Int) : St := ⟨List.replicate 3 (.one .any) ++ [.one (.int .i64 0), .one .any, .one .any, .one (.fro 3 (.int .i64) vals), .one (.int .i64 (vals.length : Int)), .one (.int .i64 t8_)] ++ List.replicate 9 (.one .any), []⟩
theorem cmp_Or_int.step0 (N : Nat) (rec : List Item → St → Option Int) (vals : LInt) (t8_ : Int) : seg tb (cmp_Or_int.G N) cmp_Or_int.A 0 rec (cmp_Or_int.fin N) segFuel (loopBody cmp_Or_int.k0) (cmp_Or_int.st0 vals t8_) = cmp_Or_int.s0 N vals (fun t8_ => rec cmp_Or_int.k0 (cmp_Or_int.st0 vals t8_)) t8_ := by kernel_rfl
theorem cmp_Or_int.entry (N : Nat) (rec : List Item → St → Option Int) (x : (argH cmp_Or_int.as).den) : seg tb (cmp_Or_int.G N) cmp_Or_int.A 0 rec (cmp_Or_int.fin N) segFuel [.code (bodyOf Try.f86)] (initSt Try.f86 (encArgs cmp_Or_int.as x) (encMem cmp_Or_int.as x)) = cmp_Or_int.e N (fun t8_ => rec cmp_Or_int.k0 (cmp_Or_int.st0 x.1 t8_)) x.1 := by kernel_rfl
theorem cmp_Or_int.runs (N : Nat) (vals : LInt) : ∀ n, (∀ (t8_ : Int), run tb (cmp_Or_int.G N) cmp_Or_int.A 0 (cmp_Or_int.fin N) n cmp_Or_int.k0 (cmp_Or_int.st0 vals t8_) = cmp_Or_int.l0 N vals n t8_)
  | 0 => fun _ => rfl
  | n + 1 => by
    have h0 := cmp_Or_int.runs N vals n
    have e0 : (fun (t8_ : Int) => run tb (cmp_Or_int.G N) cmp_Or_int.A 0 (cmp_Or_int.fin N) n cmp_Or_int.k0 (cmp_Or_int.st0 vals t8_)) = cmp_Or_int.l0 N vals n := by funext t8_; exact h0 t8_
    have g0 : (∀ (t8_ : Int), run tb (cmp_Or_int.G N) cmp_Or_int.A 0 (cmp_Or_int.fin N) (n + 1) cmp_Or_int.k0 (cmp_Or_int.st0 vals t8_) = cmp_Or_int.l0 N vals (n + 1) t8_) := by
      intro t8_
      exact (run_succ (by kernel_rfl)).trans ((cmp_Or_int.step0 N _ vals t8_).trans ((congrArg (fun r0 => cmp_Or_int.s0 N vals r0 t8_) e0).trans (cmp_Or_int.l0_s N vals n t8_).symm))
    exact g0
theorem cmp_Or_int.ok (N : Nat) : FnOk Try.prog 86 (cmp_Or_int.D N) := by
  refine FnOk_of tb_ok (Checked.mixed Try.checked) ⟨Try.f86, Try.func86, by kernel_rfl, by kernel_rfl, fun x y h => ⟨cmp_Or_int.G N, cmp_Or_int.A, N, gamOf_ok (fun p hp => nomatch hp), ?_⟩⟩ (cmp_Or_int.fit N)
  rw [absFn_n (n0 := 0) rfl (by kernel_rfl)]
  refine (cmp_Or_int.entry N (run tb (cmp_Or_int.G N) cmp_Or_int.A 0 (cmp_Or_int.fin N) N) x).trans ?_
  have e0 : (fun (t8_ : Int) => run tb (cmp_Or_int.G N) cmp_Or_int.A 0 (cmp_Or_int.fin N) N cmp_Or_int.k0 (cmp_Or_int.st0 x.1 t8_)) = cmp_Or_int.l0 N x.1 N := by funext t8_; exact (cmp_Or_int.runs N x.1 N) t8_
  have h' : (cmp_Or_int.D N).f x = cmp_Or_int.e N (cmp_Or_int.l0 N x.1 N) x.1 := by kernel_rfl
  exact (congrArg (fun r0 => cmp_Or_int.e N r0 x.1) e0).trans (h'.symm.trans h)
/-! ### f66: gamehall/moves.compare -/
def moves_compare.as : List MK := [.d true (.prod (.int .i64) (.prod (.int .i64) (.int .i64))), .d true (.prod (.int .i64) (.prod (.int .i64) (.int .i64)))]
def moves_compare.rs : List (Bool × HT) := [(false, (.d (.int .i64)))]
def moves_compare.lc : List AC := []
def moves_compare.D (N : Nat) : DFn := ⟨moves_compare.as, moves_compare.rs, Int, fun x => moves_compare N x.1 x.2.1, fun r o => r.1, fun b => (b, ()), fun b => ()⟩
theorem moves_compare.fit (N : Nat) : (moves_compare.D N).Fit := ⟨fun _ _ => rfl, fun _ _ => rfl, by kernel_rfl⟩
noncomputable def moves_compare.G (N : Nat) : Gam := gamOf [(87, cmp_Compare_int.D N), (86, cmp_Or_int.D N)]
def moves_compare.A : Nat → Option LoopAnn := fun _ => none
noncomputable def moves_compare.fin (N : Nat) : St → Option Int := resK tb Try.f66.results.toList (decRes (moves_compare.D N) moves_compare.lc)
theorem moves_compare.entry (N : Nat) (rec : List Item → St → Option Int) (x : (argH moves_compare.as).den) : seg tb (moves_compare.G N) moves_compare.A 0 rec (moves_compare.fin N) segFuel [.code (bodyOf Try.f66)] (initSt Try.f66 (encArgs moves_compare.as x) (encMem moves_compare.as x)) = moves_compare.e N x.1 x.2.1 := by kernel_rfl
theorem moves_compare.ok (N : Nat) : FnOk Try.prog 66 (moves_compare.D N) := by
  refine FnOk_of tb_ok (Checked.mixed Try.checked) ⟨Try.f66, Try.func66, by kernel_rfl, by kernel_rfl, fun x y h => ⟨moves_compare.G N, moves_compare.A, N, gamOf_ok (by simp only [List.forall_mem_cons, List.not_mem_nil, false_implies, implies_true, and_true]; exact ⟨⟨cmp_Compare_int.ok N, cmp_Compare_int.fit N⟩, ⟨cmp_Or_int.ok N, cmp_Or_int.fit N⟩⟩), ?_⟩⟩ (moves_compare.fit N)
  rw [absFn_n (n0 := 0) rfl (by kernel_rfl)]
  exact (moves_compare.entry N _ x).trans h
/-! ### f94: slices.insertionSortCmpFunc[gamehall/api.Move] -/
def slices_insertionSortCmpFunc_api_Move'.as : List MK := [.o (.own 42 (.prod (.int .i64) (.prod (.int .i64) (.int .i64)))) true, .d false (.int .i64), .d false (.int .i64), .f 66]
def slices_insertionSortCmpFunc_api_Move'.rs : List (Bool × HT) := []
def slices_insertionSortCmpFunc_api_Move'.lc : List AC := [.own 0]
def slices_insertionSortCmpFunc_api_Move'.D (N : Nat) : DFn := ⟨slices_insertionSortCmpFunc_api_Move'.as, slices_insertionSortCmpFunc_api_Move'.rs, LMv, fun x => slices_insertionSortCmpFunc_api_Move' N x.1 x.2.1 x.2.2.1, fun r o => o.1, fun b => (), fun b => (b, ())⟩
theorem slices_insertionSortCmpFunc_api_Move'.fit (N : Nat) : (slices_insertionSortCmpFunc_api_Move'.D N).Fit := ⟨fun _ _ => rfl, fun _ _ => rfl, by kernel_rfl⟩
noncomputable def slices_insertionSortCmpFunc_api_Move'.G (N : Nat) : Gam := gamOf [(66, moves_compare.D N)]
def slices_insertionSortCmpFunc_api_Move'.A : Nat → Option LoopAnn := fun k => bif Nat.beq k 0 then some ⟨[0, 1, 2, 3, 8], [], [], [], [], 1, false⟩ else bif Nat.beq k 2 then some ⟨[0, 1, 2, 3, 8, 9], [], [], [], [], 1, false⟩ else none
noncomputable def slices_insertionSortCmpFunc_api_Move'.fin (N : Nat) : St → Option LMv := resK tb Try.f94.results.toList (decRes (slices_insertionSortCmpFunc_api_Move'.D N) slices_insertionSortCmpFunc_api_Move'.lc)
noncomputable def slices_insertionSortCmpFunc_api_Move'.k0 : List Item := stackAt [.r, .b] (bodyOf Try.f94) []
def slices_insertionSortCmpFunc_api_Move'.st0 (data : LMv) (a_ : Int) (b_ : Int) (i_ : Int) (data2 : LMv) : St := ⟨[.one (.own 0), .one (.int .i64 a_), .one (.int .i64 b_), .one (.fn 66)] ++ List.replicate 4 (.one .any) ++ [.one (.int .i64 i_)] ++ List.replicate 44 (.one .any), [.row 42 (.prod (.int .i64) (.prod (.int .i64) (.int .i64))) data2]⟩
noncomputable def slices_insertionSortCmpFunc_api_Move'.k1 : List Item := stackAt [.r, .b, .w, .r, .l, .b, .r, .b] (bodyOf Try.f94) []
def slices_insertionSortCmpFunc_api_Move'.st1 (data : LMv) (a_ : Int) (b_ : Int) (i_ : Int) (j_ : Int) (data2 : LMv) : St := ⟨[.one (.own 0), .one (.int .i64 a_), .one (.int .i64 b_), .one (.fn 66)] ++ List.replicate 4 (.one .any) ++ [.one (.int .i64 i_), .one (.int .i64 j_)] ++ List.replicate 43 (.one .any), [.row 42 (.prod (.int .i64) (.prod (.int .i64) (.int .i64))) data2]⟩
theorem slices_insertionSortCmpFunc_api_Move'.step0 (N : Nat) (rec : List Item → St → Option LMv) (data : LMv) (a_ : Int) (b_ : Int) (i_ : Int) (data2 : LMv) : seg tb (slices_insertionSortCmpFunc_api_Move'.G N) slices_insertionSortCmpFunc_api_Move'.A 1 rec (slices_insertionSortCmpFunc_api_Move'.fin N) segFuel (loopBody slices_insertionSortCmpFunc_api_Move'.k0) (slices_insertionSortCmpFunc_api_Move'.st0 data a_ b_ i_ data2) = slices_insertionSortCmpFunc_api_Move'.s0 N data a_ b_ (fun i_ data2 => rec slices_insertionSortCmpFunc_api_Move'.k0 (slices_insertionSortCmpFunc_api_Move'.st0 data a_ b_ i_ data2)) (fun i_ j_ data2 => rec slices_insertionSortCmpFunc_api_Move'.k1 (slices_insertionSortCmpFunc_api_Move'.st1 data a_ b_ i_ j_ data2)) i_ data2 := by kernel_rfl
theorem slices_insertionSortCmpFunc_api_Move'.step1 (N : Nat) (rec : List Item → St → Option LMv) (data : LMv) (a_ : Int) (b_ : Int) (i_ : Int) (j_ : Int) (data2 : LMv) : seg tb (slices_insertionSortCmpFunc_api_Move'.G N) slices_insertionSortCmpFunc_api_Move'.A 1 rec (slices_insertionSortCmpFunc_api_Move'.fin N) segFuel (loopBody slices_insertionSortCmpFunc_api_Move'.k1) (slices_insertionSortCmpFunc_api_Move'.st1 data a_ b_ i_ j_ data2) = slices_insertionSortCmpFunc_api_Move'.s1 N data a_ b_ (fun i_ data2 => rec slices_insertionSortCmpFunc_api_Move'.k0 (slices_insertionSortCmpFunc_api_Move'.st0 data a_ b_ i_ data2)) (fun i_ j_ data2 => rec slices_insertionSortCmpFunc_api_Move'.k1 (slices_insertionSortCmpFunc_api_Move'.st1 data a_ b_ i_ j_ data2)) i_ j_ data2 := by kernel_rfl
theorem slices_insertionSortCmpFunc_api_Move'.entry (N : Nat) (rec : List Item → St → Option LMv) (x : (argH slices_insertionSortCmpFunc_api_Move'.as).den) : seg tb (slices_insertionSortCmpFunc_api_Move'.G N) slices_insertionSortCmpFunc_api_Move'.A 1 rec (slices_insertionSortCmpFunc_api_Move'.fin N) segFuel [.code (bodyOf Try.f94)] (initSt Try.f94 (encArgs slices_insertionSortCmpFunc_api_Move'.as x) (encMem slices_insertionSortCmpFunc_api_Move'.as x)) = slices_insertionSortCmpFunc_api_Move'.e N (fun i_ data2 => rec slices_insertionSortCmpFunc_api_Move'.k0 (slices_insertionSortCmpFunc_api_Move'.st0 x.1 x.2.1 x.2.2.1 i_ data2)) (fun i_ j_ data2 => rec slices_insertionSortCmpFunc_api_Move'.k1 (slices_insertionSortCmpFunc_api_Move'.st1 x.1 x.2.1 x.2.2.1 i_ j_ data2)) x.1 x.2.1 x.2.2.1 := by kernel_rfl
theorem slices_insertionSortCmpFunc_api_Move'.runs (N : Nat) (data : LMv) (a_ : Int) (b_ : Int) : ∀ n, (∀ (i_ : Int) (data2 : LMv), run tb (slices_insertionSortCmpFunc_api_Move'.G N) slices_insertionSortCmpFunc_api_Move'.A 1 (slices_insertionSortCmpFunc_api_Move'.fin N) n slices_insertionSortCmpFunc_api_Move'.k0 (slices_insertionSortCmpFunc_api_Move'.st0 data a_ b_ i_ data2) = slices_insertionSortCmpFunc_api_Move'.l0 N data a_ b_ n i_ data2) ∧ (∀ (i_ : Int) (j_ : Int) (data2 : LMv), run tb (slices_insertionSortCmpFunc_api_Move'.G N) slices_insertionSortCmpFunc_api_Move'.A 1 (slices_insertionSortCmpFunc_api_Move'.fin N) n slices_insertionSortCmpFunc_api_Move'.k1 (slices_insertionSortCmpFunc_api_Move'.st1 data a_ b_ i_ j_ data2) = slices_insertionSortCmpFunc_api_Move'.l1 N data a_ b_ n i_ j_ data2)
  | 0 => ⟨fun _ _ => rfl, fun _ _ _ => rfl⟩
  | n + 1 => by
    obtain ⟨h0, h1⟩ := slices_insertionSortCmpFunc_api_Move'.runs N data a_ b_ n
    have e0 : (fun (i_ : Int) (data2 : LMv) => run tb (slices_insertionSortCmpFunc_api_Move'.G N) slices_insertionSortCmpFunc_api_Move'.A 1 (slices_insertionSortCmpFunc_api_Move'.fin N) n slices_insertionSortCmpFunc_api_Move'.k0 (slices_insertionSortCmpFunc_api_Move'.st0 data a_ b_ i_ data2)) = slices_insertionSortCmpFunc_api_Move'.l0 N data a_ b_ n := by funext i_ data2; exact h0 i_ data2
    have e1 : (fun (i_ : Int) (j_ : Int) (data2 : LMv) => run tb (slices_insertionSortCmpFunc_api_Move'.G N) slices_insertionSortCmpFunc_api_Move'.A 1 (slices_insertionSortCmpFunc_api_Move'.fin N) n slices_insertionSortCmpFunc_api_Move'.k1 (slices_insertionSortCmpFunc_api_Move'.st1 data a_ b_ i_ j_ data2)) = slices_insertionSortCmpFunc_api_Move'.l1 N data a_ b_ n := by funext i_ j_ data2; exact h1 i_ j_ data2
    have g0 : (∀ (i_ : Int) (data2 : LMv), run tb (slices_insertionSortCmpFunc_api_Move'.G N) slices_insertionSortCmpFunc_api_Move'.A 1 (slices_insertionSortCmpFunc_api_Move'.fin N) (n + 1) slices_insertionSortCmpFunc_api_Move'.k0 (slices_insertionSortCmpFunc_api_Move'.st0 data a_ b_ i_ data2) = slices_insertionSortCmpFunc_api_Move'.l0 N data a_ b_ (n + 1) i_ data2) := by
      intro i_ data2
      exact (run_succ (by kernel_rfl)).trans ((slices_insertionSortCmpFunc_api_Move'.step0 N _ data a_ b_ i_ data2).trans ((congr (congrArg (fun r0 r1 => slices_insertionSortCmpFunc_api_Move'.s0 N data a_ b_ r0 r1 i_ data2) e0) e1).trans (slices_insertionSortCmpFunc_api_Move'.l0_s N data a_ b_ n i_ data2).symm))
    have g1 : (∀ (i_ : Int) (j_ : Int) (data2 : LMv), run tb (slices_insertionSortCmpFunc_api_Move'.G N) slices_insertionSortCmpFunc_api_Move'.A 1 (slices_insertionSortCmpFunc_api_Move'.fin N) (n + 1) slices_insertionSortCmpFunc_api_Move'.k1 (slices_insertionSortCmpFunc_api_Move'.st1 data a_ b_ i_ j_ data2) = slices_insertionSortCmpFunc_api_Move'.l1 N data a_ b_ (n + 1) i_ j_ data2) := by
      intro i_ j_ data2
      exact (run_succ (by kernel_rfl)).trans ((slices_insertionSortCmpFunc_api_Move'.step1 N _ data a_ b_ i_ j_ data2).trans ((congr (congrArg (fun r0 r1 => slices_insertionSortCmpFunc_api_Move'.s1 N data a_ b_ r0 r1 i_ j_ data2) e0) e1).trans (slices_insertionSortCmpFunc_api_Move'.l1_s N data a_ b_ n i_ j_ data2).symm))
    exact ⟨g0, g1⟩
theorem slices_insertionSortCmpFunc_api_Move'.ok (N : Nat) : FnOk Try.prog 94 (slices_insertionSortCmpFunc_api_Move'.D N) := by
  refine FnOk_of tb_ok (Checked.mixed Try.checked) ⟨Try.f94, Try.func94, by kernel_rfl, by kernel_rfl, fun x y h => ⟨slices_insertionSortCmpFunc_api_Move'.G N, slices_insertionSortCmpFunc_api_Move'.A, N, gamOf_ok (by simp only [List.forall_mem_cons, List.not_mem_nil, false_implies, implies_true, and_true]; exact ⟨moves_compare.ok N, moves_compare.fit N⟩), ?_⟩⟩ (slices_insertionSortCmpFunc_api_Move'.fit N)
  rw [absFn_n (n0 := 1) rfl (by kernel_rfl)]
  refine (slices_insertionSortCmpFunc_api_Move'.entry N (run tb (slices_insertionSortCmpFunc_api_Move'.G N) slices_insertionSortCmpFunc_api_Move'.A 1 (slices_insertionSortCmpFunc_api_Move'.fin N) N) x).trans ?_
  have e0 : (fun (i_ : Int) (data2 : LMv) => run tb (slices_insertionSortCmpFunc_api_Move'.G N) slices_insertionSortCmpFunc_api_Move'.A 1 (slices_insertionSortCmpFunc_api_Move'.fin N) N slices_insertionSortCmpFunc_api_Move'.k0 (slices_insertionSortCmpFunc_api_Move'.st0 x.1 x.2.1 x.2.2.1 i_ data2)) = slices_insertionSortCmpFunc_api_Move'.l0 N x.1 x.2.1 x.2.2.1 N := by funext i_ data2; exact (slices_insertionSortCmpFunc_api_Move'.runs N x.1 x.2.1 x.2.2.1 N).1 i_ data2
  have e1 : (fun (i_ : Int) (j_ : Int) (data2 : LMv) => run tb (slices_insertionSortCmpFunc_api_Move'.G N) slices_insertionSortCmpFunc_api_Move'.A 1 (slices_insertionSortCmpFunc_api_Move'.fin N) N slices_insertionSortCmpFunc_api_Move'.k1 (slices_insertionSortCmpFunc_api_Move'.st1 x.1 x.2.1 x.2.2.1 i_ j_ data2)) = slices_insertionSortCmpFunc_api_Move'.l1 N x.1 x.2.1 x.2.2.1 N := by funext i_ j_ data2; exact (slices_insertionSortCmpFunc_api_Move'.runs N x.1 x.2.1 x.2.2.1 N).2 i_ j_ data2
  have h' : (slices_insertionSortCmpFunc_api_Move'.D N).f x = slices_insertionSortCmpFunc_api_Move'.e N (slices_insertionSortCmpFunc_api_Move'.l0 N x.1 x.2.1 x.2.2.1 N) (slices_insertionSortCmpFunc_api_Move'.l1 N x.1 x.2.1 x.2.2.1 N) x.1 x.2.1 x.2.2.1 := by kernel_rfl
  exact (congr (congrArg (fun r0 r1 => slices_insertionSortCmpFunc_api_Move'.e N r0 r1 x.1 x.2.1 x.2.2.1) e0) e1).trans (h'.symm.trans h)
/-! ### f106: slices.siftDownCmpFunc[gamehall/api.Move] -/
def slices_siftDownCmpFunc_api_Move'.as : List MK := [.o (.own 42 (.prod (.int .i64) (.prod (.int .i64) (.int .i64)))) true, .d false (.int .i64), .d false (.int .i64), .d false (.int .i64), .f 66]
def slices_siftDownCmpFunc_api_Move'.rs : List (Bool × HT) := []
def slices_siftDownCmpFunc_api_Move'.lc : List AC := [.own 0]
def slices_siftDownCmpFunc_api_Move'.D (N : Nat) : DFn := ⟨slices_siftDownCmpFunc_api_Move'.as, slices_siftDownCmpFunc_api_Move'.rs, LMv, fun x => slices_siftDownCmpFunc_api_Move' N x.1 x.2.1 x.2.2.1 x.2.2.2.1, fun r o => o.1, fun b => (), fun b => (b, ())⟩
theorem slices_siftDownCmpFunc_api_Move'.fit (N : Nat) : (slices_siftDownCmpFunc_api_Move'.D N).Fit := ⟨fun _ _ => rfl, fun _ _ => rfl, by kernel_rfl⟩
noncomputable def slices_siftDownCmpFunc_api_Move'.G (N : Nat) : Gam := gamOf [(66, moves_compare.D N)]
def slices_siftDownCmpFunc_api_Move'.A : Nat → Option LoopAnn := fun k => bif Nat.beq k 0 then some ⟨[0, 2, 3, 4, 10], [], [], [], [], 1, false⟩ else none
noncomputable def slices_siftDownCmpFunc_api_Move'.fin (N : Nat) : St → Option LMv := resK tb Try.f106.results.toList (decRes (slices_siftDownCmpFunc_api_Move'.D N) slices_siftDownCmpFunc_api_Move'.lc)
noncomputable def slices_siftDownCmpFunc_api_Move'.k0 : List Item := stackAt [.r, .b] (bodyOf Try.f106) []
def slices_siftDownCmpFunc_api_Move'.st0 (data : LMv) (lo : Int) (hi : Int) (first : Int) (root : Int) (data2 : LMv) : St := ⟨[.one (.own 0), .one .any, .one (.int .i64 hi), .one (.int .i64 first), .one (.fn 66)] ++ List.replicate 5 (.one .any) ++ [.one (.int .i64 root)] ++ List.replicate 71 (.one .any), [.row 42 (.prod (.int .i64) (.prod (.int .i64) (.int .i64))) data2]⟩
theorem slices_siftDownCmpFunc_api_Move'.step0 (N : Nat) (rec : List Item → St → Option LMv) (data : LMv) (lo : Int) (hi : Int) (first : Int) (root : Int) (data2 : LMv) : seg tb (slices_siftDownCmpFunc_api_Move'.G N) slices_siftDownCmpFunc_api_Move'.A 1 rec (slices_siftDownCmpFunc_api_Move'.fin N) segFuel (loopBody slices_siftDownCmpFunc_api_Move'.k0) (slices_siftDownCmpFunc_api_Move'.st0 data lo hi first root data2) = slices_siftDownCmpFunc_api_Move'.s0 N data lo hi first (fun root data2 => rec slices_siftDownCmpFunc_api_Move'.k0 (slices_siftDownCmpFunc_api_Move'.st0 data lo hi first root data2)) root data2 := by kernel_rfl
theorem slices_siftDownCmpFunc_api_Move'.entry (N : Nat) (rec : List Item → St → Option LMv) (x : (argH slices_siftDownCmpFunc_api_Move'.as).den) : seg tb (slices_siftDownCmpFunc_api_Move'.G N) slices_siftDownCmpFunc_api_Move'.A 1 rec (slices_siftDownCmpFunc_api_Move'.fin N) segFuel [.code (bodyOf Try.f106)] (initSt Try.f106 (encArgs slices_siftDownCmpFunc_api_Move'.as x) (encMem slices_siftDownCmpFunc_api_Move'.as x)) = slices_siftDownCmpFunc_api_Move'.e N (fun root data2 => rec slices_siftDownCmpFunc_api_Move'.k0 (slices_siftDownCmpFunc_api_Move'.st0 x.1 x.2.1 x.2.2.1 x.2.2.2.1 root data2)) x.1 x.2.1 x.2.2.1 x.2.2.2.1 := by kernel_rfl
theorem slices_siftDownCmpFunc_api_Move'.runs (N : Nat) (data : LMv) (lo : Int) (hi : Int) (first : Int) : ∀ n, (∀ (root : Int) (data2 : LMv), run tb (slices_siftDownCmpFunc_api_Move'.G N) slices_siftDownCmpFunc_api_Move'.A 1 (slices_siftDownCmpFunc_api_Move'.fin N) n slices_siftDownCmpFunc_api_Move'.k0 (slices_siftDownCmpFunc_api_Move'.st0 data lo hi first root data2) = slices_siftDownCmpFunc_api_Move'.l0 N data lo hi first n root data2)
  | 0 => fun _ _ => rfl
  | n + 1 => by
    have h0 := slices_siftDownCmpFunc_api_Move'.runs N data lo hi first n
    have e0 : (fun (root : Int) (data2 : LMv) => run tb (slices_siftDownCmpFunc_api_Move'.G N) slices_siftDownCmpFunc_api_Move'.A 1 (slices_siftDownCmpFunc_api_Move'.fin N) n slices_siftDownCmpFunc_api_Move'.k0 (slices_siftDownCmpFunc_api_Move'.st0 data lo hi first root data2)) = slices_siftDownCmpFunc_api_Move'.l0 N data lo hi first n := by funext root data2; exact h0 root data2
    have g0 : (∀ (root : Int) (data2 : LMv), run tb (slices_siftDownCmpFunc_api_Move'.G N) slices_siftDownCmpFunc_api_Move'.A 1 (slices_siftDownCmpFunc_api_Move'.fin N) (n + 1) slices_siftDownCmpFunc_api_Move'.k0 (slices_siftDownCmpFunc_api_Move'.st0 data lo hi first root data2) = slices_siftDownCmpFunc_api_Move'.l0 N data lo hi first (n + 1) root data2) := by
      intro root data2
      exact (run_succ (by kernel_rfl)).trans ((slices_siftDownCmpFunc_api_Move'.step0 N _ data lo hi first root data2).trans ((congrArg (fun r0 => slices_siftDownCmpFunc_api_Move'.s0 N data lo hi first r0 root data2) e0).trans (slices_siftDownCmpFunc_api_Move'.l0_s N data lo hi first n root data2).symm))
    exact g0
theorem slices_siftDownCmpFunc_api_Move'.ok (N : Nat) : FnOk Try.prog 106 (slices_siftDownCmpFunc_api_Move'.D N) := by
  refine FnOk_of tb_ok (Checked.mixed Try.checked) ⟨Try.f106, Try.func106, by kernel_rfl, by kernel_rfl, fun x y h => ⟨slices_siftDownCmpFunc_api_Move'.G N, slices_siftDownCmpFunc_api_Move'.A, N, gamOf_ok (by simp only [List.forall_mem_cons, List.not_mem_nil, false_implies, implies_true, and_true]; exact ⟨moves_compare.ok N, moves_compare.fit N⟩), ?_⟩⟩ (slices_siftDownCmpFunc_api_Move'.fit N)
  rw [absFn_n (n0 := 1) rfl (by kernel_rfl)]
  refine (slices_siftDownCmpFunc_api_Move'.entry N (run tb (slices_siftDownCmpFunc_api_Move'.G N) slices_siftDownCmpFunc_api_Move'.A 1 (slices_siftDownCmpFunc_api_Move'.fin N) N) x).trans ?_
  have e0 : (fun (root : Int) (data2 : LMv) => run tb (slices_siftDownCmpFunc_api_Move'.G N) slices_siftDownCmpFunc_api_Move'.A 1 (slices_siftDownCmpFunc_api_Move'.fin N) N slices_siftDownCmpFunc_api_Move'.k0 (slices_siftDownCmpFunc_api_Move'.st0 x.1 x.2.1 x.2.2.1 x.2.2.2.1 root data2)) = slices_siftDownCmpFunc_api_Move'.l0 N x.1 x.2.1 x.2.2.1 x.2.2.2.1 N := by funext root data2; exact (slices_siftDownCmpFunc_api_Move'.runs N x.1 x.2.1 x.2.2.1 x.2.2.2.1 N) root data2
  have h' : (slices_siftDownCmpFunc_api_Move'.D N).f x = slices_siftDownCmpFunc_api_Move'.e N (slices_siftDownCmpFunc_api_Move'.l0 N x.1 x.2.1 x.2.2.1 x.2.2.2.1 N) x.1 x.2.1 x.2.2.1 x.2.2.2.1 := by kernel_rfl
  exact (congrArg (fun r0 => slices_siftDownCmpFunc_api_Move'.e N r0 x.1 x.2.1 x.2.2.1 x.2.2.2.1) e0).trans (h'.symm.trans h)
/-! ### f95: slices.heapSortCmpFunc[gamehall/api.Move] -/
def slices_heapSortCmpFunc_api_Move'.as : List MK := [.o (.own 42 (.prod (.int .i64) (.prod (.int .i64) (.int .i64)))) true, .d false (.int .i64), .d false (.int .i64), .f 66]
def slices_heapSortCmpFunc_api_Move'.rs : List (Bool × HT) := []
def slices_heapSortCmpFunc_api_Move'.lc : List AC := [.own 0]
def slices_heapSortCmpFunc_api_Move'.D (N : Nat) : DFn := ⟨slices_heapSortCmpFunc_api_Move'.as, slices_heapSortCmpFunc_api_Move'.rs, LMv, fun x => slices_heapSortCmpFunc_api_Move' N x.1 x.2.1 x.2.2.1, fun r o => o.1, fun b => (), fun b => (b, ())⟩
theorem slices_heapSortCmpFunc_api_Move'.fit (N : Nat) : (slices_heapSortCmpFunc_api_Move'.D N).Fit := ⟨fun _ _ => rfl, fun _ _ => rfl, by kernel_rfl⟩
noncomputable def slices_heapSortCmpFunc_api_Move'.G (N : Nat) : Gam := gamOf [(106, slices_siftDownCmpFunc_api_Move'.D N)]
def slices_heapSortCmpFunc_api_Move'.A : Nat → Option LoopAnn := fun k => bif Nat.beq k 0 then some ⟨[0, 3, 8, 9, 10, 11], [], [], [], [], 1, false⟩ else bif Nat.beq k 2 then some ⟨[0, 3, 8, 9, 12], [], [], [], [], 1, false⟩ else none
noncomputable def slices_heapSortCmpFunc_api_Move'.fin (N : Nat) : St → Option LMv := resK tb Try.f95.results.toList (decRes (slices_heapSortCmpFunc_api_Move'.D N) slices_heapSortCmpFunc_api_Move'.lc)
noncomputable def slices_heapSortCmpFunc_api_Move'.k0 : List Item := stackAt [.r, .r, .r, .l, .r, .b] (bodyOf Try.f95) []
def slices_heapSortCmpFunc_api_Move'.st0 (data : LMv) (a_ : Int) (b_ : Int) (i_ : Int) (data2 : LMv) : St := ⟨[.one (.own 0), .one .any, .one .any, .one (.fn 66)] ++ List.replicate 4 (.one .any) ++ [.one (.int .i64 a_), .one (.int .i64 0), .one (.int .i64 (w64 (b_ - a_))), .one (.int .i64 i_)] ++ List.replicate 48 (.one .any), [.row 42 (.prod (.int .i64) (.prod (.int .i64) (.int .i64))) data2]⟩
noncomputable def slices_heapSortCmpFunc_api_Move'.k1 : List Item := stackAt [.r, .r, .r, .r, .r, .b] (bodyOf Try.f95) []
def slices_heapSortCmpFunc_api_Move'.st1 (data : LMv) (a_ : Int) (b_ : Int) (i_ : Int) (data2 : LMv) : St := ⟨[.one (.own 0), .one .any, .one .any, .one (.fn 66)] ++ List.replicate 4 (.one .any) ++ [.one (.int .i64 a_), .one (.int .i64 0), .one .any, .one .any, .one (.int .i64 i_)] ++ List.replicate 47 (.one .any), [.row 42 (.prod (.int .i64) (.prod (.int .i64) (.int .i64))) data2]⟩
theorem slices_heapSortCmpFunc_api_Move'.step0 (N : Nat) (rec : List Item → St → Option LMv) (data : LMv) (a_ : Int) (b_ : Int) (i_ : Int) (data2 : LMv) : seg tb (slices_heapSortCmpFunc_api_Move'.G N) slices_heapSortCmpFunc_api_Move'.A 1 rec (slices_heapSortCmpFunc_api_Move'.fin N) segFuel (loopBody slices_heapSortCmpFunc_api_Move'.k0) (slices_heapSortCmpFunc_api_Move'.st0 data a_ b_ i_ data2) = slices_heapSortCmpFunc_api_Move'.s0 N data a_ b_ (fun i_ data2 => rec slices_heapSortCmpFunc_api_Move'.k0 (slices_heapSortCmpFunc_api_Move'.st0 data a_ b_ i_ data2)) (fun i_ data2 => rec slices_heapSortCmpFunc_api_Move'.k1 (slices_heapSortCmpFunc_api_Move'.st1 data a_ b_ i_ data2)) i_ data2 := by kernel_rfl
theorem slices_heapSortCmpFunc_api_Move'.step1 (N : Nat) (rec : List Item → St → Option LMv) (data : LMv) (a_ : Int) (b_ : Int) (i_ : Int) (data2 : LMv) : seg tb (slices_heapSortCmpFunc_api_Move'.G N) slices_heapSortCmpFunc_api_Move'.A 1 rec (slices_heapSortCmpFunc_api_Move'.fin N) segFuel (loopBody slices_heapSortCmpFunc_api_Move'.k1) (slices_heapSortCmpFunc_api_Move'.st1 data a_ b_ i_ data2) = slices_heapSortCmpFunc_api_Move'.s1 N data a_ b_ (fun i_ data2 => rec slices_heapSortCmpFunc_api_Move'.k0 (slices_heapSortCmpFunc_api_Move'.st0 data a_ b_ i_ data2)) (fun i_ data2 => rec slices_heapSortCmpFunc_api_Move'.k1 (slices_heapSortCmpFunc_api_Move'.st1 data a_ b_ i_ data2)) i_ data2 := by kernel_rfl
theorem slices_heapSortCmpFunc_api_Move'.entry (N : Nat) (rec : List Item → St → Option LMv) (x : (argH slices_heapSortCmpFunc_api_Move'.as).den) : seg tb (slices_heapSortCmpFunc_api_Move'.G N) slices_heapSortCmpFunc_api_Move'.A 1 rec (slices_heapSortCmpFunc_api_Move'.fin N) segFuel [.code (bodyOf Try.f95)] (initSt Try.f95 (encArgs slices_heapSortCmpFunc_api_Move'.as x) (encMem slices_heapSortCmpFunc_api_Move'.as x)) = slices_heapSortCmpFunc_api_Move'.e N (fun i_ data2 => rec slices_heapSortCmpFunc_api_Move'.k0 (slices_heapSortCmpFunc_api_Move'.st0 x.1 x.2.1 x.2.2.1 i_ data2)) (fun i_ data2 => rec slices_heapSortCmpFunc_api_Move'.k1 (slices_heapSortCmpFunc_api_Move'.st1 x.1 x.2.1 x.2.2.1 i_ data2)) x.1 x.2.1 x.2.2.1 := by kernel_rfl
theorem slices_heapSortCmpFunc_api_Move'.runs (N : Nat) (data : LMv) (a_ : Int) (b_ : Int) : ∀ n, (∀ (i_ : Int) (data2 : LMv), run tb (slices_heapSortCmpFunc_api_Move'.G N) slices_heapSortCmpFunc_api_Move'.A 1 (slices_heapSortCmpFunc_api_Move'.fin N) n slices_heapSortCmpFunc_api_Move'.k0 (slices_heapSortCmpFunc_api_Move'.st0 data a_ b_ i_ data2) = slices_heapSortCmpFunc_api_Move'.l0 N data a_ b_ n i_ data2) ∧ (∀ (i_ : Int) (data2 : LMv), run tb (slices_heapSortCmpFunc_api_Move'.G N) slices_heapSortCmpFunc_api_Move'.A 1 (slices_heapSortCmpFunc_api_Move'.fin N) n slices_heapSortCmpFunc_api_Move'.k1 (slices_heapSortCmpFunc_api_Move'.st1 data a_ b_ i_ data2) = slices_heapSortCmpFunc_api_Move'.l1 N data a_ b_ n i_ data2)
  | 0 => ⟨fun _ _ => rfl, fun _ _ => rfl⟩
  | n + 1 => by
    obtain ⟨h0, h1⟩ := slices_heapSortCmpFunc_api_Move'.runs N data a_ b_ n
    have e0 : (fun (i_ : Int) (data2 : LMv) => run tb (slices_heapSortCmpFunc_api_Move'.G N) slices_heapSortCmpFunc_api_Move'.A 1 (slices_heapSortCmpFunc_api_Move'.fin N) n slices_heapSortCmpFunc_api_Move'.k0 (slices_heapSortCmpFunc_api_Move'.st0 data a_ b_ i_ data2)) = slices_heapSortCmpFunc_api_Move'.l0 N data a_ b_ n := by funext i_ data2; exact h0 i_ data2
    have e1 : (fun (i_ : Int) (data2 : LMv) => run tb (slices_heapSortCmpFunc_api_Move'.G N) slices_heapSortCmpFunc_api_Move'.A 1 (slices_heapSortCmpFunc_api_Move'.fin N) n slices_heapSortCmpFunc_api_Move'.k1 (slices_heapSortCmpFunc_api_Move'.st1 data a_ b_ i_ data2)) = slices_heapSortCmpFunc_api_Move'.l1 N data a_ b_ n := by funext i_ data2; exact h1 i_ data2
    have g0 : (∀ (i_ : Int) (data2 : LMv), run tb (slices_heapSortCmpFunc_api_Move'.G N) slices_heapSortCmpFunc_api_Move'.A 1 (slices_heapSortCmpFunc_api_Move'.fin N) (n + 1) slices_heapSortCmpFunc_api_Move'.k0 (slices_heapSortCmpFunc_api_Move'.st0 data a_ b_ i_ data2) = slices_heapSortCmpFunc_api_Move'.l0 N data a_ b_ (n + 1) i_ data2) := by
      intro i_ data2
      exact (run_succ (by kernel_rfl)).trans ((slices_heapSortCmpFunc_api_Move'.step0 N _ data a_ b_ i_ data2).trans ((congr (congrArg (fun r0 r1 => slices_heapSortCmpFunc_api_Move'.s0 N data a_ b_ r0 r1 i_ data2) e0) e1).trans (slices_heapSortCmpFunc_api_Move'.l0_s N data a_ b_ n i_ data2).symm))
    have g1 : (∀ (i_ : Int) (data2 : LMv), run tb (slices_heapSortCmpFunc_api_Move'.G N) slices_heapSortCmpFunc_api_Move'.A 1 (slices_heapSortCmpFunc_api_Move'.fin N) (n + 1) slices_heapSortCmpFunc_api_Move'.k1 (slices_heapSortCmpFunc_api_Move'.st1 data a_ b_ i_ data2) = slices_heapSortCmpFunc_api_Move'.l1 N data a_ b_ (n + 1) i_ data2) := by
      intro i_ data2
      exact (run_succ (by kernel_rfl)).trans ((slices_heapSortCmpFunc_api_Move'.step1 N _ data a_ b_ i_ data2).trans ((congr (congrArg (fun r0 r1 => slices_heapSortCmpFunc_api_Move'.s1 N data a_ b_ r0 r1 i_ data2) e0) e1).trans (slices_heapSortCmpFunc_api_Move'.l1_s N data a_ b_ n i_ data2).symm))
    exact ⟨g0, g1⟩
theorem slices_heapSortCmpFunc_api_Move'.ok (N : Nat) : FnOk Try.prog 95 (slices_heapSortCmpFunc_api_Move'.D N) := by
  refine FnOk_of tb_ok (Checked.mixed Try.checked) ⟨Try.f95, Try.func95, by kernel_rfl, by kernel_rfl, fun x y h => ⟨slices_heapSortCmpFunc_api_Move'.G N, slices_heapSortCmpFunc_api_Move'.A, N, gamOf_ok (by simp only [List.forall_mem_cons, List.not_mem_nil, false_implies, implies_true, and_true]; exact ⟨slices_siftDownCmpFunc_api_Move'.ok N, slices_siftDownCmpFunc_api_Move'.fit N⟩), ?_⟩⟩ (slices_heapSortCmpFunc_api_Move'.fit N)
  rw [absFn_n (n0 := 1) rfl (by kernel_rfl)]
  refine (slices_heapSortCmpFunc_api_Move'.entry N (run tb (slices_heapSortCmpFunc_api_Move'.G N) slices_heapSortCmpFunc_api_Move'.A 1 (slices_heapSortCmpFunc_api_Move'.fin N) N) x).trans ?_
  have e0 : (fun (i_ : Int) (data2 : LMv) => run tb (slices_heapSortCmpFunc_api_Move'.G N) slices_heapSortCmpFunc_api_Move'.A 1 (slices_heapSortCmpFunc_api_Move'.fin N) N slices_heapSortCmpFunc_api_Move'.k0 (slices_heapSortCmpFunc_api_Move'.st0 x.1 x.2.1 x.2.2.1 i_ data2)) = slices_heapSortCmpFunc_api_Move'.l0 N x.1 x.2.1 x.2.2.1 N := by funext i_ data2; exact (slices_heapSortCmpFunc_api_Move'.runs N x.1 x.2.1 x.2.2.1 N).1 i_ data2
  have e1 : (fun (i_ : Int) (data2 : LMv) => run tb (slices_heapSortCmpFunc_api_Move'.G N) slices_heapSortCmpFunc_api_Move'.A 1 (slices_heapSortCmpFunc_api_Move'.fin N) N slices_heapSortCmpFunc_api_Move'.k1 (slices_heapSortCmpFunc_api_Move'.st1 x.1 x.2.1 x.2.2.1 i_ data2)) = slices_heapSortCmpFunc_api_Move'.l1 N x.1 x.2.1 x.2.2.1 N := by funext i_ data2; exact (slices_heapSortCmpFunc_api_Move'.runs N x.1 x.2.1 x.2.2.1 N).2 i_ data2
  have h' : (slices_heapSortCmpFunc_api_Move'.D N).f x = slices_heapSortCmpFunc_api_Move'.e N (slices_heapSortCmpFunc_api_Move'.l0 N x.1 x.2.1 x.2.2.1 N) (slices_heapSortCmpFunc_api_Move'.l1 N x.1 x.2.1 x.2.2.1 N) x.1 x.2.1 x.2.2.1 := by kernel_rfl
  exact (congr (congrArg (fun r0 r1 => slices_heapSortCmpFunc_api_Move'.e N r0 r1 x.1 x.2.1 x.2.2.1) e0) e1).trans (h'.symm.trans h)
/-! ### f111: slices.order2CmpFunc[gamehall/api.Move] -/
def slices_order2CmpFunc_api_Move.as : List MK := [.d false (.slice 42 (.prod (.int .i64) (.prod (.int .i64) (.int .i64)))), .d false (.int .i64), .d false (.int .i64), .o (.ptr 3 (.d (.int .i64))) true, .f 66]
def slices_order2CmpFunc_api_Move.rs : List (Bool × HT) := [(false, (.d (.int .i64))), (false, (.d (.int .i64)))]
def slices_order2CmpFunc_api_Move.lc : List AC := [.ptr 0 0]
def slices_order2CmpFunc_api_Move.D (N : Nat) : DFn := ⟨slices_order2CmpFunc_api_Move.as, slices_order2CmpFunc_api_Move.rs, (Int × Int × Int), fun x => slices_order2CmpFunc_api_Move N x.1 x.2.1 x.2.2.1 x.2.2.2.1, fun r o => (r.1, r.2.1, o.1), fun b => (b.1, (b.2.1, ())), fun b => (b.2.2, ())⟩
theorem slices_order2CmpFunc_api_Move.fit (N : Nat) : (slices_order2CmpFunc_api_Move.D N).Fit := ⟨fun _ _ => rfl, fun _ _ => rfl, by kernel_rfl⟩
noncomputable def slices_order2CmpFunc_api_Move.G (N : Nat) : Gam := gamOf [(66, moves_compare.D N)]
def slices_order2CmpFunc_api_Move.A : Nat → Option LoopAnn := fun _ => none
noncomputable def slices_order2CmpFunc_api_Move.fin (N : Nat) : St → Option (Int × Int × Int) := resK tb Try.f111.results.toList (decRes (slices_order2CmpFunc_api_Move.D N) slices_order2CmpFunc_api_Move.lc)
theorem slices_order2CmpFunc_api_Move.entry (N : Nat) (rec : List Item → St → Option (Int × Int × Int)) (x : (argH slices_order2CmpFunc_api_Move.as).den) : seg tb (slices_order2CmpFunc_api_Move.G N) slices_order2CmpFunc_api_Move.A 1 rec (slices_order2CmpFunc_api_Move.fin N) segFuel [.code (bodyOf Try.f111)] (initSt Try.f111 (encArgs slices_order2CmpFunc_api_Move.as x) (encMem slices_order2CmpFunc_api_Move.as x)) = slices_order2CmpFunc_api_Move.e N x.1 x.2.1 x.2.2.1 x.2.2.2.1 := by kernel_rfl
theorem slices_order2CmpFunc_api_Move.ok (N : Nat) : FnOk Try.prog 111 (slices_order2CmpFunc_api_Move.D N) := by
  refine FnOk_of tb_ok (Checked.mixed Try.checked) ⟨Try.f111, Try.func111, by kernel_rfl, by kernel_rfl, fun x y h => ⟨slices_order2CmpFunc_api_Move.G N, slices_order2CmpFunc_api_Move.A, N, gamOf_ok (by simp only [List.forall_mem_cons, List.not_mem_nil, false_implies, implies_true, and_true]; exact ⟨moves_compare.ok N, moves_compare.fit N⟩), ?_⟩⟩ (slices_order2CmpFunc_api_Move.fit N)
  rw [absFn_n (n0 := 1) rfl (by kernel_rfl)]
  exact (slices_order2CmpFunc_api_Move.entry N _ x).trans h
/-! ### f110: slices.medianCmpFunc[gamehall/api.Move] -/
def slices_medianCmpFunc_api_Move.as : List MK := [.d false (.slice 42 (.prod (.int .i64) (.prod (.int .i64) (.int .i64)))), .d false (.int .i64), .d false (.int .i64), .d false (.int .i64), .o (.ptr 3 (.d (.int .i64))) true, .f 66]
def slices_medianCmpFunc_api_Move.rs : List (Bool × HT) := [(false, (.d (.int .i64)))]
def slices_medianCmpFunc_api_Move.lc : List AC := [.ptr 0 0]
def slices_medianCmpFunc_api_Move.D (N : Nat) : DFn := ⟨slices_medianCmpFunc_api_Move.as, slices_medianCmpFunc_api_Move.rs, (Int × Int), fun x => slices_medianCmpFunc_api_Move N x.1 x.2.1 x.2.2.1 x.2.2.2.1 x.2.2.2.2.1, fun r o => (r.1, o.1), fun b => (b.1, ()), fun b => (b.2, ())⟩
theorem slices_medianCmpFunc_api_Move.fit (N : Nat) : (slices_medianCmpFunc_api_Move.D N).Fit := ⟨fun _ _ => rfl, fun _ _ => rfl, by kernel_rfl⟩
noncomputable def slices_medianCmpFunc_api_Move.G (N : Nat) : Gam := gamOf [(111, slices_order2CmpFunc_api_Move.D N)]
def slices_medianCmpFunc_api_Move.A : Nat → Option LoopAnn := fun _ => none
noncomputable def slices_medianCmpFunc_api_Move.fin (N : Nat) : St → Option (Int × Int) := resK tb Try.f110.results.toList (decRes (slices_medianCmpFunc_api_Move.D N) slices_medianCmpFunc_api_Move.lc)
theorem slices_medianCmpFunc_api_Move.entry (N : Nat) (rec : List Item → St → Option (Int × Int)) (x : (argH slices_medianCmpFunc_api_Move.as).den) : seg tb (slices_medianCmpFunc_api_Move.G N) slices_medianCmpFunc_api_Move.A 1 rec (slices_medianCmpFunc_api_Move.fin N) segFuel [.code (bodyOf Try.f110)] (initSt Try.f110 (encArgs slices_medianCmpFunc_api_Move.as x) (encMem slices_medianCmpFunc_api_Move.as x)) = slices_medianCmpFunc_api_Move.e N x.1 x.2.1 x.2.2.1 x.2.2.2.1 x.2.2.2.2.1 := by kernel_rfl
theorem slices_medianCmpFunc_api_Move.ok (N : Nat) : FnOk Try.prog 110 (slices_medianCmpFunc_api_Move.D N) := by
  refine FnOk_of tb_ok (Checked.mixed Try.checked) ⟨Try.f110, Try.func110, by kernel_rfl, by kernel_rfl, fun x y h => ⟨slices_medianCmpFunc_api_Move.G N, slices_medianCmpFunc_api_Move.A, N, gamOf_ok (by simp only [List.forall_mem_cons, List.not_mem_nil, false_implies, implies_true, and_true]; exact ⟨slices_order2CmpFunc_api_Move.ok N, slices_order2CmpFunc_api_Move.fit N⟩), ?_⟩⟩ (slices_medianCmpFunc_api_Move.fit N)
  rw [absFn_n (n0 := 1) rfl (by kernel_rfl)]
  exact (slices_medianCmpFunc_api_Move.entry N _ x).trans h
/-! ### f109: slices.medianAdjacentCmpFunc[gamehall/api.Move] -/
def slices_medianAdjacentCmpFunc_api_Move.as : List MK := [.d false (.slice 42 (.prod (.int .i64) (.prod (.int .i64) (.int .i64)))), .d false (.int .i64), .o (.ptr 3 (.d (.int .i64))) true, .f 66]
def slices_medianAdjacentCmpFunc_api_Move.rs : List (Bool × HT) := [(false, (.d (.int .i64)))]
def slices_medianAdjacentCmpFunc_api_Move.lc : List AC := [.ptr 0 0]
def slices_medianAdjacentCmpFunc_api_Move.D (N : Nat) : DFn := ⟨slices_medianAdjacentCmpFunc_api_Move.as, slices_medianAdjacentCmpFunc_api_Move.rs, (Int × Int), fun x => slices_medianAdjacentCmpFunc_api_Move N x.1 x.2.1 x.2.2.1, fun r o => (r.1, o.1), fun b => (b.1, ()), fun b => (b.2, ())⟩
theorem slices_medianAdjacentCmpFunc_api_Move.fit (N : Nat) : (slices_medianAdjacentCmpFunc_api_Move.D N).Fit := ⟨fun _ _ => rfl, fun _ _ => rfl, by kernel_rfl⟩
noncomputable def slices_medianAdjacentCmpFunc_api_Move.G (N : Nat) : Gam := gamOf [(110, slices_medianCmpFunc_api_Move.D N)]
def slices_medianAdjacentCmpFunc_api_Move.A : Nat → Option LoopAnn := fun _ => none
noncomputable def slices_medianAdjacentCmpFunc_api_Move.fin (N : Nat) : St → Option (Int × Int) := resK tb Try.f109.results.toList (decRes (slices_medianAdjacentCmpFunc_api_Move.D N) slices_medianAdjacentCmpFunc_api_Move.lc)
theorem slices_medianAdjacentCmpFunc_api_Move.entry (N : Nat) (rec : List Item → St → Option (Int × Int)) (x : (argH slices_medianAdjacentCmpFunc_api_Move.as).den) : seg tb (slices_medianAdjacentCmpFunc_api_Move.G N) slices_medianAdjacentCmpFunc_api_Move.A 1 rec (slices_medianAdjacentCmpFunc_api_Move.fin N) segFuel [.code (bodyOf Try.f109)] (initSt Try.f109 (encArgs slices_medianAdjacentCmpFunc_api_Move.as x) (encMem slices_medianAdjacentCmpFunc_api_Move.as x)) = slices_medianAdjacentCmpFunc_api_Move.e N x.1 x.2.1 x.2.2.1 := by kernel_rfl
theorem slices_medianAdjacentCmpFunc_api_Move.ok (N : Nat) : FnOk Try.prog 109 (slices_medianAdjacentCmpFunc_api_Move.D N) := by
  refine FnOk_of tb_ok (Checked.mixed Try.checked) ⟨Try.f109, Try.func109, by kernel_rfl, by kernel_rfl, fun x y h => ⟨slices_medianAdjacentCmpFunc_api_Move.G N, slices_medianAdjacentCmpFunc_api_Move.A, N, gamOf_ok (by simp only [List.forall_mem_cons, List.not_mem_nil, false_implies, implies_true, and_true]; exact ⟨slices_medianCmpFunc_api_Move.ok N, slices_medianCmpFunc_api_Move.fit N⟩), ?_⟩⟩ (slices_medianAdjacentCmpFunc_api_Move.fit N)
  rw [absFn_n (n0 := 1) rfl (by kernel_rfl)]
  exact (slices_medianAdjacentCmpFunc_api_Move.entry N _ x).trans h
/-! ### f97: slices.choosePivotCmpFunc[gamehall/api.Move] -/
def slices_choosePivotCmpFunc_api_Move.as : List MK := [.d false (.slice 42 (.prod (.int .i64) (.prod (.int .i64) (.int .i64)))), .d false (.int .i64), .d false (.int .i64), .f 66]
def slices_choosePivotCmpFunc_api_Move.rs : List (Bool × HT) := [(false, (.d (.int .i64))), (false, (.d (.int .i64)))]
def slices_choosePivotCmpFunc_api_Move.lc : List AC := []
def slices_choosePivotCmpFunc_api_Move.D (N : Nat) : DFn := ⟨slices_choosePivotCmpFunc_api_Move.as, slices_choosePivotCmpFunc_api_Move.rs, (Int × Int), fun x => slices_choosePivotCmpFunc_api_Move N x.1 x.2.1 x.2.2.1, fun r o => (r.1, r.2.1), fun b => (b.1, (b.2, ())), fun b => ()⟩
theorem slices_choosePivotCmpFunc_api_Move.fit (N : Nat) : (slices_choosePivotCmpFunc_api_Move.D N).Fit := ⟨fun _ _ => rfl, fun _ _ => rfl, by kernel_rfl⟩
noncomputable def slices_choosePivotCmpFunc_api_Move.G (N : Nat) : Gam := gamOf [(109, slices_medianAdjacentCmpFunc_api_Move.D N), (110, slices_medianCmpFunc_api_Move.D N)]
def slices_choosePivotCmpFunc_api_Move.A : Nat → Option LoopAnn := fun _ => none
noncomputable def slices_choosePivotCmpFunc_api_Move.fin (N : Nat) : St → Option (Int × Int) := resK tb Try.f97.results.toList (decRes (slices_choosePivotCmpFunc_api_Move.D N) slices_choosePivotCmpFunc_api_Move.lc)
theorem slices_choosePivotCmpFunc_api_Move.entry (N : Nat) (rec : List Item → St → Option (Int × Int)) (x : (argH slices_choosePivotCmpFunc_api_Move.as).den) : seg tb (slices_choosePivotCmpFunc_api_Move.G N) slices_choosePivotCmpFunc_api_Move.A 0 rec (slices_choosePivotCmpFunc_api_Move.fin N) segFuel [.code (bodyOf Try.f97)] (initSt Try.f97 (encArgs slices_choosePivotCmpFunc_api_Move.as x) (encMem slices_choosePivotCmpFunc_api_Move.as x)) = slices_choosePivotCmpFunc_api_Move.e N x.1 x.2.1 x.2.2.1 := by kernel_rfl
theorem slices_choosePivotCmpFunc_api_Move.ok (N : Nat) : FnOk Try.prog 97 (slices_choosePivotCmpFunc_api_Move.D N) := by
  refine FnOk_of tb_ok (Checked.mixed Try.checked) ⟨Try.f97, Try.func97, by kernel_rfl, by kernel_rfl, fun x y h => ⟨slices_choosePivotCmpFunc_api_Move.G N, slices_choosePivotCmpFunc_api_Move.A, N, gamOf_ok (by simp only [List.forall_mem_cons, List.not_mem_nil, false_implies, implies_true, and_true]; exact ⟨⟨slices_medianAdjacentCmpFunc_api_Move.ok N, slices_medianAdjacentCmpFunc_api_Move.fit N⟩, ⟨slices_medianCmpFunc_api_Move.ok N, slices_medianCmpFunc_api_Move.fit N⟩⟩), ?_⟩⟩ (slices_choosePivotCmpFunc_api_Move.fit N)
  rw [absFn_n (n0 := 0) rfl (by kernel_rfl)]
  exact (slices_choosePivotCmpFunc_api_Move.entry N _ x).trans h
/-! ### f98: slices.reverseRangeCmpFunc[gamehall/api.Move] -/
def slices_reverseRangeCmpFunc_api_Move'.as : List MK := [.o (.own 42 (.prod (.int .i64) (.prod (.int .i64) (.int .i64)))) true, .d false (.int .i64), .d false (.int .i64), .f 66]
def slices_reverseRangeCmpFunc_api_Move'.rs : List (Bool × HT) := []
def slices_reverseRangeCmpFunc_api_Move'.lc : List AC := [.own 0]
def slices_reverseRangeCmpFunc_api_Move'.D (N : Nat) : DFn := ⟨slices_reverseRangeCmpFunc_api_Move'.as, slices_reverseRangeCmpFunc_api_Move'.rs, LMv, fun x => slices_reverseRangeCmpFunc_api_Move' N x.1 x.2.1 x.2.2.1, fun r o => o.1, fun b => (), fun b => (b, ())⟩
theorem slices_reverseRangeCmpFunc_api_Move'.fit (N : Nat) : (slices_reverseRangeCmpFunc_api_Move'.D N).Fit := ⟨fun _ _ => rfl, fun _ _ => rfl, by kernel_rfl⟩
noncomputable def slices_reverseRangeCmpFunc_api_Move'.G (N : Nat) : Gam := gamOf []
def slices_reverseRangeCmpFunc_api_Move'.A : Nat → Option LoopAnn := fun k => bif Nat.beq k 0 then some ⟨[0, 8, 9], [], [], [], [], 1, false⟩ else none
noncomputable def slices_reverseRangeCmpFunc_api_Move'.fin (N : Nat) : St → Option LMv := resK tb Try.f98.results.toList (decRes (slices_reverseRangeCmpFunc_api_Move'.D N) slices_reverseRangeCmpFunc_api_Move'.lc)
noncomputable def slices_reverseRangeCmpFunc_api_Move'.k0 : List Item := stackAt [.r, .r, .b] (bodyOf Try.f98) []
def slices_reverseRangeCmpFunc_api_Move'.st0 (data : LMv) (a_ : Int) (b_ : Int) (i_ : Int) (j_ : Int) (data2 : LMv) : St := ⟨[.one (.own 0)] ++ List.replicate 7 (.one .any) ++ [.one (.int .i64 i_), .one (.int .i64 j_)] ++ List.replicate 24 (.one .any), [.row 42 (.prod (.int .i64) (.prod (.int .i64) (.int .i64))) data2]⟩
theorem slices_reverseRangeCmpFunc_api_Move'.step0 (N : Nat) (rec : List Item → St → Option LMv) (data : LMv) (a_ : Int) (b_ : Int) (i_ : Int) (j_ : Int) (data2 : LMv) : seg tb (slices_reverseRangeCmpFunc_api_Move'.G N) slices_reverseRangeCmpFunc_api_Move'.A 1 rec (slices_reverseRangeCmpFunc_api_Move'.fin N) segFuel (loopBody slices_reverseRangeCmpFunc_api_Move'.k0) (slices_reverseRangeCmpFunc_api_Move'.st0 data a_ b_ i_ j_ data2) = slices_reverseRangeCmpFunc_api_Move'.s0 N data a_ b_ (fun i_ j_ data2 => rec slices_reverseRangeCmpFunc_api_Move'.k0 (slices_reverseRangeCmpFunc_api_Move'.st0 data a_ b_ i_ j_ data2)) i_ j_ data2 := by kernel_rfl
theorem slices_reverseRangeCmpFunc_api_Move'.entry (N : Nat) (rec : List Item → St → Option LMv) (x : (argH slices_reverseRangeCmpFunc_api_Move'.as).den) : seg tb (slices_reverseRangeCmpFunc_api_Move'.G N) slices_reverseRangeCmpFunc_api_Move'.A 1 rec (slices_reverseRangeCmpFunc_api_Move'.fin N) segFuel [.code (bodyOf Try.f98)] (initSt Try.f98 (encArgs slices_reverseRangeCmpFunc_api_Move'.as x) (encMem slices_reverseRangeCmpFunc_api_Move'.as x)) = slices_reverseRangeCmpFunc_api_Move'.e N (fun i_ j_ data2 => rec slices_reverseRangeCmpFunc_api_Move'.k0 (slices_reverseRangeCmpFunc_api_Move'.st0 x.1 x.2.1 x.2.2.1 i_ j_ data2)) x.1 x.2.1 x.2.2.1 := by kernel_rfl
theorem slices_reverseRangeCmpFunc_api_Move'.runs (N : Nat) (data : LMv) (a_ : Int) (b_ : Int) : ∀ n, (∀ (i_ : Int) (j_ : Int) (data2 : LMv), run tb (slices_reverseRangeCmpFunc_api_Move'.G N) slices_reverseRangeCmpFunc_api_Move'.A 1 (slices_reverseRangeCmpFunc_api_Move'.fin N) n slices_reverseRangeCmpFunc_api_Move'.k0 (slices_reverseRangeCmpFunc_api_Move'.st0 data a_ b_ i_ j_ data2) = slices_reverseRangeCmpFunc_api_Move'.l0 N data a_ b_ n i_ j_ data2)
  | 0 => fun _ _ _ => rfl
  | n + 1 => by
    have h0 := slices_reverseRangeCmpFunc_api_Move'.runs N data a_ b_ n
    have e0 : (fun (i_ : Int) (j_ : Int) (data2 : LMv) => run tb (slices_reverseRangeCmpFunc_api_Move'.G N) slices_reverseRangeCmpFunc_api_Move'.A 1 (slices_reverseRangeCmpFunc_api_Move'.fin N) n slices_reverseRangeCmpFunc_api_Move'.k0 (slices_reverseRangeCmpFunc_api_Move'.st0 data a_ b_ i_ j_ data2)) = slices_reverseRangeCmpFunc_api_Move'.l0 N data a_ b_ n := by funext i_ j_ data2; exact h0 i_ j_ data2
    have g0 : (∀ (i_ : Int) (j_ : Int) (data2 : LMv), run tb (slices_reverseRangeCmpFunc_api_Move'.G N) slices_reverseRangeCmpFunc_api_Move'.A 1 (slices_reverseRangeCmpFunc_api_Move'.fin N) (n + 1) slices_reverseRangeCmpFunc_api_Move'.k0 (slices_reverseRangeCmpFunc_api_Move'.st0 data a_ b_ i_ j_ data2) = slices_reverseRangeCmpFunc_api_Move'.l0 N data a_ b_ (n + 1) i_ j_ data2) := by
      intro i_ j_ data2
      exact (run_succ (by kernel_rfl)).trans ((slices_reverseRangeCmpFunc_api_Move'.step0 N _ data a_ b_ i_ j_ data2).trans ((congrArg (fun r0 => slices_reverseRangeCmpFunc_api_Move'.s0 N data a_ b_ r0 i_ j_ data2) e0).trans (slices_reverseRangeCmpFunc_api_Move'.l0_s N data a_ b_ n i_ j_ data2).symm))
    exact g0
theorem slices_reverseRangeCmpFunc_api_Move'.ok (N : Nat) : FnOk Try.prog 98 (slices_reverseRangeCmpFunc_api_Move'.D N) := by
  refine FnOk_of tb_ok (Checked.mixed Try.checked) ⟨Try.f98, Try.func98, by kernel_rfl, by kernel_rfl, fun x y h => ⟨slices_reverseRangeCmpFunc_api_Move'.G N, slices_reverseRangeCmpFunc_api_Move'.A, N, gamOf_ok (fun p hp => nomatch hp), ?_⟩⟩ (slices_reverseRangeCmpFunc_api_Move'.fit N)
  rw [absFn_n (n0 := 1) rfl (by kernel_rfl)]
  refine (slices_reverseRangeCmpFunc_api_Move'.entry N (run tb (slices_reverseRangeCmpFunc_api_Move'.G N) slices_reverseRangeCmpFunc_api_Move'.A 1 (slices_reverseRangeCmpFunc_api_Move'.fin N) N) x).trans ?_
  have e0 : (fun (i_ : Int) (j_ : Int) (data2 : LMv) => run tb (slices_reverseRangeCmpFunc_api_Move'.G N) slices_reverseRangeCmpFunc_api_Move'.A 1 (slices_reverseRangeCmpFunc_api_Move'.fin N) N slices_reverseRangeCmpFunc_api_Move'.k0 (slices_reverseRangeCmpFunc_api_Move'.st0 x.1 x.2.1 x.2.2.1 i_ j_ data2)) = slices_reverseRangeCmpFunc_api_Move'.l0 N x.1 x.2.1 x.2.2.1 N := by funext i_ j_ data2; exact (slices_reverseRangeCmpFunc_api_Move'.runs N x.1 x.2.1 x.2.2.1 N) i_ j_ data2
  have h' : (slices_reverseRangeCmpFunc_api_Move'.D N).f x = slices_reverseRangeCmpFunc_api_Move'.e N (slices_reverseRangeCmpFunc_api_Move'.l0 N x.1 x.2.1 x.2.2.1 N) x.1 x.2.1 x.2.2.1 := by kernel_rfl
  exact (congrArg (fun r0 => slices_reverseRangeCmpFunc_api_Move'.e N r0 x.1 x.2.1 x.2.2.1) e0).trans (h'.symm.trans h)
/-! ### f99: slices.partialInsertionSortCmpFunc[gamehall/api.Move] -/
def slices_partialInsertionSortCmpFunc_api_Move'.as : List MK := [.o (.own 42 (.prod (.int .i64) (.prod (.int .i64) (.int .i64)))) true, .d false (.int .i64), .d false (.int .i64), .f 66]
def slices_partialInsertionSortCmpFunc_api_Move'.rs : List (Bool × HT) := [(false, (.d .bool))]
def slices_partialInsertionSortCmpFunc_api_Move'.lc : List AC := [.own 0]
def slices_partialInsertionSortCmpFunc_api_Move'.D (N : Nat) : DFn := ⟨slices_partialInsertionSortCmpFunc_api_Move'.as, slices_partialInsertionSortCmpFunc_api_Move'.rs, (Bool × LMv), fun x => slices_partialInsertionSortCmpFunc_api_Move' N x.1 x.2.1 x.2.2.1, fun r o => (r.1, o.1), fun b => (b.1, ()), fun b => (b.2, ())⟩
theorem slices_partialInsertionSortCmpFunc_api_Move'.fit (N : Nat) : (slices_partialInsertionSortCmpFunc_api_Move'.D N).Fit := ⟨fun _ _ => rfl, fun _ _ => rfl, by kernel_rfl⟩
noncomputable def slices_partialInsertionSortCmpFunc_api_Move'.G (N : Nat) : Gam := gamOf [(66, moves_compare.D N)]
def slices_partialInsertionSortCmpFunc_api_Move'.A : Nat → Option LoopAnn := fun k => bif Nat.beq k 0 then some ⟨[0, 1, 2, 3, 9, 10], [], [], [], [], 1, false⟩ else bif Nat.beq k 2 then some ⟨[0, 1, 2, 3, 9, 10], [], [], [], [], 1, false⟩ else bif Nat.beq k 4 then some ⟨[0, 1, 2, 3, 9, 10, 11], [], [], [], [], 1, false⟩ else bif Nat.beq k 6 then some ⟨[0, 1, 2, 3, 9, 10, 12], [], [], [], [], 1, false⟩ else none
noncomputable def slices_partialInsertionSortCmpFunc_api_Move'.fin (N : Nat) : St → Option (Bool × LMv) := resK tb Try.f99.results.toList (decRes (slices_partialInsertionSortCmpFunc_api_Move'.D N) slices_partialInsertionSortCmpFunc_api_Move'.lc)
noncomputable def slices_partialInsertionSortCmpFunc_api_Move'.k0 : List Item := stackAt [.r, .r, .l, .r, .b] (bodyOf Try.f99) []
def slices_partialInsertionSortCmpFunc_api_Move'.st0 (data : LMv) (a_ : Int) (b_ : Int) (i_ : Int) (j_ : Int) (data2 : LMv) : St := ⟨[.one (.own 0), .one (.int .i64 a_), .one (.int .i64 b_), .one (.fn 66)] ++ List.replicate 5 (.one .any) ++ [.one (.int .i64 i_), .one (.int .i64 j_)] ++ List.replicate 130 (.one .any), [.row 42 (.prod (.int .i64) (.prod (.int .i64) (.int .i64))) data2]⟩
noncomputable def slices_partialInsertionSortCmpFunc_api_Move'.k1 : List Item := stackAt [.r, .r, .l, .r, .b, .w, .r, .l, .b, .l, .b] (bodyOf Try.f99) []
def slices_partialInsertionSortCmpFunc_api_Move'.st1 (data : LMv) (a_ : Int) (b_ : Int) (i_ : Int) (j_ : Int) (data2 : LMv) : St := ⟨[.one (.own 0), .one (.int .i64 a_), .one (.int .i64 b_), .one (.fn 66)] ++ List.replicate 5 (.one .any) ++ [.one (.int .i64 i_), .one (.int .i64 j_)] ++ List.replicate 130 (.one .any), [.row 42 (.prod (.int .i64) (.prod (.int .i64) (.int .i64))) data2]⟩
noncomputable def slices_partialInsertionSortCmpFunc_api_Move'.k2 : List Item := stackAt [.r, .r, .l, .r, .b, .w, .r, .l, .b, .r, .r, .r, .r, .l, .r, .t, .r, .b] (bodyOf Try.f99) []
def slices_partialInsertionSortCmpFunc_api_Move'.st2 (data : LMv) (a_ : Int) (b_ : Int) (i_ : Int) (j_ : Int) (j_2 : Int) (data2 : LMv) : St := ⟨[.one (.own 0), .one (.int .i64 a_), .one (.int .i64 b_), .one (.fn 66)] ++ List.replicate 5 (.one .any) ++ [.one (.int .i64 i_), .one (.int .i64 j_), .one (.int .i64 j_2)] ++ List.replicate 129 (.one .any), [.row 42 (.prod (.int .i64) (.prod (.int .i64) (.int .i64))) data2]⟩
noncomputable def slices_partialInsertionSortCmpFunc_api_Move'.k3 : List Item := stackAt [.r, .r, .l, .r, .b, .w, .r, .l, .b, .r, .r, .r, .r, .r, .r, .t, .r, .b] (bodyOf Try.f99) []
def slices_partialInsertionSortCmpFunc_api_Move'.st3 (data : LMv) (a_ : Int) (b_ : Int) (i_ : Int) (j_ : Int) (j_2 : Int) (data2 : LMv) : St := ⟨[.one (.own 0), .one (.int .i64 a_), .one (.int .i64 b_), .one (.fn 66)] ++ List.replicate 5 (.one .any) ++ [.one (.int .i64 i_), .one (.int .i64 j_), .one .any, .one (.int .i64 j_2)] ++ List.replicate 128 (.one .any), [.row 42 (.prod (.int .i64) (.prod (.int .i64) (.int .i64))) data2]⟩
theorem slices_partialInsertionSortCmpFunc_api_Move'.step0 (N : Nat) (rec : List Item → St → Option (Bool × LMv)) (data : LMv) (a_ : Int) (b_ : Int) (i_ : Int) (j_ : Int) (data2 : LMv) : seg tb (slices_partialInsertionSortCmpFunc_api_Move'.G N) slices_partialInsertionSortCmpFunc_api_Move'.A 1 rec (slices_partialInsertionSortCmpFunc_api_Move'.fin N) segFuel (loopBody slices_partialInsertionSortCmpFunc_api_Move'.k0) (slices_partialInsertionSortCmpFunc_api_Move'.st0 data a_ b_ i_ j_ data2) = slices_partialInsertionSortCmpFunc_api_Move'.s0 N data a_ b_ (fun i_ j_ data2 => rec slices_partialInsertionSortCmpFunc_api_Move'.k0 (slices_partialInsertionSortCmpFunc_api_Move'.st0 data a_ b_ i_ j_ data2)) (fun i_ j_ data2 => rec slices_partialInsertionSortCmpFunc_api_Move'.k1 (slices_partialInsertionSortCmpFunc_api_Move'.st1 data a_ b_ i_ j_ data2)) (fun i_ j_ j_2 data2 => rec slices_partialInsertionSortCmpFunc_api_Move'.k2 (slices_partialInsertionSortCmpFunc_api_Move'.st2 data a_ b_ i_ j_ j_2 data2)) (fun i_ j_ j_2 data2 => rec slices_partialInsertionSortCmpFunc_api_Move'.k3 (slices_partialInsertionSortCmpFunc_api_Move'.st3 data a_ b_ i_ j_ j_2 data2)) i_ j_ data2 := by kernel_rfl
theorem slices_partialInsertionSortCmpFunc_api_Move'.step1 (N : Nat) (rec : List Item → St → Option (Bool × LMv)) (data : LMv) (a_ : Int) (b_ : Int) (i_ : Int) (j_ : Int) (data2 : LMv) : seg tb (slices_partialInsertionSortCmpFunc_api_Move'.G N) slices_partialInsertionSortCmpFunc_api_Move'.A 1 rec (slices_partialInsertionSortCmpFunc_api_Move'.fin N) segFuel (loopBody slices_partialInsertionSortCmpFunc_api_Move'.k1) (slices_partialInsertionSortCmpFunc_api_Move'.st1 data a_ b_ i_ j_ data2) = slices_partialInsertionSortCmpFunc_api_Move'.s1 N data a_ b_ (fun i_ j_ data2 => rec slices_partialInsertionSortCmpFunc_api_Move'.k0 (slices_partialInsertionSortCmpFunc_api_Move'.st0 data a_ b_ i_ j_ data2)) (fun i_ j_ data2 => rec slices_partialInsertionSortCmpFunc_api_Move'.k1 (slices_partialInsertionSortCmpFunc_api_Move'.st1 data a_ b_ i_ j_ data2)) (fun i_ j_ j_2 data2 => rec slices_partialInsertionSortCmpFunc_api_Move'.k2 (slices_partialInsertionSortCmpFunc_api_Move'.st2 data a_ b_ i_ j_ j_2 data2)) (fun i_ j_ j_2 data2 => rec slices_partialInsertionSortCmpFunc_api_Move'.k3 (slices_partialInsertionSortCmpFunc_api_Move'.st3 data a_ b_ i_ j_ j_2 data2)) i_ j_ data2 := by kernel_rfl
theorem slices_partialInsertionSortCmpFunc_api_Move'.step2 (N : Nat) (rec : List Item → St → Option (Bool × LMv)) (data : LMv) (a_ : Int) (b_ : Int) (i_ : Int) (j_ : Int) (j_2 : Int) (data2 : LMv) : seg tb (slices_partialInsertionSortCmpFunc_api_Move'.G N) slices_partialInsertionSortCmpFunc_api_Move'.A 1 rec (slices_partialInsertionSortCmpFunc_api_Move'.fin N) segFuel (loopBody slices_partialInsertionSortCmpFunc_api_Move'.k2) (slices_partialInsertionSortCmpFunc_api_Move'.st2 data a_ b_ i_ j_ j_2 data2) = slices_partialInsertionSortCmpFunc_api_Move'.s2 N data a_ b_ (fun i_ j_ data2 => rec slices_partialInsertionSortCmpFunc_api_Move'.k0 (slices_partialInsertionSortCmpFunc_api_Move'.st0 data a_ b_ i_ j_ data2)) (fun i_ j_ data2 => rec slices_partialInsertionSortCmpFunc_api_Move'.k1 (slices_partialInsertionSortCmpFunc_api_Move'.st1 data a_ b_ i_ j_ data2)) (fun i_ j_ j_2 data2 => rec slices_partialInsertionSortCmpFunc_api_Move'.k2 (slices_partialInsertionSortCmpFunc_api_Move'.st2 data a_ b_ i_ j_ j_2 data2)) (fun i_ j_ j_2 data2 => rec slices_partialInsertionSortCmpFunc_api_Move'.k3 (slices_partialInsertionSortCmpFunc_api_Move'.st3 data a_ b_ i_ j_ j_2 data2)) i_ j_ j_2 data2 := by kernel_rfl
theorem slices_partialInsertionSortCmpFunc_api_Move'.step3 (N : Nat) (rec : List Item → St → Option (Bool × LMv)) (data : LMv) (a_ : Int) (b_ : Int) (i_ : Int) (j_ : Int) (j_2 : Int) (data2 : LMv) : seg tb (slices_partialInsertionSortCmpFunc_api_Move'.G N) slices_partialInsertionSortCmpFunc_api_Move'.A 1 rec (slices_partialInsertionSortCmpFunc_api_Move'.fin N) segFuel (loopBody slices_partialInsertionSortCmpFunc_api_Move'.k3) (slices_partialInsertionSortCmpFunc_api_Move'.st3 data a_ b_ i_ j_ j_2 data2) = slices_partialInsertionSortCmpFunc_api_Move'.s3 N data a_ b_ (fun i_ j_ data2 => rec slices_partialInsertionSortCmpFunc_api_Move'.k0 (slices_partialInsertionSortCmpFunc_api_Move'.st0 data a_ b_ i_ j_ data2)) (fun i_ j_ data2 => rec slices_partialInsertionSortCmpFunc_api_Move'.k1 (slices_partialInsertionSortCmpFunc_api_Move'.st1 data a_ b_ i_ j_ data2)) (fun i_ j_ j_2 data2 => rec slices_partialInsertionSortCmpFunc_api_Move'.k2 (slices_partialInsertionSortCmpFunc_api_Move'.st2 data a_ b_ i_ j_ j_2 data2)) (fun i_ j_ j_2 data2 => rec slices_partialInsertionSortCmpFunc_api_Move'.k3 (slices_partialInsertionSortCmpFunc_api_Move'.st3 data a_ b_ i_ j_ j_2 data2)) i_ j_ j_2 data2 := by kernel_rfl
theorem slices_partialInsertionSortCmpFunc_api_Move'.entry (N : Nat) (rec : List Item → St → Option (Bool × LMv)) (x : (argH slices_partialInsertionSortCmpFunc_api_Move'.as).den) : seg tb (slices_partialInsertionSortCmpFunc_api_Move'.G N) slices_partialInsertionSortCmpFunc_api_Move'.A 1 rec (slices_partialInsertionSortCmpFunc_api_Move'.fin N) segFuel [.code (bodyOf Try.f99)] (initSt Try.f99 (encArgs slices_partialInsertionSortCmpFunc_api_Move'.as x) (encMem slices_partialInsertionSortCmpFunc_api_Move'.as x)) = slices_partialInsertionSortCmpFunc_api_Move'.e N (fun i_ j_ data2 => rec slices_partialInsertionSortCmpFunc_api_Move'.k0 (slices_partialInsertionSortCmpFunc_api_Move'.st0 x.1 x.2.1 x.2.2.1 i_ j_ data2)) (fun i_ j_ data2 => rec slices_partialInsertionSortCmpFunc_api_Move'.k1 (slices_partialInsertionSortCmpFunc_api_Move'.st1 x.1 x.2.1 x.2.2.1 i_ j_ data2)) (fun i_ j_ j_2 data2 => rec slices_partialInsertionSortCmpFunc_api_Move'.k2 (slices_partialInsertionSortCmpFunc_api_Move'.st2 x.1 x.2.1 x.2.2.1 i_ j_ j_2 data2)) (fun i_ j_ j_2 data2 => rec slices_partialInsertionSortCmpFunc_api_Move'.k3 (slices_partialInsertionSortCmpFunc_api_Move'.st3 x.1 x.2.1 x.2.2.1 i_ j_ j_2 data2)) x.1 x.2.1 x.2.2.1 := by kernel_rfl
theorem slices_partialInsertionSortCmpFunc_api_Move'.runs (N : Nat) (data : LMv) (a_ : Int) (b_ : Int) : ∀ n, (∀ (i_ : Int) (j_ : Int) (data2 : LMv), run tb (slices_partialInsertionSortCmpFunc_api_Move'.G N) slices_partialInsertionSortCmpFunc_api_Move'.A 1 (slices_partialInsertionSortCmpFunc_api_Move'.fin N) n slices_partialInsertionSortCmpFunc_api_Move'.k0 (slices_partialInsertionSortCmpFunc_api_Move'.st0 data a_ b_ i_ j_ data2) = slices_partialInsertionSortCmpFunc_api_Move'.l0 N data a_ b_ n i_ j_ data2) ∧ (∀ (i_ : Int) (j_ : Int) (data2 : LMv), run tb (slices_partialInsertionSortCmpFunc_api_Move'.G N) slices_partialInsertionSortCmpFunc_api_Move'.A 1 (slices_partialInsertionSortCmpFunc_api_Move'.fin N) n slices_partialInsertionSortCmpFunc_api_Move'.k1 (slices_partialInsertionSortCmpFunc_api_Move'.st1 data a_ b_ i_ j_ data2) = slices_partialInsertionSortCmpFunc_api_Move'.l1 N data a_ b_ n i_ j_ data2) ∧ (∀ (i_ : Int) (j_ : Int) (j_2 : Int) (data2 : LMv), run tb (slices_partialInsertionSortCmpFunc_api_Move'.G N) slices_partialInsertionSortCmpFunc_api_Move'.A 1 (slices_partialInsertionSortCmpFunc_api_Move'.fin N) n slices_partialInsertionSortCmpFunc_api_Move'.k2 (slices_partialInsertionSortCmpFunc_api_Move'.st2 data a_ b_ i_ j_ j_2 data2) = slices_partialInsertionSortCmpFunc_api_Move'.l2 N data a_ b_ n i_ j_ j_2 data2) ∧ (∀ (i_ : Int) (j_ : Int) (j_2 : Int) (data2 : LMv), run tb (slices_partialInsertionSortCmpFunc_api_Move'.G N) slices_partialInsertionSortCmpFunc_api_Move'.A 1 (slices_partialInsertionSortCmpFunc_api_Move'.fin N) n slices_partialInsertionSortCmpFunc_api_Move'.k3 (slices_partialInsertionSortCmpFunc_api_Move'.st3 data a_ b_ i_ j_ j_2 data2) = slices_partialInsertionSortCmpFunc_api_Move'.l3 N data a_ b_ n i_ j_ j_2 data2)
  | 0 => ⟨fun _ _ _ => rfl, fun _ _ _ => rfl, fun _ _ _ _ => rfl, fun _ _ _ _ => rfl⟩
  | n + 1 => by
    obtain ⟨h0, h1, h2, h3⟩ := slices_partialInsertionSortCmpFunc_api_Move'.runs N data a_ b_ n
    have e0 : (fun (i_ : Int) (j_ : Int) (data2 : LMv) => run tb (slices_partialInsertionSortCmpFunc_api_Move'.G N) slices_partialInsertionSortCmpFunc_api_Move'.A 1 (slices_partialInsertionSortCmpFunc_api_Move'.fin N) n slices_partialInsertionSortCmpFunc_api_Move'.k0 (slices_partialInsertionSortCmpFunc_api_Move'.st0 data a_ b_ i_ j_ data2)) = slices_partialInsertionSortCmpFunc_api_Move'.l0 N data a_ b_ n := by funext i_ j_ data2; exact h0 i_ j_ data2
    have e1 : (fun (i_ : Int) (j_ : Int) (data2 : LMv) => run tb (slices_partialInsertionSortCmpFunc_api_Move'.G N) slices_partialInsertionSortCmpFunc_api_Move'.A 1 (slices_partialInsertionSortCmpFunc_api_Move'.fin N) n slices_partialInsertionSortCmpFunc_api_Move'.k1 (slices_partialInsertionSortCmpFunc_api_Move'.st1 data a_ b_ i_ j_ data2)) = slices_partialInsertionSortCmpFunc_api_Move'.l1 N data a_ b_ n := by funext i_ j_ data2; exact h1 i_ j_ data2
    have e2 : (fun (i_ : Int) (j_ : Int) (j_2 : Int) (data2 : LMv) => run tb (slices_partialInsertionSortCmpFunc_api_Move'.G N) slices_partialInsertionSortCmpFunc_api_Move'.A 1 (slices_partialInsertionSortCmpFunc_api_Move'.fin N) n slices_partialInsertionSortCmpFunc_api_Move'.k2 (slices_partialInsertionSortCmpFunc_api_Move'.st2 data a_ b_ i_ j_ j_2 data2)) = slices_partialInsertionSortCmpFunc_api_Move'.l2 N data a_ b_ n := by funext i_ j_ j_2 data2; exact h2 i_ j_ j_2 data2
    have e3 : (fun (i_ : Int) (j_ : Int) (j_2 : Int) (data2 : LMv) => run tb (slices_partialInsertionSortCmpFunc_api_Move'.G N) slices_partialInsertionSortCmpFunc_api_Move'.A 1 (slices_partialInsertionSortCmpFunc_api_Move'.fin N) n slices_partialInsertionSortCmpFunc_api_Move'.k3 (slices_partialInsertionSortCmpFunc_api_Move'.st3 data a_ b_ i_ j_ j_2 data2)) = slices_partialInsertionSortCmpFunc_api_Move'.l3 N data a_ b_ n := by funext i_ j_ j_2 data2; exact h3 i_ j_ j_2 data2
    have g0 : (∀ (i_ : Int) (j_ : Int) (data2 : LMv), run tb (slices_partialInsertionSortCmpFunc_api_Move'.G N) slices_partialInsertionSortCmpFunc_api_Move'.A 1 (slices_partialInsertionSortCmpFunc_api_Move'.fin N) (n + 1) slices_partialInsertionSortCmpFunc_api_Move'.k0 (slices_partialInsertionSortCmpFunc_api_Move'.st0 data a_ b_ i_ j_ data2) = slices_partialInsertionSortCmpFunc_api_Move'.l0 N data a_ b_ (n + 1) i_ j_ data2) := by
      intro i_ j_ data2
      exact (run_succ (by kernel_rfl)).trans ((slices_partialInsertionSortCmpFunc_api_Move'.step0 N _ data a_ b_ i_ j_ data2).trans ((congr (congr (congr (congrArg (fun r0 r1 r2 r3 => slices_partialInsertionSortCmpFunc_api_Move'.s0 N data a_ b_ r0 r1 r2 r3 i_ j_ data2) e0) e1) e2) e3).trans (slices_partialInsertionSortCmpFunc_api_Move'.l0_s N data a_ b_ n i_ j_ data2).symm))
    have g1 : (∀ (i_ : Int) (j_ : Int) (data2 : LMv), run tb (slices_partialInsertionSortCmpFunc_api_Move'.G N) slices_partialInsertionSortCmpFunc_api_Move'.A 1 (slices_partialInsertionSortCmpFunc_api_Move'.fin N) (n + 1) slices_partialInsertionSortCmpFunc_api_Move'.k1 (slices_partialInsertionSortCmpFunc_api_Move'.st1 data a_ b_ i_ j_ data2) = slices_partialInsertionSortCmpFunc_api_Move'.l1 N data a_ b_ (n + 1) i_ j_ data2) := by
      intro i_ j_ data2
      exact (run_succ (by kernel_rfl)).trans ((slices_partialInsertionSortCmpFunc_api_Move'.step1 N _ data a_ b_ i_ j_ data2).trans ((congr (congr (congr (congrArg (fun r0 r1 r2 r3 => slices_partialInsertionSortCmpFunc_api_Move'.s1 N data a_ b_ r0 r1 r2 r3 i_ j_ data2) e0) e1) e2) e3).trans (slices_partialInsertionSortCmpFunc_api_Move'.l1_s N data a_ b_ n i_ j_ data2).symm))
    have g2 : (∀ (i_ : Int) (j_ : Int) (j_2 : Int) (data2 : LMv), run tb (slices_partialInsertionSortCmpFunc_api_Move'.G N) slices_partialInsertionSortCmpFunc_api_Move'.A 1 (slices_partialInsertionSortCmpFunc_api_Move'.fin N) (n + 1) slices_partialInsertionSortCmpFunc_api_Move'.k2 (slices_partialInsertionSortCmpFunc_api_Move'.st2 data a_ b_ i_ j_ j_2 data2) = slices_partialInsertionSortCmpFunc_api_Move'.l2 N data a_ b_ (n + 1) i_ j_ j_2 data2) := by
      intro i_ j_ j_2 data2
      exact (run_succ (by kernel_rfl)).trans ((slices_partialInsertionSortCmpFunc_api_Move'.step2 N _ data a_ b_ i_ j_ j_2 data2).trans ((congr (congr (congr (congrArg (fun r0 r1 r2 r3 => slices_partialInsertionSortCmpFunc_api_Move'.s2 N data a_ b_ r0 r1 r2 r3 i_ j_ j_2 data2) e0) e1) e2) e3).trans (slices_partialInsertionSortCmpFunc_api_Move'.l2_s N data a_ b_ n i_ j_ j_2 data2).symm))
    have g3 : (∀ (i_ : Int) (j_ : Int) (j_2 : Int) (data2 : LMv), run tb (slices_partialInsertionSortCmpFunc_api_Move'.G N) slices_partialInsertionSortCmpFunc_api_Move'.A 1 (slices_partialInsertionSortCmpFunc_api_Move'.fin N) (n + 1) slices_partialInsertionSortCmpFunc_api_Move'.k3 (slices_partialInsertionSortCmpFunc_api_Move'.st3 data a_ b_ i_ j_ j_2 data2) = slices_partialInsertionSortCmpFunc_api_Move'.l3 N data a_ b_ (n + 1) i_ j_ j_2 data2) := by
      intro i_ j_ j_2 data2
      exact (run_succ (by kernel_rfl)).trans ((slices_partialInsertionSortCmpFunc_api_Move'.step3 N _ data a_ b_ i_ j_ j_2 data2).trans ((congr (congr (congr (congrArg (fun r0 r1 r2 r3 => slices_partialInsertionSortCmpFunc_api_Move'.s3 N data a_ b_ r0 r1 r2 r3 i_ j_ j_2 data2) e0) e1) e2) e3).trans (slices_partialInsertionSortCmpFunc_api_Move'.l3_s N data a_ b_ n i_ j_ j_2 data2).symm))
    exact ⟨g0, g1, g2, g3⟩
theorem slices_partialInsertionSortCmpFunc_api_Move'.ok (N : Nat) : FnOk Try.prog 99 (slices_partialInsertionSortCmpFunc_api_Move'.D N) := by
  refine FnOk_of tb_ok (Checked.mixed Try.checked) ⟨Try.f99, Try.func99, by kernel_rfl, by kernel_rfl, fun x y h => ⟨slices_partialInsertionSortCmpFunc_api_Move'.G N, slices_partialInsertionSortCmpFunc_api_Move'.A, N, gamOf_ok (by simp only [List.forall_mem_cons, List.not_mem_nil, false_implies, implies_true, and_true]; exact ⟨moves_compare.ok N, moves_compare.fit N⟩), ?_⟩⟩ (slices_partialInsertionSortCmpFunc_api_Move'.fit N)
  rw [absFn_n (n0 := 1) rfl (by kernel_rfl)]
  refine (slices_partialInsertionSortCmpFunc_api_Move'.entry N (run tb (slices_partialInsertionSortCmpFunc_api_Move'.G N) slices_partialInsertionSortCmpFunc_api_Move'.A 1 (slices_partialInsertionSortCmpFunc_api_Move'.fin N) N) x).trans ?_
  have e0 : (fun (i_ : Int) (j_ : Int) (data2 : LMv) => run tb (slices_partialInsertionSortCmpFunc_api_Move'.G N) slices_partialInsertionSortCmpFunc_api_Move'.A 1 (slices_partialInsertionSortCmpFunc_api_Move'.fin N) N slices_partialInsertionSortCmpFunc_api_Move'.k0 (slices_partialInsertionSortCmpFunc_api_Move'.st0 x.1 x.2.1 x.2.2.1 i_ j_ data2)) = slices_partialInsertionSortCmpFunc_api_Move'.l0 N x.1 x.2.1 x.2.2.1 N := by funext i_ j_ data2; exact (slices_partialInsertionSortCmpFunc_api_Move'.runs N x.1 x.2.1 x.2.2.1 N).1 i_ j_ data2
  have e1 : (fun (i_ : Int) (j_ : Int) (data2 : LMv) => run tb (slices_partialInsertionSortCmpFunc_api_Move'.G N) slices_partialInsertionSortCmpFunc_api_Move'.A 1 (slices_partialInsertionSortCmpFunc_api_Move'.fin N) N slices_partialInsertionSortCmpFunc_api_Move'.k1 (slices_partialInsertionSortCmpFunc_api_Move'.st1 x.1 x.2.1 x.2.2.1 i_ j_ data2)) = slices_partialInsertionSortCmpFunc_api_Move'.l1 N x.1 x.2.1 x.2.2.1 N := by funext i_ j_ data2; exact (slices_partialInsertionSortCmpFunc_api_Move'.runs N x.1 x.2.1 x.2.2.1 N).2.1 i_ j_ data2
  have e2 : (fun (i_ : Int) (j_ : Int) (j_2 : Int) (data2 : LMv) => run tb (slices_partialInsertionSortCmpFunc_api_Move'.G N) slices_partialInsertionSortCmpFunc_api_Move'.A 1 (slices_partialInsertionSortCmpFunc_api_Move'.fin N) N slices_partialInsertionSortCmpFunc_api_Move'.k2 (slices_partialInsertionSortCmpFunc_api_Move'.st2 x.1 x.2.1 x.2.2.1 i_ j_ j_2 data2)) = slices_partialInsertionSortCmpFunc_api_Move'.l2 N x.1 x.2.1 x.2.2.1 N := by funext i_ j_ j_2 data2; exact (slices_partialInsertionSortCmpFunc_api_Move'.runs N x.1 x.2.1 x.2.2.1 N).2.2.1 i_ j_ j_2 data2
  have e3 : (fun (i_ : Int) (j_ : Int) (j_2 : Int) (data2 : LMv) => run tb (slices_partialInsertionSortCmpFunc_api_Move'.G N) slices_partialInsertionSortCmpFunc_api_Move'.A 1 (slices_partialInsertionSortCmpFunc_api_Move'.fin N) N slices_partialInsertionSortCmpFunc_api_Move'.k3 (slices_partialInsertionSortCmpFunc_api_Move'.st3 x.1 x.2.1 x.2.2.1 i_ j_ j_2 data2)) = slices_partialInsertionSortCmpFunc_api_Move'.l3 N x.1 x.2.1 x.2.2.1 N := by funext i_ j_ j_2 data2; exact (slices_partialInsertionSortCmpFunc_api_Move'.runs N x.1 x.2.1 x.2.2.1 N).2.2.2 i_ j_ j_2 data2
  have h' : (slices_partialInsertionSortCmpFunc_api_Move'.D N).f x = slices_partialInsertionSortCmpFunc_api_Move'.e N (slices_partialInsertionSortCmpFunc_api_Move'.l0 N x.1 x.2.1 x.2.2.1 N) (slices_partialInsertionSortCmpFunc_api_Move'.l1 N x.1 x.2.1 x.2.2.1 N) (slices_partialInsertionSortCmpFunc_api_Move'.l2 N x.1 x.2.1 x.2.2.1 N) (slices_partialInsertionSortCmpFunc_api_Move'.l3 N x.1 x.2.1 x.2.2.1 N) x.1 x.2.1 x.2.2.1 := by kernel_rfl
  exact (congr (congr (congr (congrArg (fun r0 r1 r2 r3 => slices_partialInsertionSortCmpFunc_api_Move'.e N r0 r1 r2 r3 x.1 x.2.1 x.2.2.1) e0) e1) e2) e3).trans (h'.symm.trans h)
end
end Go.Proofs.Ytiacnffpgdikoaa.Am
