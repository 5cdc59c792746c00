/- PRINTED by gen.py: the abstract machine evaluates the loaded code to these functions. -/
import Derived.Test.YtjmcjiklfhmdlaaFn
import Derived.Test.YtjmcjiklfhmdlaaChecked
import Derived.Eval
set_option linter.unusedVariables false
set_option linter.unusedSimpArgs false
namespace Go.Proofs.Ytjmcjiklfhmdlaa.Am
open Go
set_option maxRecDepth 100000
def ti3 : TI := ⟨.int .i64, 1, 8, some (.int .i64), [.int .i64 0], false⟩
def ti4 : TI := ⟨.bool, 1, 1, some .bool, [.bool false], false⟩
def ti5 : TI := ⟨.int .u8, 1, 1, some (.int .u8), [.int .u8 0], false⟩
def ti9 : TI := ⟨.str, 1, 16, some .str, [.str (⟨#[]⟩ : ByteArray)], false⟩
def ti22 : TI := ⟨.int .i64, 1, 8, some (.int .i64), [.int .i64 0], false⟩
def ti30 : TI := ⟨.slice 3, 1, 24, some (.slice 3 (.int .i64)), [.nilS], false⟩
def ti33 : TI := ⟨.slice 108, 1, 24, some (.slice 108 (.prod (.int .u8) (.prod (.int .i64) (.prod (.int .i64) (.slice 169 (.prod (.int .i64) (.prod (.int .i64) (.prod (.int .i64) (.int .i64))))))))), [.nilS], false⟩
def ti34 : TI := ⟨.slice 110, 1, 24, some (.slice 110 (.prod (.int .i64) (.prod (.int .i64) (.prod (.int .i64) .bool)))), [.nilS], false⟩
def ti36 : TI := ⟨.struct [(0, 9), (1, 3), (2, 3), (3, 33), (4, 30), (5, 4), (6, 4), (7, 34), (8, 3), (9, 3), (10, 3)], 11, 136, some (.prod .str (.prod (.int .i64) (.prod (.int .i64) (.prod (.slice 108 (.prod (.int .u8) (.prod (.int .i64) (.prod (.int .i64) (.slice 169 (.prod (.int .i64) (.prod (.int .i64) (.prod (.int .i64) (.int .i64))))))))) (.prod (.slice 3 (.int .i64)) (.prod .bool (.prod .bool (.prod (.slice 110 (.prod (.int .i64) (.prod (.int .i64) (.prod (.int .i64) .bool)))) (.prod (.int .i64) (.prod (.int .i64) (.int .i64))))))))))), [.str (⟨#[]⟩ : ByteArray), .int .i64 0, .int .i64 0, .nilS, .nilS, .bool false, .bool false, .nilS, .int .i64 0, .int .i64 0, .int .i64 0], false⟩
def ti37 : TI := ⟨.array 2 30, 2, 48, some (.prod (.slice 3 (.int .i64)) (.slice 3 (.int .i64))), [.nilS, .nilS], false⟩
def ti39 : TI := ⟨.struct [(0, 30), (1, 37), (3, 3), (4, 3)], 5, 88, some (.prod (.slice 3 (.int .i64)) (.prod (.prod (.slice 3 (.int .i64)) (.slice 3 (.int .i64))) (.prod (.int .i64) (.int .i64)))), [.nilS, .nilS, .nilS, .int .i64 0, .int .i64 0], false⟩
def ti101 : TI := ⟨.slice 22, 1, 24, some (.slice 22 (.int .i64)), [.nilS], false⟩
def ti103 : TI := ⟨.other, 1, 8, none, [.nilF], false⟩
def ti106 : TI := ⟨.slice 169, 1, 24, some (.slice 169 (.prod (.int .i64) (.prod (.int .i64) (.prod (.int .i64) (.int .i64))))), [.nilS], false⟩
def ti108 : TI := ⟨.struct [(0, 5), (1, 3), (2, 3), (3, 106)], 4, 48, some (.prod (.int .u8) (.prod (.int .i64) (.prod (.int .i64) (.slice 169 (.prod (.int .i64) (.prod (.int .i64) (.prod (.int .i64) (.int .i64)))))))), [.int .u8 0, .int .i64 0, .int .i64 0, .nilS], false⟩
def ti110 : TI := ⟨.struct [(0, 3), (1, 3), (2, 3), (3, 4)], 4, 32, some (.prod (.int .i64) (.prod (.int .i64) (.prod (.int .i64) .bool))), [.int .i64 0, .int .i64 0, .int .i64 0, .bool false], false⟩
def ti169 : TI := ⟨.struct [(0, 3), (1, 3), (2, 3), (3, 3)], 4, 32, some (.prod (.int .i64) (.prod (.int .i64) (.prod (.int .i64) (.int .i64)))), [.int .i64 0, .int .i64 0, .int .i64 0, .int .i64 0], false⟩
def tbt : TT := (.node 36 ti36 (.node 22 ti22 (.node 5 ti5 (.node 4 ti4 (.node 3 ti3 .nil .nil) .nil) (.node 9 ti9 .nil .nil)) (.node 33 ti33 (.node 30 ti30 .nil .nil) (.node 34 ti34 .nil .nil))) (.node 106 ti106 (.node 101 ti101 (.node 39 ti39 (.node 37 ti37 .nil .nil) .nil) (.node 103 ti103 .nil .nil)) (.node 110 ti110 (.node 108 ti108 .nil .nil) (.node 169 ti169 .nil .nil))))
def tb : Tab := tbt.get
theorem ti3_ok : TIok Try.prog tb 3 ti3 := TIok_mk (by kernel_rfl) (by kernel_rfl) ⟨rfl, rfl⟩ (by kernel_rfl) rfl (by kernel_rfl)
theorem ti4_ok : TIok Try.prog tb 4 ti4 := TIok_mk (by kernel_rfl) (by kernel_rfl) ⟨rfl, rfl⟩ (by kernel_rfl) rfl (by kernel_rfl)
theorem ti5_ok : TIok Try.prog tb 5 ti5 := TIok_mk (by kernel_rfl) (by kernel_rfl) ⟨rfl, rfl⟩ (by kernel_rfl) rfl (by kernel_rfl)
theorem ti9_ok : TIok Try.prog tb 9 ti9 := TIok_mk (by kernel_rfl) (by kernel_rfl) ⟨rfl, rfl⟩ (by kernel_rfl) rfl (by kernel_rfl)
theorem ti22_ok : TIok Try.prog tb 22 ti22 := TIok_mk (by kernel_rfl) (by kernel_rfl) ⟨rfl, rfl⟩ (by kernel_rfl) rfl (by kernel_rfl)
theorem ti30_ok : TIok Try.prog tb 30 ti30 := TIok_mk (by kernel_rfl) (by kernel_rfl) ⟨rfl, rfl⟩ (by kernel_rfl) rfl (by kernel_rfl)
theorem ti33_ok : TIok Try.prog tb 33 ti33 := TIok_mk (by kernel_rfl) (by kernel_rfl) ⟨rfl, rfl⟩ (by kernel_rfl) rfl (by kernel_rfl)
theorem ti34_ok : TIok Try.prog tb 34 ti34 := TIok_mk (by kernel_rfl) (by kernel_rfl) ⟨rfl, rfl⟩ (by kernel_rfl) rfl (by kernel_rfl)
theorem ti36_ok : TIok Try.prog tb 36 ti36 := TIok_mk (by kernel_rfl) (by kernel_rfl) ⟨rfl, rfl⟩ (by kernel_rfl) rfl (by kernel_rfl)
theorem ti37_ok : TIok Try.prog tb 37 ti37 := TIok_mk (by kernel_rfl) (by kernel_rfl) ⟨rfl, rfl⟩ (by kernel_rfl) rfl (by kernel_rfl)
theorem ti39_ok : TIok Try.prog tb 39 ti39 := TIok_mk (by kernel_rfl) (by kernel_rfl) ⟨rfl, rfl⟩ (by kernel_rfl) rfl (by kernel_rfl)
theorem ti101_ok : TIok Try.prog tb 101 ti101 := TIok_mk (by kernel_rfl) (by kernel_rfl) ⟨rfl, rfl⟩ (by kernel_rfl) rfl (by kernel_rfl)
theorem ti103_ok : TIok Try.prog tb 103 ti103 := TIok_mk (by kernel_rfl) (by kernel_rfl) trivial (by kernel_rfl) rfl (by kernel_rfl)
theorem ti106_ok : TIok Try.prog tb 106 ti106 := TIok_mk (by kernel_rfl) (by kernel_rfl) ⟨rfl, rfl⟩ (by kernel_rfl) rfl (by kernel_rfl)
theorem ti108_ok : TIok Try.prog tb 108 ti108 := TIok_mk (by kernel_rfl) (by kernel_rfl) ⟨rfl, rfl⟩ (by kernel_rfl) rfl (by kernel_rfl)
theorem ti110_ok : TIok Try.prog tb 110 ti110 := TIok_mk (by kernel_rfl) (by kernel_rfl) ⟨rfl, rfl⟩ (by kernel_rfl) rfl (by kernel_rfl)
theorem ti169_ok : TIok Try.prog tb 169 ti169 := TIok_mk (by kernel_rfl) (by kernel_rfl) ⟨rfl, rfl⟩ (by kernel_rfl) rfl (by kernel_rfl)
theorem tb_ok : TabOk Try.prog tb := TT.ok ⟨ti36_ok, ⟨ti22_ok, ⟨ti5_ok, ⟨ti4_ok, ⟨ti3_ok, trivial, trivial⟩, trivial⟩, ⟨ti9_ok, trivial, trivial⟩⟩, ⟨ti33_ok, ⟨ti30_ok, trivial, trivial⟩, ⟨ti34_ok, trivial, trivial⟩⟩⟩, ⟨ti106_ok, ⟨ti101_ok, ⟨ti39_ok, ⟨ti37_ok, trivial, trivial⟩, trivial⟩, ⟨ti103_ok, trivial, trivial⟩⟩, ⟨ti110_ok, ⟨ti108_ok, trivial, trivial⟩, ⟨ti169_ok, trivial, trivial⟩⟩⟩⟩
/-! ### f22: gamehall/gamehallkeep1.three -/
def gamehallkeep1_three.as : List MK := []
def gamehallkeep1_three.rs : List (Bool × HT) := [(true, (.prod (.d .str) (.prod (.d (.int .i64)) (.prod (.d (.int .i64)) (.prod (.own 108 (.prod (.int .u8) (.prod (.int .i64) (.prod (.int .i64) (.slice 169 (.prod (.int .i64) (.prod (.int .i64) (.prod (.int .i64) (.int .i64))))))))) (.prod (.own 3 (.int .i64)) (.prod (.d .bool) (.prod (.d .bool) (.prod (.own 110 (.prod (.int .i64) (.prod (.int .i64) (.prod (.int .i64) .bool)))) (.d (.prod (.int .i64) (.prod (.int .i64) (.int .i64)))))))))))))]
def gamehallkeep1_three.lc : List AC := []
def gamehallkeep1_three.D (N : Nat) : DFn := ⟨gamehallkeep1_three.as, gamehallkeep1_three.rs, (ByteArray × (Int × (Int × ((List (Int × (Int × (Int × (List (Int × (Int × (Int × Int)))))))) × ((List Int) × (Bool × (Bool × ((List (Int × (Int × (Int × Bool)))) × (Int × (Int × Int)))))))))), fun x => gamehallkeep1_three N, fun r o => r.1, fun b => (b, ()), fun b => ()⟩
theorem gamehallkeep1_three.fit (N : Nat) : (gamehallkeep1_three.D N).Fit := ⟨fun _ _ => rfl, fun _ _ => rfl, by kernel_rfl⟩
noncomputable def gamehallkeep1_three.G (N : Nat) : Gam := gamOf []
def gamehallkeep1_three.A : Nat → Option LoopAnn := fun _ => none
noncomputable def gamehallkeep1_three.fin (N : Nat) : St → Option (ByteArray × (Int × (Int × ((List (Int × (Int × (Int × (List (Int × (Int × (Int × Int)))))))) × ((List Int) × (Bool × (Bool × ((List (Int × (Int × (Int × Bool)))) × (Int × (Int × Int)))))))))) := resK tb Try.f22.results.toList (decRes (gamehallkeep1_three.D N) gamehallkeep1_three.lc)
theorem gamehallkeep1_three.entry (N : Nat) (rec : List Item → St → Option (ByteArray × (Int × (Int × ((List (Int × (Int × (Int × (List (Int × (Int × (Int × Int)))))))) × ((List Int) × (Bool × (Bool × ((List (Int × (Int × (Int × Bool)))) × (Int × (Int × Int))))))))))) (x : (argH gamehallkeep1_three.as).den) : seg tb (gamehallkeep1_three.G N) gamehallkeep1_three.A 0 rec (gamehallkeep1_three.fin N) segFuel [.code (bodyOf Try.f22)] (initSt Try.f22 (encArgs gamehallkeep1_three.as x) (encMem gamehallkeep1_three.as x)) = gamehallkeep1_three.e N := by kernel_rfl
theorem gamehallkeep1_three.ok (N : Nat) : FnOk Try.prog 22 (gamehallkeep1_three.D N) := by
  refine FnOk_of tb_ok (Checked.mixed Try.checked) ⟨Try.f22, Try.func22, by kernel_rfl, by kernel_rfl, fun x y h => ⟨gamehallkeep1_three.G N, gamehallkeep1_three.A, N, gamOf_ok (fun p hp => nomatch hp), ?_⟩⟩ (gamehallkeep1_three.fit N)
  rw [absFn_n (n0 := 0) rfl (by kernel_rfl)]
  exact (gamehallkeep1_three.entry N _ x).trans h
/-! ### f23: gamehall/gamehallkeep1.near -/
def gamehallkeep1_near.as : List MK := []
def gamehallkeep1_near.rs : List (Bool × HT) := [(true, (.prod (.own 3 (.int .i64)) (.prod (.prod (.own 3 (.int .i64)) (.own 3 (.int .i64))) (.d (.prod (.int .i64) (.int .i64))))))]
def gamehallkeep1_near.lc : List AC := []
def gamehallkeep1_near.D (N : Nat) : DFn := ⟨gamehallkeep1_near.as, gamehallkeep1_near.rs, ((List Int) × (((List Int) × (List Int)) × (Int × Int))), fun x => gamehallkeep1_near N, fun r o => r.1, fun b => (b, ()), fun b => ()⟩
theorem gamehallkeep1_near.fit (N : Nat) : (gamehallkeep1_near.D N).Fit := ⟨fun _ _ => rfl, fun _ _ => rfl, by kernel_rfl⟩
noncomputable def gamehallkeep1_near.G (N : Nat) : Gam := gamOf []
def gamehallkeep1_near.A : Nat → Option LoopAnn := fun _ => none
noncomputable def gamehallkeep1_near.fin (N : Nat) : St → Option ((List Int) × (((List Int) × (List Int)) × (Int × Int))) := resK tb Try.f23.results.toList (decRes (gamehallkeep1_near.D N) gamehallkeep1_near.lc)
theorem gamehallkeep1_near.entry (N : Nat) (rec : List Item → St → Option ((List Int) × (((List Int) × (List Int)) × (Int × Int)))) (x : (argH gamehallkeep1_near.as).den) : seg tb (gamehallkeep1_near.G N) gamehallkeep1_near.A 0 rec (gamehallkeep1_near.fin N) segFuel [.code (bodyOf Try.f23)] (initSt Try.f23 (encArgs gamehallkeep1_near.as x) (encMem gamehallkeep1_near.as x)) = gamehallkeep1_near.e N := by kernel_rfl
theorem gamehallkeep1_near.ok (N : Nat) : FnOk Try.prog 23 (gamehallkeep1_near.D N) := by
  refine FnOk_of tb_ok (Checked.mixed Try.checked) ⟨Try.f23, Try.func23, by kernel_rfl, by kernel_rfl, fun x y h => ⟨gamehallkeep1_near.G N, gamehallkeep1_near.A, N, gamOf_ok (fun p hp => nomatch hp), ?_⟩⟩ (gamehallkeep1_near.fit N)
  rw [absFn_n (n0 := 0) rfl (by kernel_rfl)]
  exact (gamehallkeep1_near.entry N _ x).trans h
/-! ### f91: gamehall/rules.Name -/
def rules_Name.as : List MK := [.d false .str]
def rules_Name.rs : List (Bool × HT) := [(false, (.d .bool))]
def rules_Name.lc : List AC := []
def rules_Name.D (N : Nat) : DFn := ⟨rules_Name.as, rules_Name.rs, Bool, fun x => rules_Name N x.1, fun r o => r.1, fun b => (b, ()), fun b => ()⟩
theorem rules_Name.fit (N : Nat) : (rules_Name.D N).Fit := ⟨fun _ _ => rfl, fun _ _ => rfl, by kernel_rfl⟩
noncomputable def rules_Name.G (N : Nat) : Gam := gamOf []
def rules_Name.A : Nat → Option LoopAnn := fun k => bif Nat.beq k 0 then some ⟨[0, 22, 23], [], [], [], [], 0, false⟩ else none
noncomputable def rules_Name.fin (N : Nat) : St → Option Bool := resK tb Try.f91.results.toList (decRes (rules_Name.D N) rules_Name.lc)
noncomputable def rules_Name.k0 : List Item := stackAt [.r, .r, .l, .r, .b] (bodyOf Try.f91) []
def rules_Name.st0 (s_ : ByteArray) (t23_ : Int) : St := ⟨[.one (.str s_)] ++ List.replicate 21 (.one .any) ++ [.one (.int .i64 (s_.size : Int)), .one (.int .i64 t23_)] ++ List.replicate 25 (.one .any), []⟩
theorem rules_Name.step0 (N : Nat) (rec : List Item → St → Option Bool) (s_ : ByteArray) (t23_ : Int) : seg tb (rules_Name.G N) rules_Name.A 0 rec (rules_Name.fin N) segFuel (loopBody rules_Name.k0) (rules_Name.st0 s_ t23_) = rules_Name.s0 N s_ (fun t23_ => rec rules_Name.k0 (rules_Name.st0 s_ t23_)) t23_ := by kernel_rfl
theorem rules_Name.entry (N : Nat) (rec : List Item → St → Option Bool) (x : (argH rules_Name.as).den) : seg tb (rules_Name.G N) rules_Name.A 0 rec (rules_Name.fin N) segFuel [.code (bodyOf Try.f91)] (initSt Try.f91 (encArgs rules_Name.as x) (encMem rules_Name.as x)) = rules_Name.e N (fun t23_ => rec rules_Name.k0 (rules_Name.st0 x.1 t23_)) x.1 := by kernel_rfl
theorem rules_Name.runs (N : Nat) (s_ : ByteArray) : ∀ n, (∀ (t23_ : Int), run tb (rules_Name.G N) rules_Name.A 0 (rules_Name.fin N) n rules_Name.k0 (rules_Name.st0 s_ t23_) = rules_Name.l0 N s_ n t23_)
  | 0 => fun _ => rfl
  | n + 1 => by
    have h0 := rules_Name.runs N s_ n
    have e0 : (fun (t23_ : Int) => run tb (rules_Name.G N) rules_Name.A 0 (rules_Name.fin N) n rules_Name.k0 (rules_Name.st0 s_ t23_)) = rules_Name.l0 N s_ n := by funext t23_; exact h0 t23_
    have g0 : (∀ (t23_ : Int), run tb (rules_Name.G N) rules_Name.A 0 (rules_Name.fin N) (n + 1) rules_Name.k0 (rules_Name.st0 s_ t23_) = rules_Name.l0 N s_ (n + 1) t23_) := by
      intro t23_
      exact (run_succ (by kernel_rfl)).trans ((rules_Name.step0 N _ s_ t23_).trans ((congrArg (fun r0 => rules_Name.s0 N s_ r0 t23_) e0).trans (rules_Name.l0_s N s_ n t23_).symm))
    exact g0
theorem rules_Name.ok (N : Nat) : FnOk Try.prog 91 (rules_Name.D N) := by
  refine FnOk_of tb_ok (Checked.mixed Try.checked) ⟨Try.f91, Try.func91, by kernel_rfl, by kernel_rfl, fun x y h => ⟨rules_Name.G N, rules_Name.A, N, gamOf_ok (fun p hp => nomatch hp), ?_⟩⟩ (rules_Name.fit N)
  rw [absFn_n (n0 := 0) rfl (by kernel_rfl)]
  refine (rules_Name.entry N (run tb (rules_Name.G N) rules_Name.A 0 (rules_Name.fin N) N) x).trans ?_
  have e0 : (fun (t23_ : Int) => run tb (rules_Name.G N) rules_Name.A 0 (rules_Name.fin N) N rules_Name.k0 (rules_Name.st0 x.1 t23_)) = rules_Name.l0 N x.1 N := by funext t23_; exact (rules_Name.runs N x.1 N) t23_
  have h' : (rules_Name.D N).f x = rules_Name.e N (rules_Name.l0 N x.1 N) x.1 := by kernel_rfl
  exact (congrArg (fun r0 => rules_Name.e N r0 x.1) e0).trans (h'.symm.trans h)
/-! ### f120: gamehall/rules.way -/
def rules_way.as : List MK := [.d true (.prod (.int .i64) (.prod (.int .i64) (.prod (.int .i64) (.int .i64))))]
def rules_way.rs : List (Bool × HT) := [(false, (.d (.int .i64)))]
def rules_way.lc : List AC := []
def rules_way.D (N : Nat) : DFn := ⟨rules_way.as, rules_way.rs, Int, fun x => rules_way N x.1, fun r o => r.1, fun b => (b, ()), fun b => ()⟩
theorem rules_way.fit (N : Nat) : (rules_way.D N).Fit := ⟨fun _ _ => rfl, fun _ _ => rfl, by kernel_rfl⟩
noncomputable def rules_way.G (N : Nat) : Gam := gamOf []
def rules_way.A : Nat → Option LoopAnn := fun _ => none
noncomputable def rules_way.fin (N : Nat) : St → Option Int := resK tb Try.f120.results.toList (decRes (rules_way.D N) rules_way.lc)
theorem rules_way.entry (N : Nat) (rec : List Item → St → Option Int) (x : (argH rules_way.as).den) : seg tb (rules_way.G N) rules_way.A 0 rec (rules_way.fin N) segFuel [.code (bodyOf Try.f120)] (initSt Try.f120 (encArgs rules_way.as x) (encMem rules_way.as x)) = rules_way.e N x.1 := by kernel_rfl
theorem rules_way.ok (N : Nat) : FnOk Try.prog 120 (rules_way.D N) := by
  refine FnOk_of tb_ok (Checked.mixed Try.checked) ⟨Try.f120, Try.func120, by kernel_rfl, by kernel_rfl, fun x y h => ⟨rules_way.G N, rules_way.A, N, gamOf_ok (fun p hp => nomatch hp), ?_⟩⟩ (rules_way.fit N)
  rw [absFn_n (n0 := 0) rfl (by kernel_rfl)]
  exact (rules_way.entry N _ x).trans h
/-! ### f92: gamehall/rules.pieces -/
def rules_pieces.as : List MK := [.d false (.slice 108 (.prod (.int .u8) (.prod (.int .i64) (.prod (.int .i64) (.slice 169 (.prod (.int .i64) (.prod (.int .i64) (.prod (.int .i64) (.int .i64)))))))))]
def rules_pieces.rs : List (Bool × HT) := [(false, (.d (.int .i64)))]
def rules_pieces.lc : List AC := []
def rules_pieces.D (N : Nat) : DFn := ⟨rules_pieces.as, rules_pieces.rs, Int, fun x => rules_pieces N x.1, fun r o => r.1, fun b => (b, ()), fun b => ()⟩
theorem rules_pieces.fit (N : Nat) : (rules_pieces.D N).Fit := ⟨fun _ _ => rfl, fun _ _ => rfl, by kernel_rfl⟩
noncomputable def rules_pieces.G (N : Nat) : Gam := gamOf [(120, rules_way.D N)]
def rules_pieces.A : Nat → Option LoopAnn := fun k => bif Nat.beq k 1 then some ⟨[0, 18, 19, 20], [], [], [], [], 0, false⟩ else bif Nat.beq k 3 then some ⟨[0, 4, 18, 19, 20, 35, 36, 37], [], [], [], [], 1, false⟩ else bif Nat.beq k 5 then some ⟨[0, 18, 19, 20, 72, 73, 74], [], [], [], [], 0, false⟩ else none
noncomputable def rules_pieces.fin (N : Nat) : St → Option Int := resK tb Try.f92.results.toList (decRes (rules_pieces.D N) rules_pieces.lc)
noncomputable def rules_pieces.k0 : List Item := stackAt [.r, .r, .l, .r, .b] (bodyOf Try.f92) []
def rules_pieces.st0 (l_ : (List (Int × (Int × (Int × (List (Int × (Int × (Int × Int))))))))) (t20_ : Int) : St := ⟨[.one (.fro 108 (.prod (.int .u8) (.prod (.int .i64) (.prod (.int .i64) (.slice 169 (.prod (.int .i64) (.prod (.int .i64) (.prod (.int .i64) (.int .i64)))))))) l_)] ++ List.replicate 17 (.one .any) ++ [.one (.fro 108 (.prod (.int .u8) (.prod (.int .i64) (.prod (.int .i64) (.slice 169 (.prod (.int .i64) (.prod (.int .i64) (.prod (.int .i64) (.int .i64)))))))) l_), .one (.int .i64 (l_.length : Int)), .one (.int .i64 t20_)] ++ List.replicate 64 (.one .any), []⟩
noncomputable def rules_pieces.k1 : List Item := stackAt [.r, .r, .l, .r, .b, .w, .r, .r, .l, .b, .r, .r, .l, .r, .b] (bodyOf Try.f92) []
def rules_pieces.st1 (l_ : (List (Int × (Int × (Int × (List (Int × (Int × (Int × Int))))))))) (t20_ : Int) (t35_ : (List (Int × (Int × (Int × (List (Int × (Int × (Int × Int))))))))) (t36_ : Int) (t37_ : Int) (p_ : Int) (p_2 : Int) (p_3 : Int) (p_4 : (List (Int × (Int × (Int × Int))))) : St := ⟨[.one (.fro 108 (.prod (.int .u8) (.prod (.int .i64) (.prod (.int .i64) (.slice 169 (.prod (.int .i64) (.prod (.int .i64) (.prod (.int .i64) (.int .i64)))))))) l_)] ++ List.replicate 3 (.one .any) ++ [.one (.ptr 0 0)] ++ List.replicate 13 (.one .any) ++ [.one (.fro 108 (.prod (.int .u8) (.prod (.int .i64) (.prod (.int .i64) (.slice 169 (.prod (.int .i64) (.prod (.int .i64) (.prod (.int .i64) (.int .i64)))))))) l_), .one (.int .i64 (l_.length : Int)), .one (.int .i64 t20_)] ++ List.replicate 14 (.one .any) ++ [.one (.fro 108 (.prod (.int .u8) (.prod (.int .i64) (.prod (.int .i64) (.slice 169 (.prod (.int .i64) (.prod (.int .i64) (.prod (.int .i64) (.int .i64)))))))) t35_), .one (.int .i64 t36_), .one (.int .i64 t37_)] ++ List.replicate 47 (.one .any), [.var 108 [.int .u8 p_, .int .i64 p_2, .int .i64 p_3, .fro 169 (.prod (.int .i64) (.prod (.int .i64) (.prod (.int .i64) (.int .i64)))) p_4]]⟩
noncomputable def rules_pieces.k2 : List Item := stackAt [.r, .r, .l, .r, .b, .w, .r, .r, .l, .b, .r, .r, .r, .r, .r, .r, .b] (bodyOf Try.f92) []
def rules_pieces.st2 (l_ : (List (Int × (Int × (Int × (List (Int × (Int × (Int × Int))))))))) (t20_ : Int) (t72_ : (List (Int × (Int × (Int × Int))))) (t73_ : Int) (t74_ : Int) : St := ⟨[.one (.fro 108 (.prod (.int .u8) (.prod (.int .i64) (.prod (.int .i64) (.slice 169 (.prod (.int .i64) (.prod (.int .i64) (.prod (.int .i64) (.int .i64)))))))) l_)] ++ List.replicate 17 (.one .any) ++ [.one (.fro 108 (.prod (.int .u8) (.prod (.int .i64) (.prod (.int .i64) (.slice 169 (.prod (.int .i64) (.prod (.int .i64) (.prod (.int .i64) (.int .i64)))))))) l_), .one (.int .i64 (l_.length : Int)), .one (.int .i64 t20_)] ++ List.replicate 51 (.one .any) ++ [.one (.fro 169 (.prod (.int .i64) (.prod (.int .i64) (.prod (.int .i64) (.int .i64)))) t72_), .one (.int .i64 t73_), .one (.int .i64 t74_)] ++ List.replicate 10 (.one .any), []⟩
theorem rules_pieces.step0 (N : Nat) (rec : List Item → St → Option Int) (l_ : (List (Int × (Int × (Int × (List (Int × (Int × (Int × Int))))))))) (t20_ : Int) : seg tb (rules_pieces.G N) rules_pieces.A 0 rec (rules_pieces.fin N) segFuel (loopBody rules_pieces.k0) (rules_pieces.st0 l_ t20_) = rules_pieces.s0 N l_ (fun t20_ => rec rules_pieces.k0 (rules_pieces.st0 l_ t20_)) (fun t20_ t35_ t36_ t37_ p_ p_2 p_3 p_4 => rec rules_pieces.k1 (rules_pieces.st1 l_ t20_ t35_ t36_ t37_ p_ p_2 p_3 p_4)) (fun t20_ t72_ t73_ t74_ => rec rules_pieces.k2 (rules_pieces.st2 l_ t20_ t72_ t73_ t74_)) t20_ := by kernel_rfl
theorem rules_pieces.step1 (N : Nat) (rec : List Item → St → Option Int) (l_ : (List (Int × (Int × (Int × (List (Int × (Int × (Int × Int))))))))) (t20_ : Int) (t35_ : (List (Int × (Int × (Int × (List (Int × (Int × (Int × Int))))))))) (t36_ : Int) (t37_ : Int) (p_ : Int) (p_2 : Int) (p_3 : Int) (p_4 : (List (Int × (Int × (Int × Int))))) : seg tb (rules_pieces.G N) rules_pieces.A 0 rec (rules_pieces.fin N) segFuel (loopBody rules_pieces.k1) (rules_pieces.st1 l_ t20_ t35_ t36_ t37_ p_ p_2 p_3 p_4) = rules_pieces.s1 N l_ (fun t20_ => rec rules_pieces.k0 (rules_pieces.st0 l_ t20_)) (fun t20_ t35_ t36_ t37_ p_ p_2 p_3 p_4 => rec rules_pieces.k1 (rules_pieces.st1 l_ t20_ t35_ t36_ t37_ p_ p_2 p_3 p_4)) (fun t20_ t72_ t73_ t74_ => rec rules_pieces.k2 (rules_pieces.st2 l_ t20_ t72_ t73_ t74_)) t20_ t35_ t36_ t37_ p_ p_2 p_3 p_4 := by kernel_rfl
theorem rules_pieces.step2 (N : Nat) (rec : List Item → St → Option Int) (l_ : (List (Int × (Int × (Int × (List (Int × (Int × (Int × Int))))))))) (t20_ : Int) (t72_ : (List (Int × (Int × (Int × Int))))) (t73_ : Int) (t74_ : Int) : seg tb (rules_pieces.G N) rules_pieces.A 0 rec (rules_pieces.fin N) segFuel (loopBody rules_pieces.k2) (rules_pieces.st2 l_ t20_ t72_ t73_ t74_) = rules_pieces.s2 N l_ (fun t20_ => rec rules_pieces.k0 (rules_pieces.st0 l_ t20_)) (fun t20_ t35_ t36_ t37_ p_ p_2 p_3 p_4 => rec rules_pieces.k1 (rules_pieces.st1 l_ t20_ t35_ t36_ t37_ p_ p_2 p_3 p_4)) (fun t20_ t72_ t73_ t74_ => rec rules_pieces.k2 (rules_pieces.st2 l_ t20_ t72_ t73_ t74_)) t20_ t72_ t73_ t74_ := by kernel_rfl
theorem rules_pieces.entry (N : Nat) (rec : List Item → St → Option Int) (x : (argH rules_pieces.as).den) : seg tb (rules_pieces.G N) rules_pieces.A 0 rec (rules_pieces.fin N) segFuel [.code (bodyOf Try.f92)] (initSt Try.f92 (encArgs rules_pieces.as x) (encMem rules_pieces.as x)) = rules_pieces.e N (fun t20_ => rec rules_pieces.k0 (rules_pieces.st0 x.1 t20_)) (fun t20_ t35_ t36_ t37_ p_ p_2 p_3 p_4 => rec rules_pieces.k1 (rules_pieces.st1 x.1 t20_ t35_ t36_ t37_ p_ p_2 p_3 p_4)) (fun t20_ t72_ t73_ t74_ => rec rules_pieces.k2 (rules_pieces.st2 x.1 t20_ t72_ t73_ t74_)) x.1 := by kernel_rfl
theorem rules_pieces.runs (N : Nat) (l_ : (List (Int × (Int × (Int × (List (Int × (Int × (Int × Int))))))))) : ∀ n, (∀ (t20_ : Int), run tb (rules_pieces.G N) rules_pieces.A 0 (rules_pieces.fin N) n rules_pieces.k0 (rules_pieces.st0 l_ t20_) = rules_pieces.l0 N l_ n t20_) ∧ (∀ (t20_ : Int) (t35_ : (List (Int × (Int × (Int × (List (Int × (Int × (Int × Int))))))))) (t36_ : Int) (t37_ : Int) (p_ : Int) (p_2 : Int) (p_3 : Int) (p_4 : (List (Int × (Int × (Int × Int))))), run tb (rules_pieces.G N) rules_pieces.A 0 (rules_pieces.fin N) n rules_pieces.k1 (rules_pieces.st1 l_ t20_ t35_ t36_ t37_ p_ p_2 p_3 p_4) = rules_pieces.l1 N l_ n t20_ t35_ t36_ t37_ p_ p_2 p_3 p_4) ∧ (∀ (t20_ : Int) (t72_ : (List (Int × (Int × (Int × Int))))) (t73_ : Int) (t74_ : Int), run tb (rules_pieces.G N) rules_pieces.A 0 (rules_pieces.fin N) n rules_pieces.k2 (rules_pieces.st2 l_ t20_ t72_ t73_ t74_) = rules_pieces.l2 N l_ n t20_ t72_ t73_ t74_)
  | 0 => ⟨fun _ => rfl, fun _ _ _ _ _ _ _ _ => rfl, fun _ _ _ _ => rfl⟩
  | n + 1 => by
    obtain ⟨h0, h1, h2⟩ := rules_pieces.runs N l_ n
    have e0 : (fun (t20_ : Int) => run tb (rules_pieces.G N) rules_pieces.A 0 (rules_pieces.fin N) n rules_pieces.k0 (rules_pieces.st0 l_ t20_)) = rules_pieces.l0 N l_ n := by funext t20_; exact h0 t20_
    have e1 : (fun (t20_ : Int) (t35_ : (List (Int × (Int × (Int × (List (Int × (Int × (Int × Int))))))))) (t36_ : Int) (t37_ : Int) (p_ : Int) (p_2 : Int) (p_3 : Int) (p_4 : (List (Int × (Int × (Int × Int))))) => run tb (rules_pieces.G N) rules_pieces.A 0 (rules_pieces.fin N) n rules_pieces.k1 (rules_pieces.st1 l_ t20_ t35_ t36_ t37_ p_ p_2 p_3 p_4)) = rules_pieces.l1 N l_ n := by funext t20_ t35_ t36_ t37_ p_ p_2 p_3 p_4; exact h1 t20_ t35_ t36_ t37_ p_ p_2 p_3 p_4
    have e2 : (fun (t20_ : Int) (t72_ : (List (Int × (Int × (Int × Int))))) (t73_ : Int) (t74_ : Int) => run tb (rules_pieces.G N) rules_pieces.A 0 (rules_pieces.fin N) n rules_pieces.k2 (rules_pieces.st2 l_ t20_ t72_ t73_ t74_)) = rules_pieces.l2 N l_ n := by funext t20_ t72_ t73_ t74_; exact h2 t20_ t72_ t73_ t74_
    have g0 : (∀ (t20_ : Int), run tb (rules_pieces.G N) rules_pieces.A 0 (rules_pieces.fin N) (n + 1) rules_pieces.k0 (rules_pieces.st0 l_ t20_) = rules_pieces.l0 N l_ (n + 1) t20_) := by
      intro t20_
      exact (run_succ (by kernel_rfl)).trans ((rules_pieces.step0 N _ l_ t20_).trans ((congr (congr (congrArg (fun r0 r1 r2 => rules_pieces.s0 N l_ r0 r1 r2 t20_) e0) e1) e2).trans (rules_pieces.l0_s N l_ n t20_).symm))
    have g1 : (∀ (t20_ : Int) (t35_ : (List (Int × (Int × (Int × (List (Int × (Int × (Int × Int))))))))) (t36_ : Int) (t37_ : Int) (p_ : Int) (p_2 : Int) (p_3 : Int) (p_4 : (List (Int × (Int × (Int × Int))))), run tb (rules_pieces.G N) rules_pieces.A 0 (rules_pieces.fin N) (n + 1) rules_pieces.k1 (rules_pieces.st1 l_ t20_ t35_ t36_ t37_ p_ p_2 p_3 p_4) = rules_pieces.l1 N l_ (n + 1) t20_ t35_ t36_ t37_ p_ p_2 p_3 p_4) := by
      intro t20_ t35_ t36_ t37_ p_ p_2 p_3 p_4
      exact (run_succ (by kernel_rfl)).trans ((rules_pieces.step1 N _ l_ t20_ t35_ t36_ t37_ p_ p_2 p_3 p_4).trans ((congr (congr (congrArg (fun r0 r1 r2 => rules_pieces.s1 N l_ r0 r1 r2 t20_ t35_ t36_ t37_ p_ p_2 p_3 p_4) e0) e1) e2).trans (rules_pieces.l1_s N l_ n t20_ t35_ t36_ t37_ p_ p_2 p_3 p_4).symm))
    have g2 : (∀ (t20_ : Int) (t72_ : (List (Int × (Int × (Int × Int))))) (t73_ : Int) (t74_ : Int), run tb (rules_pieces.G N) rules_pieces.A 0 (rules_pieces.fin N) (n + 1) rules_pieces.k2 (rules_pieces.st2 l_ t20_ t72_ t73_ t74_) = rules_pieces.l2 N l_ (n + 1) t20_ t72_ t73_ t74_) := by
      intro t20_ t72_ t73_ t74_
      exact (run_succ (by kernel_rfl)).trans ((rules_pieces.step2 N _ l_ t20_ t72_ t73_ t74_).trans ((congr (congr (congrArg (fun r0 r1 r2 => rules_pieces.s2 N l_ r0 r1 r2 t20_ t72_ t73_ t74_) e0) e1) e2).trans (rules_pieces.l2_s N l_ n t20_ t72_ t73_ t74_).symm))
    exact ⟨g0, g1, g2⟩
theorem rules_pieces.ok (N : Nat) : FnOk Try.prog 92 (rules_pieces.D N) := by
  refine FnOk_of tb_ok (Checked.mixed Try.checked) ⟨Try.f92, Try.func92, by kernel_rfl, by kernel_rfl, fun x y h => ⟨rules_pieces.G N, rules_pieces.A, N, gamOf_ok (by simp only [List.forall_mem_cons, List.not_mem_nil, false_implies, implies_true, and_true]; exact ⟨rules_way.ok N, rules_way.fit N⟩), ?_⟩⟩ (rules_pieces.fit N)
  rw [absFn_n (n0 := 0) rfl (by kernel_rfl)]
  refine (rules_pieces.entry N (run tb (rules_pieces.G N) rules_pieces.A 0 (rules_pieces.fin N) N) x).trans ?_
  have e0 : (fun (t20_ : Int) => run tb (rules_pieces.G N) rules_pieces.A 0 (rules_pieces.fin N) N rules_pieces.k0 (rules_pieces.st0 x.1 t20_)) = rules_pieces.l0 N x.1 N := by funext t20_; exact (rules_pieces.runs N x.1 N).1 t20_
  have e1 : (fun (t20_ : Int) (t35_ : (List (Int × (Int × (Int × (List (Int × (Int × (Int × Int))))))))) (t36_ : Int) (t37_ : Int) (p_ : Int) (p_2 : Int) (p_3 : Int) (p_4 : (List (Int × (Int × (Int × Int))))) => run tb (rules_pieces.G N) rules_pieces.A 0 (rules_pieces.fin N) N rules_pieces.k1 (rules_pieces.st1 x.1 t20_ t35_ t36_ t37_ p_ p_2 p_3 p_4)) = rules_pieces.l1 N x.1 N := by funext t20_ t35_ t36_ t37_ p_ p_2 p_3 p_4; exact (rules_pieces.runs N x.1 N).2.1 t20_ t35_ t36_ t37_ p_ p_2 p_3 p_4
  have e2 : (fun (t20_ : Int) (t72_ : (List (Int × (Int × (Int × Int))))) (t73_ : Int) (t74_ : Int) => run tb (rules_pieces.G N) rules_pieces.A 0 (rules_pieces.fin N) N rules_pieces.k2 (rules_pieces.st2 x.1 t20_ t72_ t73_ t74_)) = rules_pieces.l2 N x.1 N := by funext t20_ t72_ t73_ t74_; exact (rules_pieces.runs N x.1 N).2.2 t20_ t72_ t73_ t74_
  have h' : (rules_pieces.D N).f x = rules_pieces.e N (rules_pieces.l0 N x.1 N) (rules_pieces.l1 N x.1 N) (rules_pieces.l2 N x.1 N) x.1 := by kernel_rfl
  exact (congr (congr (congrArg (fun r0 r1 r2 => rules_pieces.e N r0 r1 r2 x.1) e0) e1) e2).trans (h'.symm.trans h)
/-! ### f93: gamehall/rules.end -/
def rules_end.as : List MK := [.d true (.prod (.int .i64) (.prod (.int .i64) (.prod (.int .i64) .bool))), .d false (.int .i64)]
def rules_end.rs : List (Bool × HT) := [(false, (.d (.int .i64)))]
def rules_end.lc : List AC := []
def rules_end.D (N : Nat) : DFn := ⟨rules_end.as, rules_end.rs, Int, fun x => rules_end N x.1 x.2.1, fun r o => r.1, fun b => (b, ()), fun b => ()⟩
theorem rules_end.fit (N : Nat) : (rules_end.D N).Fit := ⟨fun _ _ => rfl, fun _ _ => rfl, by kernel_rfl⟩
noncomputable def rules_end.G (N : Nat) : Gam := gamOf []
def rules_end.A : Nat → Option LoopAnn := fun _ => none
noncomputable def rules_end.fin (N : Nat) : St → Option Int := resK tb Try.f93.results.toList (decRes (rules_end.D N) rules_end.lc)
theorem rules_end.entry (N : Nat) (rec : List Item → St → Option Int) (x : (argH rules_end.as).den) : seg tb (rules_end.G N) rules_end.A 0 rec (rules_end.fin N) segFuel [.code (bodyOf Try.f93)] (initSt Try.f93 (encArgs rules_end.as x) (encMem rules_end.as x)) = rules_end.e N x.1 x.2.1 := by kernel_rfl
theorem rules_end.ok (N : Nat) : FnOk Try.prog 93 (rules_end.D N) := by
  refine FnOk_of tb_ok (Checked.mixed Try.checked) ⟨Try.f93, Try.func93, by kernel_rfl, by kernel_rfl, fun x y h => ⟨rules_end.G N, rules_end.A, N, gamOf_ok (fun p hp => nomatch hp), ?_⟩⟩ (rules_end.fit N)
  rw [absFn_n (n0 := 0) rfl (by kernel_rfl)]
  exact (rules_end.entry N _ x).trans h
/-! ### f66: gamehall/rules.Check -/
def rules_Check.as : List MK := [.d true (.prod .str (.prod (.int .i64) (.prod (.int .i64) (.prod (.slice 108 (.prod (.int .u8) (.prod (.int .i64) (.prod (.int .i64) (.slice 169 (.prod (.int .i64) (.prod (.int .i64) (.prod (.int .i64) (.int .i64))))))))) (.prod (.slice 3 (.int .i64)) (.prod .bool (.prod .bool (.prod (.slice 110 (.prod (.int .i64) (.prod (.int .i64) (.prod (.int .i64) .bool)))) (.prod (.int .i64) (.prod (.int .i64) (.int .i64)))))))))))]
def rules_Check.rs : List (Bool × HT) := [(false, (.d (.int .i64)))]
def rules_Check.lc : List AC := []
def rules_Check.D (N : Nat) : DFn := ⟨rules_Check.as, rules_Check.rs, Int, fun x => rules_Check N x.1, fun r o => r.1, fun b => (b, ()), fun b => ()⟩
theorem rules_Check.fit (N : Nat) : (rules_Check.D N).Fit := ⟨fun _ _ => rfl, fun _ _ => rfl, by kernel_rfl⟩
noncomputable def rules_Check.G (N : Nat) : Gam := gamOf [(91, rules_Name.D N), (92, rules_pieces.D N), (93, rules_end.D N)]
def rules_Check.A : Nat → Option LoopAnn := fun k => bif Nat.beq k 1 then some ⟨[1, 49, 50, 51], [], [], [], [], 1, false⟩ else bif Nat.beq k 3 then some ⟨[1, 71, 72, 73], [], [], [], [], 1, false⟩ else none
noncomputable def rules_Check.fin (N : Nat) : St → Option Int := resK tb Try.f66.results.toList (decRes (rules_Check.D N) rules_Check.lc)
noncomputable def rules_Check.k0 : List Item := stackAt [.r, .r, .r, .r, .l, .r, .b] (bodyOf Try.f66) []
def rules_Check.st0 (r_ : (ByteArray × (Int × (Int × ((List (Int × (Int × (Int × (List (Int × (Int × (Int × Int)))))))) × ((List Int) × (Bool × (Bool × ((List (Int × (Int × (Int × Bool)))) × (Int × (Int × Int))))))))))) (t50_ : Int) (t51_ : Int) : St := ⟨[.one .any, .one (.ptr 0 0)] ++ List.replicate 47 (.one .any) ++ [.one (.fro 3 (.int .i64) r_.2.2.2.2.1), .one (.int .i64 t50_), .one (.int .i64 t51_)] ++ List.replicate 67 (.one .any), [.var 36 [.str r_.1, .int .i64 r_.2.1, .int .i64 r_.2.2.1, .fro 108 (.prod (.int .u8) (.prod (.int .i64) (.prod (.int .i64) (.slice 169 (.prod (.int .i64) (.prod (.int .i64) (.prod (.int .i64) (.int .i64)))))))) r_.2.2.2.1, .fro 3 (.int .i64) r_.2.2.2.2.1, .bool r_.2.2.2.2.2.1, .bool r_.2.2.2.2.2.2.1, .fro 110 (.prod (.int .i64) (.prod (.int .i64) (.prod (.int .i64) .bool))) r_.2.2.2.2.2.2.2.1, .int .i64 r_.2.2.2.2.2.2.2.2.1, .int .i64 r_.2.2.2.2.2.2.2.2.2.1, .int .i64 r_.2.2.2.2.2.2.2.2.2.2]]⟩
noncomputable def rules_Check.k1 : List Item := stackAt [.r, .r, .r, .r, .r, .r, .l, .r, .b] (bodyOf Try.f66) []
def rules_Check.st1 (r_ : (ByteArray × (Int × (Int × ((List (Int × (Int × (Int × (List (Int × (Int × (Int × Int)))))))) × ((List Int) × (Bool × (Bool × ((List (Int × (Int × (Int × Bool)))) × (Int × (Int × Int))))))))))) (t72_ : Int) (t73_ : Int) : St := ⟨[.one .any, .one (.ptr 0 0)] ++ List.replicate 69 (.one .any) ++ [.one (.fro 110 (.prod (.int .i64) (.prod (.int .i64) (.prod (.int .i64) .bool))) r_.2.2.2.2.2.2.2.1), .one (.int .i64 t72_), .one (.int .i64 t73_)] ++ List.replicate 45 (.one .any), [.var 36 [.str r_.1, .int .i64 r_.2.1, .int .i64 r_.2.2.1, .fro 108 (.prod (.int .u8) (.prod (.int .i64) (.prod (.int .i64) (.slice 169 (.prod (.int .i64) (.prod (.int .i64) (.prod (.int .i64) (.int .i64)))))))) r_.2.2.2.1, .fro 3 (.int .i64) r_.2.2.2.2.1, .bool r_.2.2.2.2.2.1, .bool r_.2.2.2.2.2.2.1, .fro 110 (.prod (.int .i64) (.prod (.int .i64) (.prod (.int .i64) .bool))) r_.2.2.2.2.2.2.2.1, .int .i64 r_.2.2.2.2.2.2.2.2.1, .int .i64 r_.2.2.2.2.2.2.2.2.2.1, .int .i64 r_.2.2.2.2.2.2.2.2.2.2]]⟩
theorem rules_Check.step0 (N : Nat) (rec : List Item → St → Option Int) (r_ : (ByteArray × (Int × (Int × ((List (Int × (Int × (Int × (List (Int × (Int × (Int × Int)))))))) × ((List Int) × (Bool × (Bool × ((List (Int × (Int × (Int × Bool)))) × (Int × (Int × Int))))))))))) (t50_ : Int) (t51_ : Int) : seg tb (rules_Check.G N) rules_Check.A 0 rec (rules_Check.fin N) segFuel (loopBody rules_Check.k0) (rules_Check.st0 r_ t50_ t51_) = rules_Check.s0 N r_ (fun t50_ t51_ => rec rules_Check.k0 (rules_Check.st0 r_ t50_ t51_)) (fun t72_ t73_ => rec rules_Check.k1 (rules_Check.st1 r_ t72_ t73_)) t50_ t51_ := by kernel_rfl
theorem rules_Check.step1 (N : Nat) (rec : List Item → St → Option Int) (r_ : (ByteArray × (Int × (Int × ((List (Int × (Int × (Int × (List (Int × (Int × (Int × Int)))))))) × ((List Int) × (Bool × (Bool × ((List (Int × (Int × (Int × Bool)))) × (Int × (Int × Int))))))))))) (t72_ : Int) (t73_ : Int) : seg tb (rules_Check.G N) rules_Check.A 0 rec (rules_Check.fin N) segFuel (loopBody rules_Check.k1) (rules_Check.st1 r_ t72_ t73_) = rules_Check.s1 N r_ (fun t50_ t51_ => rec rules_Check.k0 (rules_Check.st0 r_ t50_ t51_)) (fun t72_ t73_ => rec rules_Check.k1 (rules_Check.st1 r_ t72_ t73_)) t72_ t73_ := by kernel_rfl
theorem rules_Check.entry (N : Nat) (rec : List Item → St → Option Int) (x : (argH rules_Check.as).den) : seg tb (rules_Check.G N) rules_Check.A 0 rec (rules_Check.fin N) segFuel [.code (bodyOf Try.f66)] (initSt Try.f66 (encArgs rules_Check.as x) (encMem rules_Check.as x)) = rules_Check.e N (fun t50_ t51_ => rec rules_Check.k0 (rules_Check.st0 x.1 t50_ t51_)) (fun t72_ t73_ => rec rules_Check.k1 (rules_Check.st1 x.1 t72_ t73_)) x.1 := by kernel_rfl
theorem rules_Check.runs (N : Nat) (r_ : (ByteArray × (Int × (Int × ((List (Int × (Int × (Int × (List (Int × (Int × (Int × Int)))))))) × ((List Int) × (Bool × (Bool × ((List (Int × (Int × (Int × Bool)))) × (Int × (Int × Int))))))))))) : ∀ n, (∀ (t50_ : Int) (t51_ : Int), run tb (rules_Check.G N) rules_Check.A 0 (rules_Check.fin N) n rules_Check.k0 (rules_Check.st0 r_ t50_ t51_) = rules_Check.l0 N r_ n t50_ t51_) ∧ (∀ (t72_ : Int) (t73_ : Int), run tb (rules_Check.G N) rules_Check.A 0 (rules_Check.fin N) n rules_Check.k1 (rules_Check.st1 r_ t72_ t73_) = rules_Check.l1 N r_ n t72_ t73_)
  | 0 => ⟨fun _ _ => rfl, fun _ _ => rfl⟩
  | n + 1 => by
    obtain ⟨h0, h1⟩ := rules_Check.runs N r_ n
    have e0 : (fun (t50_ : Int) (t51_ : Int) => run tb (rules_Check.G N) rules_Check.A 0 (rules_Check.fin N) n rules_Check.k0 (rules_Check.st0 r_ t50_ t51_)) = rules_Check.l0 N r_ n := by funext t50_ t51_; exact h0 t50_ t51_
    have e1 : (fun (t72_ : Int) (t73_ : Int) => run tb (rules_Check.G N) rules_Check.A 0 (rules_Check.fin N) n rules_Check.k1 (rules_Check.st1 r_ t72_ t73_)) = rules_Check.l1 N r_ n := by funext t72_ t73_; exact h1 t72_ t73_
    have g0 : (∀ (t50_ : Int) (t51_ : Int), run tb (rules_Check.G N) rules_Check.A 0 (rules_Check.fin N) (n + 1) rules_Check.k0 (rules_Check.st0 r_ t50_ t51_) = rules_Check.l0 N r_ (n + 1) t50_ t51_) := by
      intro t50_ t51_
      exact (run_succ (by kernel_rfl)).trans ((rules_Check.step0 N _ r_ t50_ t51_).trans ((congr (congrArg (fun r0 r1 => rules_Check.s0 N r_ r0 r1 t50_ t51_) e0) e1).trans (rules_Check.l0_s N r_ n t50_ t51_).symm))
    have g1 : (∀ (t72_ : Int) (t73_ : Int), run tb (rules_Check.G N) rules_Check.A 0 (rules_Check.fin N) (n + 1) rules_Check.k1 (rules_Check.st1 r_ t72_ t73_) = rules_Check.l1 N r_ (n + 1) t72_ t73_) := by
      intro t72_ t73_
      exact (run_succ (by kernel_rfl)).trans ((rules_Check.step1 N _ r_ t72_ t73_).trans ((congr (congrArg (fun r0 r1 => rules_Check.s1 N r_ r0 r1 t72_ t73_) e0) e1).trans (rules_Check.l1_s N r_ n t72_ t73_).symm))
    exact ⟨g0, g1⟩
theorem rules_Check.ok (N : Nat) : FnOk Try.prog 66 (rules_Check.D N) := by
  refine FnOk_of tb_ok (Checked.mixed Try.checked) ⟨Try.f66, Try.func66, by kernel_rfl, by kernel_rfl, fun x y h => ⟨rules_Check.G N, rules_Check.A, N, gamOf_ok (by simp only [List.forall_mem_cons, List.not_mem_nil, false_implies, implies_true, and_true]; exact ⟨⟨rules_Name.ok N, rules_Name.fit N⟩, ⟨rules_pieces.ok N, rules_pieces.fit N⟩, ⟨rules_end.ok N, rules_end.fit N⟩⟩), ?_⟩⟩ (rules_Check.fit N)
  rw [absFn_n (n0 := 0) rfl (by kernel_rfl)]
  refine (rules_Check.entry N (run tb (rules_Check.G N) rules_Check.A 0 (rules_Check.fin N) N) x).trans ?_
  have e0 : (fun (t50_ : Int) (t51_ : Int) => run tb (rules_Check.G N) rules_Check.A 0 (rules_Check.fin N) N rules_Check.k0 (rules_Check.st0 x.1 t50_ t51_)) = rules_Check.l0 N x.1 N := by funext t50_ t51_; exact (rules_Check.runs N x.1 N).1 t50_ t51_
  have e1 : (fun (t72_ : Int) (t73_ : Int) => run tb (rules_Check.G N) rules_Check.A 0 (rules_Check.fin N) N rules_Check.k1 (rules_Check.st1 x.1 t72_ t73_)) = rules_Check.l1 N x.1 N := by funext t72_ t73_; exact (rules_Check.runs N x.1 N).2 t72_ t73_
  have h' : (rules_Check.D N).f x = rules_Check.e N (rules_Check.l0 N x.1 N) (rules_Check.l1 N x.1 N) x.1 := by kernel_rfl
  exact (congr (congrArg (fun r0 r1 => rules_Check.e N r0 r1 x.1) e0) e1).trans (h'.symm.trans h)
/-! ### f27: gamehall/place.Check -/
def place_Check.as : List MK := [.d true (.prod .str (.prod (.int .i64) (.prod (.int .i64) (.prod (.slice 108 (.prod (.int .u8) (.prod (.int .i64) (.prod (.int .i64) (.slice 169 (.prod (.int .i64) (.prod (.int .i64) (.prod (.int .i64) (.int .i64))))))))) (.prod (.slice 3 (.int .i64)) (.prod .bool (.prod .bool (.prod (.slice 110 (.prod (.int .i64) (.prod (.int .i64) (.prod (.int .i64) .bool)))) (.prod (.int .i64) (.prod (.int .i64) (.int .i64))))))))))), .d true (.prod (.slice 3 (.int .i64)) (.prod (.prod (.slice 3 (.int .i64)) (.slice 3 (.int .i64))) (.prod (.int .i64) (.int .i64))))]
def place_Check.rs : List (Bool × HT) := [(false, (.d (.int .i64)))]
def place_Check.lc : List AC := []
def place_Check.D (N : Nat) : DFn := ⟨place_Check.as, place_Check.rs, Int, fun x => place_Check N x.1 x.2.1, fun r o => r.1, fun b => (b, ()), fun b => ()⟩
theorem place_Check.fit (N : Nat) : (place_Check.D N).Fit := ⟨fun _ _ => rfl, fun _ _ => rfl, by kernel_rfl⟩
noncomputable def place_Check.G (N : Nat) : Gam := gamOf [(66, rules_Check.D N)]
def place_Check.A : Nat → Option LoopAnn := fun k => bif Nat.beq k 0 then some ⟨[2, 3, 47, 48, 49], [], [], [], [], 2, false⟩ else bif Nat.beq k 2 then some ⟨[3, 65, 66], [], [], [], [0], 2, false⟩ else bif Nat.beq k 4 then some ⟨[3, 65, 66, 69, 70, 71], [], [], [], [], 2, false⟩ else none
noncomputable def place_Check.fin (N : Nat) : St → Option Int := resK tb Try.f27.results.toList (decRes (place_Check.D N) place_Check.lc)
noncomputable def place_Check.k0 : List Item := stackAt [.r, .r, .r, .l, .r, .b] (bodyOf Try.f27) []
def place_Check.st0 (r_ : (ByteArray × (Int × (Int × ((List (Int × (Int × (Int × (List (Int × (Int × (Int × Int)))))))) × ((List Int) × (Bool × (Bool × ((List (Int × (Int × (Int × Bool)))) × (Int × (Int × Int))))))))))) (p_ : ((List Int) × (((List Int) × (List Int)) × (Int × Int)))) (t49_ : Int) : St := ⟨[.one .any, .one .any, .one (.ptr 0 0), .one (.ptr 1 0)] ++ List.replicate 43 (.one .any) ++ [.one (.fro 3 (.int .i64) p_.1), .one (.int .i64 (p_.1.length : Int)), .one (.int .i64 t49_)] ++ List.replicate 51 (.one .any), [.var 36 [.str r_.1, .int .i64 r_.2.1, .int .i64 r_.2.2.1, .fro 108 (.prod (.int .u8) (.prod (.int .i64) (.prod (.int .i64) (.slice 169 (.prod (.int .i64) (.prod (.int .i64) (.prod (.int .i64) (.int .i64)))))))) r_.2.2.2.1, .fro 3 (.int .i64) r_.2.2.2.2.1, .bool r_.2.2.2.2.2.1, .bool r_.2.2.2.2.2.2.1, .fro 110 (.prod (.int .i64) (.prod (.int .i64) (.prod (.int .i64) .bool))) r_.2.2.2.2.2.2.2.1, .int .i64 r_.2.2.2.2.2.2.2.2.1, .int .i64 r_.2.2.2.2.2.2.2.2.2.1, .int .i64 r_.2.2.2.2.2.2.2.2.2.2], .var 39 [.fro 3 (.int .i64) p_.1, .fro 3 (.int .i64) p_.2.1.1, .fro 3 (.int .i64) p_.2.1.2, .int .i64 p_.2.2.1, .int .i64 p_.2.2.2]]⟩
noncomputable def place_Check.k1 : List Item := stackAt [.r, .r, .r, .r, .l, .r, .b] (bodyOf Try.f27) []
def place_Check.st1 (r_ : (ByteArray × (Int × (Int × ((List (Int × (Int × (Int × (List (Int × (Int × (Int × Int)))))))) × ((List Int) × (Bool × (Bool × ((List (Int × (Int × (Int × Bool)))) × (Int × (Int × Int))))))))))) (p_ : ((List Int) × (((List Int) × (List Int)) × (Int × Int)))) (t66_ : Int) : St := ⟨List.replicate 3 (.one .any) ++ [.one (.ptr 1 0)] ++ List.replicate 61 (.one .any) ++ [.agg [.fro 3 (.int .i64) p_.2.1.1, .fro 3 (.int .i64) p_.2.1.2], .one (.int .i64 t66_)] ++ List.replicate 34 (.one .any), [.gone, .var 39 [.fro 3 (.int .i64) p_.1, .fro 3 (.int .i64) p_.2.1.1, .fro 3 (.int .i64) p_.2.1.2, .int .i64 p_.2.2.1, .int .i64 p_.2.2.2]]⟩
noncomputable def place_Check.k2 : List Item := stackAt [.r, .r, .r, .r, .l, .r, .b, .w, .r, .r, .l, .b, .r, .r, .b] (bodyOf Try.f27) []
def place_Check.st2 (r_ : (ByteArray × (Int × (Int × ((List (Int × (Int × (Int × (List (Int × (Int × (Int × Int)))))))) × ((List Int) × (Bool × (Bool × ((List (Int × (Int × (Int × Bool)))) × (Int × (Int × Int))))))))))) (p_ : ((List Int) × (((List Int) × (List Int)) × (Int × Int)))) (t66_ : Int) (t69_ : (List Int)) (t70_ : Int) (t71_ : Int) : St := ⟨List.replicate 3 (.one .any) ++ [.one (.ptr 1 0)] ++ List.replicate 61 (.one .any) ++ [.agg [.fro 3 (.int .i64) p_.2.1.1, .fro 3 (.int .i64) p_.2.1.2], .one (.int .i64 t66_), .one .any, .one .any, .one (.fro 3 (.int .i64) t69_), .one (.int .i64 t70_), .one (.int .i64 t71_)] ++ List.replicate 29 (.one .any), [.gone, .var 39 [.fro 3 (.int .i64) p_.1, .fro 3 (.int .i64) p_.2.1.1, .fro 3 (.int .i64) p_.2.1.2, .int .i64 p_.2.2.1, .int .i64 p_.2.2.2]]⟩
theorem place_Check.step0 (N : Nat) (rec : List Item → St → Option Int) (r_ : (ByteArray × (Int × (Int × ((List (Int × (Int × (Int × (List (Int × (Int × (Int × Int)))))))) × ((List Int) × (Bool × (Bool × ((List (Int × (Int × (Int × Bool)))) × (Int × (Int × Int))))))))))) (p_ : ((List Int) × (((List Int) × (List Int)) × (Int × Int)))) (t49_ : Int) : seg tb (place_Check.G N) place_Check.A 0 rec (place_Check.fin N) segFuel (loopBody place_Check.k0) (place_Check.st0 r_ p_ t49_) = place_Check.s0 N r_ p_ (fun t49_ => rec place_Check.k0 (place_Check.st0 r_ p_ t49_)) (fun t66_ => rec place_Check.k1 (place_Check.st1 r_ p_ t66_)) (fun t66_ t69_ t70_ t71_ => rec place_Check.k2 (place_Check.st2 r_ p_ t66_ t69_ t70_ t71_)) t49_ := by kernel_rfl
theorem place_Check.step1 (N : Nat) (rec : List Item → St → Option Int) (r_ : (ByteArray × (Int × (Int × ((List (Int × (Int × (Int × (List (Int × (Int × (Int × Int)))))))) × ((List Int) × (Bool × (Bool × ((List (Int × (Int × (Int × Bool)))) × (Int × (Int × Int))))))))))) (p_ : ((List Int) × (((List Int) × (List Int)) × (Int × Int)))) (t66_ : Int) : seg tb (place_Check.G N) place_Check.A 0 rec (place_Check.fin N) segFuel (loopBody place_Check.k1) (place_Check.st1 r_ p_ t66_) = place_Check.s1 N r_ p_ (fun t49_ => rec place_Check.k0 (place_Check.st0 r_ p_ t49_)) (fun t66_ => rec place_Check.k1 (place_Check.st1 r_ p_ t66_)) (fun t66_ t69_ t70_ t71_ => rec place_Check.k2 (place_Check.st2 r_ p_ t66_ t69_ t70_ t71_)) t66_ := by kernel_rfl
theorem place_Check.step2 (N : Nat) (rec : List Item → St → Option Int) (r_ : (ByteArray × (Int × (Int × ((List (Int × (Int × (Int × (List (Int × (Int × (Int × Int)))))))) × ((List Int) × (Bool × (Bool × ((List (Int × (Int × (Int × Bool)))) × (Int × (Int × Int))))))))))) (p_ : ((List Int) × (((List Int) × (List Int)) × (Int × Int)))) (t66_ : Int) (t69_ : (List Int)) (t70_ : Int) (t71_ : Int) : seg tb (place_Check.G N) place_Check.A 0 rec (place_Check.fin N) segFuel (loopBody place_Check.k2) (place_Check.st2 r_ p_ t66_ t69_ t70_ t71_) = place_Check.s2 N r_ p_ (fun t49_ => rec place_Check.k0 (place_Check.st0 r_ p_ t49_)) (fun t66_ => rec place_Check.k1 (place_Check.st1 r_ p_ t66_)) (fun t66_ t69_ t70_ t71_ => rec place_Check.k2 (place_Check.st2 r_ p_ t66_ t69_ t70_ t71_)) t66_ t69_ t70_ t71_ := by kernel_rfl
theorem place_Check.entry (N : Nat) (rec : List Item → St → Option Int) (x : (argH place_Check.as).den) : seg tb (place_Check.G N) place_Check.A 0 rec (place_Check.fin N) segFuel [.code (bodyOf Try.f27)] (initSt Try.f27 (encArgs place_Check.as x) (encMem place_Check.as x)) = place_Check.e N (fun t49_ => rec place_Check.k0 (place_Check.st0 x.1 x.2.1 t49_)) (fun t66_ => rec place_Check.k1 (place_Check.st1 x.1 x.2.1 t66_)) (fun t66_ t69_ t70_ t71_ => rec place_Check.k2 (place_Check.st2 x.1 x.2.1 t66_ t69_ t70_ t71_)) x.1 x.2.1 := by kernel_rfl
theorem place_Check.runs (N : Nat) (r_ : (ByteArray × (Int × (Int × ((List (Int × (Int × (Int × (List (Int × (Int × (Int × Int)))))))) × ((List Int) × (Bool × (Bool × ((List (Int × (Int × (Int × Bool)))) × (Int × (Int × Int))))))))))) (p_ : ((List Int) × (((List Int) × (List Int)) × (Int × Int)))) : ∀ n, (∀ (t49_ : Int), run tb (place_Check.G N) place_Check.A 0 (place_Check.fin N) n place_Check.k0 (place_Check.st0 r_ p_ t49_) = place_Check.l0 N r_ p_ n t49_) ∧ (∀ (t66_ : Int), run tb (place_Check.G N) place_Check.A 0 (place_Check.fin N) n place_Check.k1 (place_Check.st1 r_ p_ t66_) = place_Check.l1 N r_ p_ n t66_) ∧ (∀ (t66_ : Int) (t69_ : (List Int)) (t70_ : Int) (t71_ : Int), run tb (place_Check.G N) place_Check.A 0 (place_Check.fin N) n place_Check.k2 (place_Check.st2 r_ p_ t66_ t69_ t70_ t71_) = place_Check.l2 N r_ p_ n t66_ t69_ t70_ t71_)
  | 0 => ⟨fun _ => rfl, fun _ => rfl, fun _ _ _ _ => rfl⟩
  | n + 1 => by
    obtain ⟨h0, h1, h2⟩ := place_Check.runs N r_ p_ n
    have e0 : (fun (t49_ : Int) => run tb (place_Check.G N) place_Check.A 0 (place_Check.fin N) n place_Check.k0 (place_Check.st0 r_ p_ t49_)) = place_Check.l0 N r_ p_ n := by funext t49_; exact h0 t49_
    have e1 : (fun (t66_ : Int) => run tb (place_Check.G N) place_Check.A 0 (place_Check.fin N) n place_Check.k1 (place_Check.st1 r_ p_ t66_)) = place_Check.l1 N r_ p_ n := by funext t66_; exact h1 t66_
    have e2 : (fun (t66_ : Int) (t69_ : (List Int)) (t70_ : Int) (t71_ : Int) => run tb (place_Check.G N) place_Check.A 0 (place_Check.fin N) n place_Check.k2 (place_Check.st2 r_ p_ t66_ t69_ t70_ t71_)) = place_Check.l2 N r_ p_ n := by funext t66_ t69_ t70_ t71_; exact h2 t66_ t69_ t70_ t71_
    have g0 : (∀ (t49_ : Int), run tb (place_Check.G N) place_Check.A 0 (place_Check.fin N) (n + 1) place_Check.k0 (place_Check.st0 r_ p_ t49_) = place_Check.l0 N r_ p_ (n + 1) t49_) := by
      intro t49_
      exact (run_succ (by kernel_rfl)).trans ((place_Check.step0 N _ r_ p_ t49_).trans ((congr (congr (congrArg (fun r0 r1 r2 => place_Check.s0 N r_ p_ r0 r1 r2 t49_) e0) e1) e2).trans (place_Check.l0_s N r_ p_ n t49_).symm))
    have g1 : (∀ (t66_ : Int), run tb (place_Check.G N) place_Check.A 0 (place_Check.fin N) (n + 1) place_Check.k1 (place_Check.st1 r_ p_ t66_) = place_Check.l1 N r_ p_ (n + 1) t66_) := by
      intro t66_
      exact (run_succ (by kernel_rfl)).trans ((place_Check.step1 N _ r_ p_ t66_).trans ((congr (congr (congrArg (fun r0 r1 r2 => place_Check.s1 N r_ p_ r0 r1 r2 t66_) e0) e1) e2).trans (place_Check.l1_s N r_ p_ n t66_).symm))
    have g2 : (∀ (t66_ : Int) (t69_ : (List Int)) (t70_ : Int) (t71_ : Int), run tb (place_Check.G N) place_Check.A 0 (place_Check.fin N) (n + 1) place_Check.k2 (place_Check.st2 r_ p_ t66_ t69_ t70_ t71_) = place_Check.l2 N r_ p_ (n + 1) t66_ t69_ t70_ t71_) := by
      intro t66_ t69_ t70_ t71_
      exact (run_succ (by kernel_rfl)).trans ((place_Check.step2 N _ r_ p_ t66_ t69_ t70_ t71_).trans ((congr (congr (congrArg (fun r0 r1 r2 => place_Check.s2 N r_ p_ r0 r1 r2 t66_ t69_ t70_ t71_) e0) e1) e2).trans (place_Check.l2_s N r_ p_ n t66_ t69_ t70_ t71_).symm))
    exact ⟨g0, g1, g2⟩
theorem place_Check.ok (N : Nat) : FnOk Try.prog 27 (place_Check.D N) := by
  refine FnOk_of tb_ok (Checked.mixed Try.checked) ⟨Try.f27, Try.func27, by kernel_rfl, by kernel_rfl, fun x y h => ⟨place_Check.G N, place_Check.A, N, gamOf_ok (by simp only [List.forall_mem_cons, List.not_mem_nil, false_implies, implies_true, and_true]; exact ⟨rules_Check.ok N, rules_Check.fit N⟩), ?_⟩⟩ (place_Check.fit N)
  rw [absFn_n (n0 := 0) rfl (by kernel_rfl)]
  refine (place_Check.entry N (run tb (place_Check.G N) place_Check.A 0 (place_Check.fin N) N) x).trans ?_
  have e0 : (fun (t49_ : Int) => run tb (place_Check.G N) place_Check.A 0 (place_Check.fin N) N place_Check.k0 (place_Check.st0 x.1 x.2.1 t49_)) = place_Check.l0 N x.1 x.2.1 N := by funext t49_; exact (place_Check.runs N x.1 x.2.1 N).1 t49_
  have e1 : (fun (t66_ : Int) => run tb (place_Check.G N) place_Check.A 0 (place_Check.fin N) N place_Check.k1 (place_Check.st1 x.1 x.2.1 t66_)) = place_Check.l1 N x.1 x.2.1 N := by funext t66_; exact (place_Check.runs N x.1 x.2.1 N).2.1 t66_
  have e2 : (fun (t66_ : Int) (t69_ : (List Int)) (t70_ : Int) (t71_ : Int) => run tb (place_Check.G N) place_Check.A 0 (place_Check.fin N) N place_Check.k2 (place_Check.st2 x.1 x.2.1 t66_ t69_ t70_ t71_)) = place_Check.l2 N x.1 x.2.1 N := by funext t66_ t69_ t70_ t71_; exact (place_Check.runs N x.1 x.2.1 N).2.2 t66_ t69_ t70_ t71_
  have h' : (place_Check.D N).f x = place_Check.e N (place_Check.l0 N x.1 x.2.1 N) (place_Check.l1 N x.1 x.2.1 N) (place_Check.l2 N x.1 x.2.1 N) x.1 x.2.1 := by kernel_rfl
  exact (congr (congr (congrArg (fun r0 r1 r2 => place_Check.e N r0 r1 r2 x.1 x.2.1) e0) e1) e2).trans (h'.symm.trans h)
/-! ### f90: slices.Clone[[]int,int] -/
def slices_Clone_int_int.as : List MK := [.d false (.slice 3 (.int .i64))]
def slices_Clone_int_int.rs : List (Bool × HT) := [(false, (.own 3 (.int .i64)))]
def slices_Clone_int_int.lc : List AC := []
def slices_Clone_int_int.D (N : Nat) : DFn := ⟨slices_Clone_int_int.as, slices_Clone_int_int.rs, (List Int), fun x => slices_Clone_int_int N x.1, fun r o => r.1, fun b => (b, ()), fun b => ()⟩
theorem slices_Clone_int_int.fit (N : Nat) : (slices_Clone_int_int.D N).Fit := ⟨fun _ _ => rfl, fun _ _ => rfl, by kernel_rfl⟩
noncomputable def slices_Clone_int_int.G (N : Nat) : Gam := gamOf []
def slices_Clone_int_int.A : Nat → Option LoopAnn := fun _ => none
noncomputable def slices_Clone_int_int.fin (N : Nat) : St → Option (List Int) := resK tb Try.f90.results.toList (decRes (slices_Clone_int_int.D N) slices_Clone_int_int.lc)
theorem slices_Clone_int_int.entry0 (N : Nat) (rec : List Item → St → Option (List Int)) : seg tb (slices_Clone_int_int.G N) slices_Clone_int_int.A 0 rec (slices_Clone_int_int.fin N) segFuel [.code (bodyOf Try.f90)] (initSt Try.f90 [.one .nilS] []) = some [] := by kernel_rfl
theorem slices_Clone_int_int.entry (N : Nat) (rec : List Item → St → Option (List Int)) (x : (List Int)) : seg tb (slices_Clone_int_int.G N) slices_Clone_int_int.A 0 rec (slices_Clone_int_int.fin N) segFuel [.code (bodyOf Try.f90)] (initSt Try.f90 [.one (.frn 3 (.int .i64) x)] []) = slices_Clone_int_int.e N x := by kernel_rfl
theorem slices_Clone_int_int.ok (N : Nat) : FnOk Try.prog 90 (slices_Clone_int_int.D N) := by
  refine FnOk_ofN (e := 3) (t := (.int .i64)) (h := rfl) tb_ok (Checked.mixed Try.checked) ⟨Try.f90, Try.func90, by kernel_rfl, by kernel_rfl, fun x y h => ⟨slices_Clone_int_int.G N, slices_Clone_int_int.A, N, gamOf_ok (fun p hp => nomatch hp), fun hx => ?_, ?_⟩⟩ (slices_Clone_int_int.fit N)
  · subst hx; rw [absFn_n (n0 := 0) rfl (by kernel_rfl)]; exact (slices_Clone_int_int.entry0 N _).trans h
  · rw [absFn_n (n0 := 0) rfl (by kernel_rfl)]; exact (slices_Clone_int_int.entry N _ x).trans h
/-! ### f63: gamehall/place.Copy -/
def place_Copy.as : List MK := [.d true (.prod (.slice 3 (.int .i64)) (.prod (.prod (.slice 3 (.int .i64)) (.slice 3 (.int .i64))) (.prod (.int .i64) (.int .i64))))]
def place_Copy.rs : List (Bool × HT) := [(true, (.prod (.own 3 (.int .i64)) (.prod (.prod (.own 3 (.int .i64)) (.own 3 (.int .i64))) (.d (.prod (.int .i64) (.int .i64))))))]
def place_Copy.lc : List AC := []
def place_Copy.D (N : Nat) : DFn := ⟨place_Copy.as, place_Copy.rs, ((List Int) × (((List Int) × (List Int)) × (Int × Int))), fun x => place_Copy N x.1, fun r o => r.1, fun b => (b, ()), fun b => ()⟩
theorem place_Copy.fit (N : Nat) : (place_Copy.D N).Fit := ⟨fun _ _ => rfl, fun _ _ => rfl, by kernel_rfl⟩
noncomputable def place_Copy.G (N : Nat) : Gam := gamOf [(90, slices_Clone_int_int.D N)]
def place_Copy.A : Nat → Option LoopAnn := fun k => bif Nat.beq k 0 then some ⟨[], [], [], [], [], 0, true⟩ else none
noncomputable def place_Copy.fin (N : Nat) : St → Option ((List Int) × (((List Int) × (List Int)) × (Int × Int))) := resK tb Try.f63.results.toList (decRes (place_Copy.D N) place_Copy.lc)
theorem place_Copy.entry (N : Nat) (rec : List Item → St → Option ((List Int) × (((List Int) × (List Int)) × (Int × Int)))) (x : (argH place_Copy.as).den) : seg tb (place_Copy.G N) place_Copy.A 0 rec (place_Copy.fin N) segFuel [.code (bodyOf Try.f63)] (initSt Try.f63 (encArgs place_Copy.as x) (encMem place_Copy.as x)) = place_Copy.e N x.1 := by kernel_rfl
theorem place_Copy.ok (N : Nat) : FnOk Try.prog 63 (place_Copy.D N) := by
  refine FnOk_of tb_ok (Checked.mixed Try.checked) ⟨Try.f63, Try.func63, by kernel_rfl, by kernel_rfl, fun x y h => ⟨place_Copy.G N, place_Copy.A, N, gamOf_ok (by simp only [List.forall_mem_cons, List.not_mem_nil, false_implies, implies_true, and_true]; exact ⟨slices_Clone_int_int.ok N, slices_Clone_int_int.fit N⟩), ?_⟩⟩ (place_Copy.fit N)
  rw [absFn_n (n0 := 0) rfl (by kernel_rfl)]
  exact (place_Copy.entry N _ x).trans h
/-! ### f65: gamehall/rules.Turned -/
def rules_Turned.as : List MK := [.d true (.prod .str (.prod (.int .i64) (.prod (.int .i64) (.prod (.slice 108 (.prod (.int .u8) (.prod (.int .i64) (.prod (.int .i64) (.slice 169 (.prod (.int .i64) (.prod (.int .i64) (.prod (.int .i64) (.int .i64))))))))) (.prod (.slice 3 (.int .i64)) (.prod .bool (.prod .bool (.prod (.slice 110 (.prod (.int .i64) (.prod (.int .i64) (.prod (.int .i64) .bool)))) (.prod (.int .i64) (.prod (.int .i64) (.int .i64))))))))))), .d false (.int .i64)]
def rules_Turned.rs : List (Bool × HT) := [(false, (.d (.int .i64)))]
def rules_Turned.lc : List AC := []
def rules_Turned.D (N : Nat) : DFn := ⟨rules_Turned.as, rules_Turned.rs, Int, fun x => rules_Turned N x.1 x.2.1, fun r o => r.1, fun b => (b, ()), fun b => ()⟩
theorem rules_Turned.fit (N : Nat) : (rules_Turned.D N).Fit := ⟨fun _ _ => rfl, fun _ _ => rfl, by kernel_rfl⟩
noncomputable def rules_Turned.G (N : Nat) : Gam := gamOf []
def rules_Turned.A : Nat → Option LoopAnn := fun _ => none
noncomputable def rules_Turned.fin (N : Nat) : St → Option Int := resK tb Try.f65.results.toList (decRes (rules_Turned.D N) rules_Turned.lc)
theorem rules_Turned.entry (N : Nat) (rec : List Item → St → Option Int) (x : (argH rules_Turned.as).den) : seg tb (rules_Turned.G N) rules_Turned.A 0 rec (rules_Turned.fin N) segFuel [.code (bodyOf Try.f65)] (initSt Try.f65 (encArgs rules_Turned.as x) (encMem rules_Turned.as x)) = rules_Turned.e N x.1 x.2.1 := by kernel_rfl
theorem rules_Turned.ok (N : Nat) : FnOk Try.prog 65 (rules_Turned.D N) := by
  refine FnOk_of tb_ok (Checked.mixed Try.checked) ⟨Try.f65, Try.func65, by kernel_rfl, by kernel_rfl, fun x y h => ⟨rules_Turned.G N, rules_Turned.A, N, gamOf_ok (fun p hp => nomatch hp), ?_⟩⟩ (rules_Turned.fit N)
  rw [absFn_n (n0 := 0) rfl (by kernel_rfl)]
  exact (rules_Turned.entry N _ x).trans h
/-! ### f64: gamehall/rules.Swapped -/
def rules_Swapped.as : List MK := [.d false (.int .i64)]
def rules_Swapped.rs : List (Bool × HT) := [(false, (.d (.int .i64)))]
def rules_Swapped.lc : List AC := []
def rules_Swapped.D (N : Nat) : DFn := ⟨rules_Swapped.as, rules_Swapped.rs, Int, fun x => rules_Swapped N x.1, fun r o => r.1, fun b => (b, ()), fun b => ()⟩
theorem rules_Swapped.fit (N : Nat) : (rules_Swapped.D N).Fit := ⟨fun _ _ => rfl, fun _ _ => rfl, by kernel_rfl⟩
noncomputable def rules_Swapped.G (N : Nat) : Gam := gamOf []
def rules_Swapped.A : Nat → Option LoopAnn := fun _ => none
noncomputable def rules_Swapped.fin (N : Nat) : St → Option Int := resK tb Try.f64.results.toList (decRes (rules_Swapped.D N) rules_Swapped.lc)
theorem rules_Swapped.entry (N : Nat) (rec : List Item → St → Option Int) (x : (argH rules_Swapped.as).den) : seg tb (rules_Swapped.G N) rules_Swapped.A 0 rec (rules_Swapped.fin N) segFuel [.code (bodyOf Try.f64)] (initSt Try.f64 (encArgs rules_Swapped.as x) (encMem rules_Swapped.as x)) = rules_Swapped.e N x.1 := by kernel_rfl
theorem rules_Swapped.ok (N : Nat) : FnOk Try.prog 64 (rules_Swapped.D N) := by
  refine FnOk_of tb_ok (Checked.mixed Try.checked) ⟨Try.f64, Try.func64, by kernel_rfl, by kernel_rfl, fun x y h => ⟨rules_Swapped.G N, rules_Swapped.A, N, gamOf_ok (fun p hp => nomatch hp), ?_⟩⟩ (rules_Swapped.fit N)
  rw [absFn_n (n0 := 0) rfl (by kernel_rfl)]
  exact (rules_Swapped.entry N _ x).trans h
/-! ### f21: gamehall/place.Other -/
def place_Other.as : List MK := [.d true (.prod .str (.prod (.int .i64) (.prod (.int .i64) (.prod (.slice 108 (.prod (.int .u8) (.prod (.int .i64) (.prod (.int .i64) (.slice 169 (.prod (.int .i64) (.prod (.int .i64) (.prod (.int .i64) (.int .i64))))))))) (.prod (.slice 3 (.int .i64)) (.prod .bool (.prod .bool (.prod (.slice 110 (.prod (.int .i64) (.prod (.int .i64) (.prod (.int .i64) .bool)))) (.prod (.int .i64) (.prod (.int .i64) (.int .i64))))))))))), .d true (.prod (.slice 3 (.int .i64)) (.prod (.prod (.slice 3 (.int .i64)) (.slice 3 (.int .i64))) (.prod (.int .i64) (.int .i64))))]
def place_Other.rs : List (Bool × HT) := [(true, (.prod (.own 3 (.int .i64)) (.prod (.prod (.own 3 (.int .i64)) (.own 3 (.int .i64))) (.d (.prod (.int .i64) (.int .i64)))))), (false, (.d (.int .i64)))]
def place_Other.lc : List AC := []
def place_Other.D (N : Nat) : DFn := ⟨place_Other.as, place_Other.rs, (((List Int) × (((List Int) × (List Int)) × (Int × Int))) × Int), fun x => place_Other N x.1 x.2.1, fun r o => (r.1, r.2.1), fun b => (b.1, (b.2, ())), fun b => ()⟩
theorem place_Other.fit (N : Nat) : (place_Other.D N).Fit := ⟨fun _ _ => rfl, fun _ _ => rfl, by kernel_rfl⟩
noncomputable def place_Other.G (N : Nat) : Gam := gamOf [(27, place_Check.D N), (63, place_Copy.D N), (65, rules_Turned.D N), (64, rules_Swapped.D N)]
def place_Other.A : Nat → Option LoopAnn := fun k => bif Nat.beq k 0 then some ⟨[2, 3, 4, 7, 20, 21, 22], [], [], [], [], 7, false⟩ else none
noncomputable def place_Other.fin (N : Nat) : St → Option (((List Int) × (((List Int) × (List Int)) × (Int × Int))) × Int) := resK tb Try.f21.results.toList (decRes (place_Other.D N) place_Other.lc)
noncomputable def place_Other.k0 : List Item := stackAt [.r, .r, .r, .l, .r, .b] (bodyOf Try.f21) []
def place_Other.st0 (r_ : (ByteArray × (Int × (Int × ((List (Int × (Int × (Int × (List (Int × (Int × (Int × Int)))))))) × ((List Int) × (Bool × (Bool × ((List (Int × (Int × (Int × Bool)))) × (Int × (Int × Int))))))))))) (p_ : ((List Int) × (((List Int) × (List Int)) × (Int × Int)))) (t22_ : Int) (m3_ : (List Int)) (m4_ : (List Int)) (m5_ : (List Int)) (out : Int) (out2 : Int) : St := ⟨[.one .any, .one .any, .one (.ptr 0 0), .one (.ptr 1 0), .one (.ptr 2 0), .one .any, .one .any, .one (.ptr 6 0)] ++ List.replicate 12 (.one .any) ++ [.one (.fro 3 (.int .i64) p_.1), .one (.int .i64 (p_.1.length : Int)), .one (.int .i64 t22_)] ++ List.replicate 28 (.one .any), [.var 36 [.str r_.1, .int .i64 r_.2.1, .int .i64 r_.2.2.1, .fro 108 (.prod (.int .u8) (.prod (.int .i64) (.prod (.int .i64) (.slice 169 (.prod (.int .i64) (.prod (.int .i64) (.prod (.int .i64) (.int .i64)))))))) r_.2.2.2.1, .fro 3 (.int .i64) r_.2.2.2.2.1, .bool r_.2.2.2.2.2.1, .bool r_.2.2.2.2.2.2.1, .fro 110 (.prod (.int .i64) (.prod (.int .i64) (.prod (.int .i64) .bool))) r_.2.2.2.2.2.2.2.1, .int .i64 r_.2.2.2.2.2.2.2.2.1, .int .i64 r_.2.2.2.2.2.2.2.2.2.1, .int .i64 r_.2.2.2.2.2.2.2.2.2.2], .var 39 [.fro 3 (.int .i64) p_.1, .fro 3 (.int .i64) p_.2.1.1, .fro 3 (.int .i64) p_.2.1.2, .int .i64 p_.2.2.1, .int .i64 p_.2.2.2], .var 39 [.nilS, .nilS, .nilS, .int .i64 0, .int .i64 0], .row 3 (.int .i64) m3_, .row 3 (.int .i64) m4_, .row 3 (.int .i64) m5_, .var 39 [.own 3, .own 4, .own 5, .int .i64 out, .int .i64 out2]]⟩
theorem place_Other.step0 (N : Nat) (rec : List Item → St → Option (((List Int) × (((List Int) × (List Int)) × (Int × Int))) × Int)) (r_ : (ByteArray × (Int × (Int × ((List (Int × (Int × (Int × (List (Int × (Int × (Int × Int)))))))) × ((List Int) × (Bool × (Bool × ((List (Int × (Int × (Int × Bool)))) × (Int × (Int × Int))))))))))) (p_ : ((List Int) × (((List Int) × (List Int)) × (Int × Int)))) (t22_ : Int) (m3_ : (List Int)) (m4_ : (List Int)) (m5_ : (List Int)) (out : Int) (out2 : Int) : seg tb (place_Other.G N) place_Other.A 0 rec (place_Other.fin N) segFuel (loopBody place_Other.k0) (place_Other.st0 r_ p_ t22_ m3_ m4_ m5_ out out2) = place_Other.s0 N r_ p_ (fun t22_ m3_ m4_ m5_ out out2 => rec place_Other.k0 (place_Other.st0 r_ p_ t22_ m3_ m4_ m5_ out out2)) t22_ m3_ m4_ m5_ out out2 := by kernel_rfl
theorem place_Other.entry (N : Nat) (rec : List Item → St → Option (((List Int) × (((List Int) × (List Int)) × (Int × Int))) × Int)) (x : (argH place_Other.as).den) : seg tb (place_Other.G N) place_Other.A 0 rec (place_Other.fin N) segFuel [.code (bodyOf Try.f21)] (initSt Try.f21 (encArgs place_Other.as x) (encMem place_Other.as x)) = place_Other.e N (fun t22_ m3_ m4_ m5_ out out2 => rec place_Other.k0 (place_Other.st0 x.1 x.2.1 t22_ m3_ m4_ m5_ out out2)) x.1 x.2.1 := by kernel_rfl
theorem place_Other.runs (N : Nat) (r_ : (ByteArray × (Int × (Int × ((List (Int × (Int × (Int × (List (Int × (Int × (Int × Int)))))))) × ((List Int) × (Bool × (Bool × ((List (Int × (Int × (Int × Bool)))) × (Int × (Int × Int))))))))))) (p_ : ((List Int) × (((List Int) × (List Int)) × (Int × Int)))) : ∀ n, (∀ (t22_ : Int) (m3_ : (List Int)) (m4_ : (List Int)) (m5_ : (List Int)) (out : Int) (out2 : Int), run tb (place_Other.G N) place_Other.A 0 (place_Other.fin N) n place_Other.k0 (place_Other.st0 r_ p_ t22_ m3_ m4_ m5_ out out2) = place_Other.l0 N r_ p_ n t22_ m3_ m4_ m5_ out out2)
  | 0 => fun _ _ _ _ _ _ => rfl
  | n + 1 => by
    have h0 := place_Other.runs N r_ p_ n
    have e0 : (fun (t22_ : Int) (m3_ : (List Int)) (m4_ : (List Int)) (m5_ : (List Int)) (out : Int) (out2 : Int) => run tb (place_Other.G N) place_Other.A 0 (place_Other.fin N) n place_Other.k0 (place_Other.st0 r_ p_ t22_ m3_ m4_ m5_ out out2)) = place_Other.l0 N r_ p_ n := by funext t22_ m3_ m4_ m5_ out out2; exact h0 t22_ m3_ m4_ m5_ out out2
    have g0 : (∀ (t22_ : Int) (m3_ : (List Int)) (m4_ : (List Int)) (m5_ : (List Int)) (out : Int) (out2 : Int), run tb (place_Other.G N) place_Other.A 0 (place_Other.fin N) (n + 1) place_Other.k0 (place_Other.st0 r_ p_ t22_ m3_ m4_ m5_ out out2) = place_Other.l0 N r_ p_ (n + 1) t22_ m3_ m4_ m5_ out out2) := by
      intro t22_ m3_ m4_ m5_ out out2
      exact (run_succ (by kernel_rfl)).trans ((place_Other.step0 N _ r_ p_ t22_ m3_ m4_ m5_ out out2).trans ((congrArg (fun r0 => place_Other.s0 N r_ p_ r0 t22_ m3_ m4_ m5_ out out2) e0).trans (place_Other.l0_s N r_ p_ n t22_ m3_ m4_ m5_ out out2).symm))
    exact g0
theorem place_Other.ok (N : Nat) : FnOk Try.prog 21 (place_Other.D N) := by
  refine FnOk_of tb_ok (Checked.mixed Try.checked) ⟨Try.f21, Try.func21, by kernel_rfl, by kernel_rfl, fun x y h => ⟨place_Other.G N, place_Other.A, N, gamOf_ok (by simp only [List.forall_mem_cons, List.not_mem_nil, false_implies, implies_true, and_true]; exact ⟨⟨place_Check.ok N, place_Check.fit N⟩, ⟨place_Copy.ok N, place_Copy.fit N⟩, ⟨rules_Turned.ok N, rules_Turned.fit N⟩, ⟨rules_Swapped.ok N, rules_Swapped.fit N⟩⟩), ?_⟩⟩ (place_Other.fit N)
  rw [absFn_n (n0 := 0) rfl (by kernel_rfl)]
  refine (place_Other.entry N (run tb (place_Other.G N) place_Other.A 0 (place_Other.fin N) N) x).trans ?_
  have e0 : (fun (t22_ : Int) (m3_ : (List Int)) (m4_ : (List Int)) (m5_ : (List Int)) (out : Int) (out2 : Int) => run tb (place_Other.G N) place_Other.A 0 (place_Other.fin N) N place_Other.k0 (place_Other.st0 x.1 x.2.1 t22_ m3_ m4_ m5_ out out2)) = place_Other.l0 N x.1 x.2.1 N := by funext t22_ m3_ m4_ m5_ out out2; exact (place_Other.runs N x.1 x.2.1 N) t22_ m3_ m4_ m5_ out out2
  have h' : (place_Other.D N).f x = place_Other.e N (place_Other.l0 N x.1 x.2.1 N) x.1 x.2.1 := by kernel_rfl
  exact (congrArg (fun r0 => place_Other.e N r0 x.1 x.2.1) e0).trans (h'.symm.trans h)
/-! ### f24: slices.Equal[[]int,int] -/
def slices_Equal_int_int.as : List MK := [.d false (.slice 3 (.int .i64)), .d false (.slice 3 (.int .i64))]
def slices_Equal_int_int.rs : List (Bool × HT) := [(false, (.d .bool))]
def slices_Equal_int_int.lc : List AC := []
def slices_Equal_int_int.D (N : Nat) : DFn := ⟨slices_Equal_int_int.as, slices_Equal_int_int.rs, Bool, fun x => slices_Equal_int_int N x.1 x.2.1, fun r o => r.1, fun b => (b, ()), fun b => ()⟩
theorem slices_Equal_int_int.fit (N : Nat) : (slices_Equal_int_int.D N).Fit := ⟨fun _ _ => rfl, fun _ _ => rfl, by kernel_rfl⟩
noncomputable def slices_Equal_int_int.G (N : Nat) : Gam := gamOf []
def slices_Equal_int_int.A : Nat → Option LoopAnn := fun k => bif Nat.beq k 0 then some ⟨[0, 1, 12, 13], [], [], [], [], 0, false⟩ else none
noncomputable def slices_Equal_int_int.fin (N : Nat) : St → Option Bool := resK tb Try.f24.results.toList (decRes (slices_Equal_int_int.D N) slices_Equal_int_int.lc)
noncomputable def slices_Equal_int_int.k0 : List Item := stackAt [.r, .r, .l, .r, .b] (bodyOf Try.f24) []
def slices_Equal_int_int.st0 (s1_ : (List Int)) (s2_ : (List Int)) (t13_ : Int) : St := ⟨[.one (.fro 3 (.int .i64) s1_), .one (.fro 3 (.int .i64) s2_)] ++ List.replicate 10 (.one .any) ++ [.one (.int .i64 (s1_.length : Int)), .one (.int .i64 t13_)] ++ List.replicate 12 (.one .any), []⟩
theorem slices_Equal_int_int.step0 (N : Nat) (rec : List Item → St → Option Bool) (s1_ : (List Int)) (s2_ : (List Int)) (t13_ : Int) : seg tb (slices_Equal_int_int.G N) slices_Equal_int_int.A 0 rec (slices_Equal_int_int.fin N) segFuel (loopBody slices_Equal_int_int.k0) (slices_Equal_int_int.st0 s1_ s2_ t13_) = slices_Equal_int_int.s0 N s1_ s2_ (fun t13_ => rec slices_Equal_int_int.k0 (slices_Equal_int_int.st0 s1_ s2_ t13_)) t13_ := by kernel_rfl
theorem slices_Equal_int_int.entry (N : Nat) (rec : List Item → St → Option Bool) (x : (argH slices_Equal_int_int.as).den) : seg tb (slices_Equal_int_int.G N) slices_Equal_int_int.A 0 rec (slices_Equal_int_int.fin N) segFuel [.code (bodyOf Try.f24)] (initSt Try.f24 (encArgs slices_Equal_int_int.as x) (encMem slices_Equal_int_int.as x)) = slices_Equal_int_int.e N (fun t13_ => rec slices_Equal_int_int.k0 (slices_Equal_int_int.st0 x.1 x.2.1 t13_)) x.1 x.2.1 := by kernel_rfl
theorem slices_Equal_int_int.runs (N : Nat) (s1_ : (List Int)) (s2_ : (List Int)) : ∀ n, (∀ (t13_ : Int), run tb (slices_Equal_int_int.G N) slices_Equal_int_int.A 0 (slices_Equal_int_int.fin N) n slices_Equal_int_int.k0 (slices_Equal_int_int.st0 s1_ s2_ t13_) = slices_Equal_int_int.l0 N s1_ s2_ n t13_)
  | 0 => fun _ => rfl
  | n + 1 => by
    have h0 := slices_Equal_int_int.runs N s1_ s2_ n
    have e0 : (fun (t13_ : Int) => run tb (slices_Equal_int_int.G N) slices_Equal_int_int.A 0 (slices_Equal_int_int.fin N) n slices_Equal_int_int.k0 (slices_Equal_int_int.st0 s1_ s2_ t13_)) = slices_Equal_int_int.l0 N s1_ s2_ n := by funext t13_; exact h0 t13_
    have g0 : (∀ (t13_ : Int), run tb (slices_Equal_int_int.G N) slices_Equal_int_int.A 0 (slices_Equal_int_int.fin N) (n + 1) slices_Equal_int_int.k0 (slices_Equal_int_int.st0 s1_ s2_ t13_) = slices_Equal_int_int.l0 N s1_ s2_ (n + 1) t13_) := by
      intro t13_
      exact (run_succ (by kernel_rfl)).trans ((slices_Equal_int_int.step0 N _ s1_ s2_ t13_).trans ((congrArg (fun r0 => slices_Equal_int_int.s0 N s1_ s2_ r0 t13_) e0).trans (slices_Equal_int_int.l0_s N s1_ s2_ n t13_).symm))
    exact g0
theorem slices_Equal_int_int.ok (N : Nat) : FnOk Try.prog 24 (slices_Equal_int_int.D N) := by
  refine FnOk_of tb_ok (Checked.mixed Try.checked) ⟨Try.f24, Try.func24, by kernel_rfl, by kernel_rfl, fun x y h => ⟨slices_Equal_int_int.G N, slices_Equal_int_int.A, N, gamOf_ok (fun p hp => nomatch hp), ?_⟩⟩ (slices_Equal_int_int.fit N)
  rw [absFn_n (n0 := 0) rfl (by kernel_rfl)]
  refine (slices_Equal_int_int.entry N (run tb (slices_Equal_int_int.G N) slices_Equal_int_int.A 0 (slices_Equal_int_int.fin N) N) x).trans ?_
  have e0 : (fun (t13_ : Int) => run tb (slices_Equal_int_int.G N) slices_Equal_int_int.A 0 (slices_Equal_int_int.fin N) N slices_Equal_int_int.k0 (slices_Equal_int_int.st0 x.1 x.2.1 t13_)) = slices_Equal_int_int.l0 N x.1 x.2.1 N := by funext t13_; exact (slices_Equal_int_int.runs N x.1 x.2.1 N) t13_
  have h' : (slices_Equal_int_int.D N).f x = slices_Equal_int_int.e N (slices_Equal_int_int.l0 N x.1 x.2.1 N) x.1 x.2.1 := by kernel_rfl
  exact (congrArg (fun r0 => slices_Equal_int_int.e N r0 x.1 x.2.1) e0).trans (h'.symm.trans h)
/-! ### f25: gamehall/place.Same -/
def place_Same.as : List MK := [.d true (.prod (.slice 3 (.int .i64)) (.prod (.prod (.slice 3 (.int .i64)) (.slice 3 (.int .i64))) (.prod (.int .i64) (.int .i64)))), .d true (.prod (.slice 3 (.int .i64)) (.prod (.prod (.slice 3 (.int .i64)) (.slice 3 (.int .i64))) (.prod (.int .i64) (.int .i64))))]
def place_Same.rs : List (Bool × HT) := [(false, (.d .bool))]
def place_Same.lc : List AC := []
def place_Same.D (N : Nat) : DFn := ⟨place_Same.as, place_Same.rs, Bool, fun x => place_Same N x.1 x.2.1, fun r o => r.1, fun b => (b, ()), fun b => ()⟩
theorem place_Same.fit (N : Nat) : (place_Same.D N).Fit := ⟨fun _ _ => rfl, fun _ _ => rfl, by kernel_rfl⟩
noncomputable def place_Same.G (N : Nat) : Gam := gamOf [(24, slices_Equal_int_int.D N)]
def place_Same.A : Nat → Option LoopAnn := fun _ => none
noncomputable def place_Same.fin (N : Nat) : St → Option Bool := resK tb Try.f25.results.toList (decRes (place_Same.D N) place_Same.lc)
theorem place_Same.entry (N : Nat) (rec : List Item → St → Option Bool) (x : (argH place_Same.as).den) : seg tb (place_Same.G N) place_Same.A 0 rec (place_Same.fin N) segFuel [.code (bodyOf Try.f25)] (initSt Try.f25 (encArgs place_Same.as x) (encMem place_Same.as x)) = place_Same.e N x.1 x.2.1 := by kernel_rfl
theorem place_Same.ok (N : Nat) : FnOk Try.prog 25 (place_Same.D N) := by
  refine FnOk_of tb_ok (Checked.mixed Try.checked) ⟨Try.f25, Try.func25, by kernel_rfl, by kernel_rfl, fun x y h => ⟨place_Same.G N, place_Same.A, N, gamOf_ok (by simp only [List.forall_mem_cons, List.not_mem_nil, false_implies, implies_true, and_true]; exact ⟨slices_Equal_int_int.ok N, slices_Equal_int_int.fit N⟩), ?_⟩⟩ (place_Same.fit N)
  rw [absFn_n (n0 := 0) rfl (by kernel_rfl)]
  exact (place_Same.entry N _ x).trans h
/-! ### f67: gamehall/rules.Copy -/
def rules_Copy.as : List MK := [.d true (.prod .str (.prod (.int .i64) (.prod (.int .i64) (.prod (.slice 108 (.prod (.int .u8) (.prod (.int .i64) (.prod (.int .i64) (.slice 169 (.prod (.int .i64) (.prod (.int .i64) (.prod (.int .i64) (.int .i64))))))))) (.prod (.slice 3 (.int .i64)) (.prod .bool (.prod .bool (.prod (.slice 110 (.prod (.int .i64) (.prod (.int .i64) (.prod (.int .i64) .bool)))) (.prod (.int .i64) (.prod (.int .i64) (.int .i64)))))))))))]
def rules_Copy.rs : List (Bool × HT) := [(true, (.prod (.d .str) (.prod (.d (.int .i64)) (.prod (.d (.int .i64)) (.prod (.own 108 (.prod (.int .u8) (.prod (.int .i64) (.prod (.int .i64) (.slice 169 (.prod (.int .i64) (.prod (.int .i64) (.prod (.int .i64) (.int .i64))))))))) (.prod (.own 3 (.int .i64)) (.prod (.d .bool) (.prod (.d .bool) (.prod (.own 110 (.prod (.int .i64) (.prod (.int .i64) (.prod (.int .i64) .bool)))) (.d (.prod (.int .i64) (.prod (.int .i64) (.int .i64)))))))))))))]
def rules_Copy.lc : List AC := []
def rules_Copy.D (N : Nat) : DFn := ⟨rules_Copy.as, rules_Copy.rs, (ByteArray × (Int × (Int × ((List (Int × (Int × (Int × (List (Int × (Int × (Int × Int)))))))) × ((List Int) × (Bool × (Bool × ((List (Int × (Int × (Int × Bool)))) × (Int × (Int × Int)))))))))), fun x => rules_Copy N x.1, fun r o => r.1, fun b => (b, ()), fun b => ()⟩
theorem rules_Copy.fit (N : Nat) : (rules_Copy.D N).Fit := ⟨fun _ _ => rfl, fun _ _ => rfl, by kernel_rfl⟩
noncomputable def rules_Copy.G (N : Nat) : Gam := gamOf []
def rules_Copy.A : Nat → Option LoopAnn := fun k => bif Nat.beq k 0 then some ⟨[1, 2, 3, 13, 14, 15], [], [], [], [], 4, false⟩ else none
noncomputable def rules_Copy.fin (N : Nat) : St → Option (ByteArray × (Int × (Int × ((List (Int × (Int × (Int × (List (Int × (Int × (Int × Int)))))))) × ((List Int) × (Bool × (Bool × ((List (Int × (Int × (Int × Bool)))) × (Int × (Int × Int)))))))))) := resK tb Try.f67.results.toList (decRes (rules_Copy.D N) rules_Copy.lc)
noncomputable def rules_Copy.k0 : List Item := stackAt [.r, .r, .r, .l, .r, .b] (bodyOf Try.f67) []
def rules_Copy.st0 (r_ : (ByteArray × (Int × (Int × ((List (Int × (Int × (Int × (List (Int × (Int × (Int × Int)))))))) × ((List Int) × (Bool × (Bool × ((List (Int × (Int × (Int × Bool)))) × (Int × (Int × Int))))))))))) (t14_ : Int) (t15_ : Int) (m3_ : (List (Int × (Int × (Int × (List (Int × (Int × (Int × Int))))))))) : St := ⟨[.one .any, .one (.ptr 0 0), .one (.ptr 1 0), .one (.ptr 2 0)] ++ List.replicate 9 (.one .any) ++ [.one (.fro 108 (.prod (.int .u8) (.prod (.int .i64) (.prod (.int .i64) (.slice 169 (.prod (.int .i64) (.prod (.int .i64) (.prod (.int .i64) (.int .i64)))))))) r_.2.2.2.1), .one (.int .i64 t14_), .one (.int .i64 t15_)] ++ List.replicate 23 (.one .any), [.var 36 [.str r_.1, .int .i64 r_.2.1, .int .i64 r_.2.2.1, .fro 108 (.prod (.int .u8) (.prod (.int .i64) (.prod (.int .i64) (.slice 169 (.prod (.int .i64) (.prod (.int .i64) (.prod (.int .i64) (.int .i64)))))))) r_.2.2.2.1, .fro 3 (.int .i64) r_.2.2.2.2.1, .bool r_.2.2.2.2.2.1, .bool r_.2.2.2.2.2.2.1, .fro 110 (.prod (.int .i64) (.prod (.int .i64) (.prod (.int .i64) .bool))) r_.2.2.2.2.2.2.2.1, .int .i64 r_.2.2.2.2.2.2.2.2.1, .int .i64 r_.2.2.2.2.2.2.2.2.2.1, .int .i64 r_.2.2.2.2.2.2.2.2.2.2], .var 36 [.str (⟨#[]⟩ : ByteArray), .int .i64 0, .int .i64 0, .nilS, .nilS, .bool false, .bool false, .nilS, .int .i64 0, .int .i64 0, .int .i64 0], .var 36 [.str r_.1, .int .i64 r_.2.1, .int .i64 r_.2.2.1, .own 3, .fro 3 (.int .i64) r_.2.2.2.2.1, .bool r_.2.2.2.2.2.1, .bool r_.2.2.2.2.2.2.1, .fro 110 (.prod (.int .i64) (.prod (.int .i64) (.prod (.int .i64) .bool))) r_.2.2.2.2.2.2.2.1, .int .i64 r_.2.2.2.2.2.2.2.2.1, .int .i64 r_.2.2.2.2.2.2.2.2.2.1, .int .i64 r_.2.2.2.2.2.2.2.2.2.2], .row 108 (.prod (.int .u8) (.prod (.int .i64) (.prod (.int .i64) (.slice 169 (.prod (.int .i64) (.prod (.int .i64) (.prod (.int .i64) (.int .i64)))))))) m3_]⟩
theorem rules_Copy.step0 (N : Nat) (rec : List Item → St → Option (ByteArray × (Int × (Int × ((List (Int × (Int × (Int × (List (Int × (Int × (Int × Int)))))))) × ((List Int) × (Bool × (Bool × ((List (Int × (Int × (Int × Bool)))) × (Int × (Int × Int))))))))))) (r_ : (ByteArray × (Int × (Int × ((List (Int × (Int × (Int × (List (Int × (Int × (Int × Int)))))))) × ((List Int) × (Bool × (Bool × ((List (Int × (Int × (Int × Bool)))) × (Int × (Int × Int))))))))))) (t14_ : Int) (t15_ : Int) (m3_ : (List (Int × (Int × (Int × (List (Int × (Int × (Int × Int))))))))) : seg tb (rules_Copy.G N) rules_Copy.A 0 rec (rules_Copy.fin N) segFuel (loopBody rules_Copy.k0) (rules_Copy.st0 r_ t14_ t15_ m3_) = rules_Copy.s0 N r_ (fun t14_ t15_ m3_ => rec rules_Copy.k0 (rules_Copy.st0 r_ t14_ t15_ m3_)) t14_ t15_ m3_ := by kernel_rfl
theorem rules_Copy.entry (N : Nat) (rec : List Item → St → Option (ByteArray × (Int × (Int × ((List (Int × (Int × (Int × (List (Int × (Int × (Int × Int)))))))) × ((List Int) × (Bool × (Bool × ((List (Int × (Int × (Int × Bool)))) × (Int × (Int × Int))))))))))) (x : (argH rules_Copy.as).den) : seg tb (rules_Copy.G N) rules_Copy.A 0 rec (rules_Copy.fin N) segFuel [.code (bodyOf Try.f67)] (initSt Try.f67 (encArgs rules_Copy.as x) (encMem rules_Copy.as x)) = rules_Copy.e N (fun t14_ t15_ m3_ => rec rules_Copy.k0 (rules_Copy.st0 x.1 t14_ t15_ m3_)) x.1 := by kernel_rfl
theorem rules_Copy.runs (N : Nat) (r_ : (ByteArray × (Int × (Int × ((List (Int × (Int × (Int × (List (Int × (Int × (Int × Int)))))))) × ((List Int) × (Bool × (Bool × ((List (Int × (Int × (Int × Bool)))) × (Int × (Int × Int))))))))))) : ∀ n, (∀ (t14_ : Int) (t15_ : Int) (m3_ : (List (Int × (Int × (Int × (List (Int × (Int × (Int × Int))))))))), run tb (rules_Copy.G N) rules_Copy.A 0 (rules_Copy.fin N) n rules_Copy.k0 (rules_Copy.st0 r_ t14_ t15_ m3_) = rules_Copy.l0 N r_ n t14_ t15_ m3_)
  | 0 => fun _ _ _ => rfl
  | n + 1 => by
    have h0 := rules_Copy.runs N r_ n
    have e0 : (fun (t14_ : Int) (t15_ : Int) (m3_ : (List (Int × (Int × (Int × (List (Int × (Int × (Int × Int))))))))) => run tb (rules_Copy.G N) rules_Copy.A 0 (rules_Copy.fin N) n rules_Copy.k0 (rules_Copy.st0 r_ t14_ t15_ m3_)) = rules_Copy.l0 N r_ n := by funext t14_ t15_ m3_; exact h0 t14_ t15_ m3_
    have g0 : (∀ (t14_ : Int) (t15_ : Int) (m3_ : (List (Int × (Int × (Int × (List (Int × (Int × (Int × Int))))))))), run tb (rules_Copy.G N) rules_Copy.A 0 (rules_Copy.fin N) (n + 1) rules_Copy.k0 (rules_Copy.st0 r_ t14_ t15_ m3_) = rules_Copy.l0 N r_ (n + 1) t14_ t15_ m3_) := by
      intro t14_ t15_ m3_
      exact (run_succ (by kernel_rfl)).trans ((rules_Copy.step0 N _ r_ t14_ t15_ m3_).trans ((congrArg (fun r0 => rules_Copy.s0 N r_ r0 t14_ t15_ m3_) e0).trans (rules_Copy.l0_s N r_ n t14_ t15_ m3_).symm))
    exact g0
theorem rules_Copy.ok (N : Nat) : FnOk Try.prog 67 (rules_Copy.D N) := by
  refine FnOk_of tb_ok (Checked.mixed Try.checked) ⟨Try.f67, Try.func67, by kernel_rfl, by kernel_rfl, fun x y h => ⟨rules_Copy.G N, rules_Copy.A, N, gamOf_ok (fun p hp => nomatch hp), ?_⟩⟩ (rules_Copy.fit N)
  rw [absFn_n (n0 := 0) rfl (by kernel_rfl)]
  refine (rules_Copy.entry N (run tb (rules_Copy.G N) rules_Copy.A 0 (rules_Copy.fin N) N) x).trans ?_
  have e0 : (fun (t14_ : Int) (t15_ : Int) (m3_ : (List (Int × (Int × (Int × (List (Int × (Int × (Int × Int))))))))) => run tb (rules_Copy.G N) rules_Copy.A 0 (rules_Copy.fin N) N rules_Copy.k0 (rules_Copy.st0 x.1 t14_ t15_ m3_)) = rules_Copy.l0 N x.1 N := by funext t14_ t15_ m3_; exact (rules_Copy.runs N x.1 N) t14_ t15_ m3_
  have h' : (rules_Copy.D N).f x = rules_Copy.e N (rules_Copy.l0 N x.1 N) x.1 := by kernel_rfl
  exact (congrArg (fun r0 => rules_Copy.e N r0 x.1) e0).trans (h'.symm.trans h)
/-! ### f26: gamehall/rules.Mirror -/
def rules_Mirror.as : List MK := [.d true (.prod .str (.prod (.int .i64) (.prod (.int .i64) (.prod (.slice 108 (.prod (.int .u8) (.prod (.int .i64) (.prod (.int .i64) (.slice 169 (.prod (.int .i64) (.prod (.int .i64) (.prod (.int .i64) (.int .i64))))))))) (.prod (.slice 3 (.int .i64)) (.prod .bool (.prod .bool (.prod (.slice 110 (.prod (.int .i64) (.prod (.int .i64) (.prod (.int .i64) .bool)))) (.prod (.int .i64) (.prod (.int .i64) (.int .i64)))))))))))]
def rules_Mirror.rs : List (Bool × HT) := [(true, (.prod (.d .str) (.prod (.d (.int .i64)) (.prod (.d (.int .i64)) (.prod (.own 108 (.prod (.int .u8) (.prod (.int .i64) (.prod (.int .i64) (.slice 169 (.prod (.int .i64) (.prod (.int .i64) (.prod (.int .i64) (.int .i64))))))))) (.prod (.own 3 (.int .i64)) (.prod (.d .bool) (.prod (.d .bool) (.prod (.own 110 (.prod (.int .i64) (.prod (.int .i64) (.prod (.int .i64) .bool)))) (.d (.prod (.int .i64) (.prod (.int .i64) (.int .i64))))))))))))), (false, (.d (.int .i64)))]
def rules_Mirror.lc : List AC := []
def rules_Mirror.D (N : Nat) : DFn := ⟨rules_Mirror.as, rules_Mirror.rs, ((ByteArray × (Int × (Int × ((List (Int × (Int × (Int × (List (Int × (Int × (Int × Int)))))))) × ((List Int) × (Bool × (Bool × ((List (Int × (Int × (Int × Bool)))) × (Int × (Int × Int)))))))))) × Int), fun x => rules_Mirror N x.1, fun r o => (r.1, r.2.1), fun b => (b.1, (b.2, ())), fun b => ()⟩
theorem rules_Mirror.fit (N : Nat) : (rules_Mirror.D N).Fit := ⟨fun _ _ => rfl, fun _ _ => rfl, by kernel_rfl⟩
noncomputable def rules_Mirror.G (N : Nat) : Gam := gamOf [(66, rules_Check.D N), (67, rules_Copy.D N), (65, rules_Turned.D N), (64, rules_Swapped.D N)]
def rules_Mirror.A : Nat → Option LoopAnn := fun k => bif Nat.beq k 0 then some ⟨[1, 2, 5, 17, 18, 19], [], [], [], [], 6, false⟩ else none
noncomputable def rules_Mirror.fin (N : Nat) : St → Option ((ByteArray × (Int × (Int × ((List (Int × (Int × (Int × (List (Int × (Int × (Int × Int)))))))) × ((List Int) × (Bool × (Bool × ((List (Int × (Int × (Int × Bool)))) × (Int × (Int × Int)))))))))) × Int) := resK tb Try.f26.results.toList (decRes (rules_Mirror.D N) rules_Mirror.lc)
noncomputable def rules_Mirror.k0 : List Item := stackAt [.r, .r, .r, .l, .r, .b] (bodyOf Try.f26) []
def rules_Mirror.st0 (r_ : (ByteArray × (Int × (Int × ((List (Int × (Int × (Int × (List (Int × (Int × (Int × Int)))))))) × ((List Int) × (Bool × (Bool × ((List (Int × (Int × (Int × Bool)))) × (Int × (Int × Int))))))))))) (t18_ : Int) (t19_ : Int) (m2_ : (List (Int × (Int × (Int × (List (Int × (Int × (Int × Int))))))))) (m3_ : (List Int)) (m4_ : (List (Int × (Int × (Int × Bool))))) (out : ByteArray) (out2 : Int) (out3 : Int) (out4 : Bool) (out5 : Bool) (out6 : Int) (out7 : Int) (out8 : Int) : St := ⟨[.one .any, .one (.ptr 0 0), .one (.ptr 1 0), .one .any, .one .any, .one (.ptr 5 0)] ++ List.replicate 11 (.one .any) ++ [.one (.fro 3 (.int .i64) r_.2.2.2.2.1), .one (.int .i64 t18_), .one (.int .i64 t19_)] ++ List.replicate 14 (.one .any), [.var 36 [.str r_.1, .int .i64 r_.2.1, .int .i64 r_.2.2.1, .fro 108 (.prod (.int .u8) (.prod (.int .i64) (.prod (.int .i64) (.slice 169 (.prod (.int .i64) (.prod (.int .i64) (.prod (.int .i64) (.int .i64)))))))) r_.2.2.2.1, .fro 3 (.int .i64) r_.2.2.2.2.1, .bool r_.2.2.2.2.2.1, .bool r_.2.2.2.2.2.2.1, .fro 110 (.prod (.int .i64) (.prod (.int .i64) (.prod (.int .i64) .bool))) r_.2.2.2.2.2.2.2.1, .int .i64 r_.2.2.2.2.2.2.2.2.1, .int .i64 r_.2.2.2.2.2.2.2.2.2.1, .int .i64 r_.2.2.2.2.2.2.2.2.2.2], .var 36 [.str (⟨#[]⟩ : ByteArray), .int .i64 0, .int .i64 0, .nilS, .nilS, .bool false, .bool false, .nilS, .int .i64 0, .int .i64 0, .int .i64 0], .row 108 (.prod (.int .u8) (.prod (.int .i64) (.prod (.int .i64) (.slice 169 (.prod (.int .i64) (.prod (.int .i64) (.prod (.int .i64) (.int .i64)))))))) m2_, .row 3 (.int .i64) m3_, .row 110 (.prod (.int .i64) (.prod (.int .i64) (.prod (.int .i64) .bool))) m4_, .var 36 [.str out, .int .i64 out2, .int .i64 out3, .own 2, .own 3, .bool out4, .bool out5, .own 4, .int .i64 out6, .int .i64 out7, .int .i64 out8]]⟩
theorem rules_Mirror.step0 (N : Nat) (rec : List Item → St → Option ((ByteArray × (Int × (Int × ((List (Int × (Int × (Int × (List (Int × (Int × (Int × Int)))))))) × ((List Int) × (Bool × (Bool × ((List (Int × (Int × (Int × Bool)))) × (Int × (Int × Int)))))))))) × Int)) (r_ : (ByteArray × (Int × (Int × ((List (Int × (Int × (Int × (List (Int × (Int × (Int × Int)))))))) × ((List Int) × (Bool × (Bool × ((List (Int × (Int × (Int × Bool)))) × (Int × (Int × Int))))))))))) (t18_ : Int) (t19_ : Int) (m2_ : (List (Int × (Int × (Int × (List (Int × (Int × (Int × Int))))))))) (m3_ : (List Int)) (m4_ : (List (Int × (Int × (Int × Bool))))) (out : ByteArray) (out2 : Int) (out3 : Int) (out4 : Bool) (out5 : Bool) (out6 : Int) (out7 : Int) (out8 : Int) : seg tb (rules_Mirror.G N) rules_Mirror.A 0 rec (rules_Mirror.fin N) segFuel (loopBody rules_Mirror.k0) (rules_Mirror.st0 r_ t18_ t19_ m2_ m3_ m4_ out out2 out3 out4 out5 out6 out7 out8) = rules_Mirror.s0 N r_ (fun t18_ t19_ m2_ m3_ m4_ out out2 out3 out4 out5 out6 out7 out8 => rec rules_Mirror.k0 (rules_Mirror.st0 r_ t18_ t19_ m2_ m3_ m4_ out out2 out3 out4 out5 out6 out7 out8)) t18_ t19_ m2_ m3_ m4_ out out2 out3 out4 out5 out6 out7 out8 := by kernel_rfl
theorem rules_Mirror.entry (N : Nat) (rec : List Item → St → Option ((ByteArray × (Int × (Int × ((List (Int × (Int × (Int × (List (Int × (Int × (Int × Int)))))))) × ((List Int) × (Bool × (Bool × ((List (Int × (Int × (Int × Bool)))) × (Int × (Int × Int)))))))))) × Int)) (x : (argH rules_Mirror.as).den) : seg tb (rules_Mirror.G N) rules_Mirror.A 0 rec (rules_Mirror.fin N) segFuel [.code (bodyOf Try.f26)] (initSt Try.f26 (encArgs rules_Mirror.as x) (encMem rules_Mirror.as x)) = rules_Mirror.e N (fun t18_ t19_ m2_ m3_ m4_ out out2 out3 out4 out5 out6 out7 out8 => rec rules_Mirror.k0 (rules_Mirror.st0 x.1 t18_ t19_ m2_ m3_ m4_ out out2 out3 out4 out5 out6 out7 out8)) x.1 := by kernel_rfl
theorem rules_Mirror.runs (N : Nat) (r_ : (ByteArray × (Int × (Int × ((List (Int × (Int × (Int × (List (Int × (Int × (Int × Int)))))))) × ((List Int) × (Bool × (Bool × ((List (Int × (Int × (Int × Bool)))) × (Int × (Int × Int))))))))))) : ∀ n, (∀ (t18_ : Int) (t19_ : Int) (m2_ : (List (Int × (Int × (Int × (List (Int × (Int × (Int × Int))))))))) (m3_ : (List Int)) (m4_ : (List (Int × (Int × (Int × Bool))))) (out : ByteArray) (out2 : Int) (out3 : Int) (out4 : Bool) (out5 : Bool) (out6 : Int) (out7 : Int) (out8 : Int), run tb (rules_Mirror.G N) rules_Mirror.A 0 (rules_Mirror.fin N) n rules_Mirror.k0 (rules_Mirror.st0 r_ t18_ t19_ m2_ m3_ m4_ out out2 out3 out4 out5 out6 out7 out8) = rules_Mirror.l0 N r_ n t18_ t19_ m2_ m3_ m4_ out out2 out3 out4 out5 out6 out7 out8)
  | 0 => fun _ _ _ _ _ _ _ _ _ _ _ _ _ => rfl
  | n + 1 => by
    have h0 := rules_Mirror.runs N r_ n
    have e0 : (fun (t18_ : Int) (t19_ : Int) (m2_ : (List (Int × (Int × (Int × (List (Int × (Int × (Int × Int))))))))) (m3_ : (List Int)) (m4_ : (List (Int × (Int × (Int × Bool))))) (out : ByteArray) (out2 : Int) (out3 : Int) (out4 : Bool) (out5 : Bool) (out6 : Int) (out7 : Int) (out8 : Int) => run tb (rules_Mirror.G N) rules_Mirror.A 0 (rules_Mirror.fin N) n rules_Mirror.k0 (rules_Mirror.st0 r_ t18_ t19_ m2_ m3_ m4_ out out2 out3 out4 out5 out6 out7 out8)) = rules_Mirror.l0 N r_ n := by funext t18_ t19_ m2_ m3_ m4_ out out2 out3 out4 out5 out6 out7 out8; exact h0 t18_ t19_ m2_ m3_ m4_ out out2 out3 out4 out5 out6 out7 out8
    have g0 : (∀ (t18_ : Int) (t19_ : Int) (m2_ : (List (Int × (Int × (Int × (List (Int × (Int × (Int × Int))))))))) (m3_ : (List Int)) (m4_ : (List (Int × (Int × (Int × Bool))))) (out : ByteArray) (out2 : Int) (out3 : Int) (out4 : Bool) (out5 : Bool) (out6 : Int) (out7 : Int) (out8 : Int), run tb (rules_Mirror.G N) rules_Mirror.A 0 (rules_Mirror.fin N) (n + 1) rules_Mirror.k0 (rules_Mirror.st0 r_ t18_ t19_ m2_ m3_ m4_ out out2 out3 out4 out5 out6 out7 out8) = rules_Mirror.l0 N r_ (n + 1) t18_ t19_ m2_ m3_ m4_ out out2 out3 out4 out5 out6 out7 out8) := by
      intro t18_ t19_ m2_ m3_ m4_ out out2 out3 out4 out5 out6 out7 out8
      exact (run_succ (by kernel_rfl)).trans ((rules_Mirror.step0 N _ r_ t18_ t19_ m2_ m3_ m4_ out out2 out3 out4 out5 out6 out7 out8).trans ((congrArg (fun r0 => rules_Mirror.s0 N r_ r0 t18_ t19_ m2_ m3_ m4_ out out2 out3 out4 out5 out6 out7 out8) e0).trans (rules_Mirror.l0_s N r_ n t18_ t19_ m2_ m3_ m4_ out out2 out3 out4 out5 out6 out7 out8).symm))
    exact g0
theorem rules_Mirror.ok (N : Nat) : FnOk Try.prog 26 (rules_Mirror.D N) := by
  refine FnOk_of tb_ok (Checked.mixed Try.checked) ⟨Try.f26, Try.func26, by kernel_rfl, by kernel_rfl, fun x y h => ⟨rules_Mirror.G N, rules_Mirror.A, N, gamOf_ok (by simp only [List.forall_mem_cons, List.not_mem_nil, false_implies, implies_true, and_true]; exact ⟨⟨rules_Check.ok N, rules_Check.fit N⟩, ⟨rules_Copy.ok N, rules_Copy.fit N⟩, ⟨rules_Turned.ok N, rules_Turned.fit N⟩, ⟨rules_Swapped.ok N, rules_Swapped.fit N⟩⟩), ?_⟩⟩ (rules_Mirror.fit N)
  rw [absFn_n (n0 := 0) rfl (by kernel_rfl)]
  refine (rules_Mirror.entry N (run tb (rules_Mirror.G N) rules_Mirror.A 0 (rules_Mirror.fin N) N) x).trans ?_
  have e0 : (fun (t18_ : Int) (t19_ : Int) (m2_ : (List (Int × (Int × (Int × (List (Int × (Int × (Int × Int))))))))) (m3_ : (List Int)) (m4_ : (List (Int × (Int × (Int × Bool))))) (out : ByteArray) (out2 : Int) (out3 : Int) (out4 : Bool) (out5 : Bool) (out6 : Int) (out7 : Int) (out8 : Int) => run tb (rules_Mirror.G N) rules_Mirror.A 0 (rules_Mirror.fin N) N rules_Mirror.k0 (rules_Mirror.st0 x.1 t18_ t19_ m2_ m3_ m4_ out out2 out3 out4 out5 out6 out7 out8)) = rules_Mirror.l0 N x.1 N := by funext t18_ t19_ m2_ m3_ m4_ out out2 out3 out4 out5 out6 out7 out8; exact (rules_Mirror.runs N x.1 N) t18_ t19_ m2_ m3_ m4_ out out2 out3 out4 out5 out6 out7 out8
  have h' : (rules_Mirror.D N).f x = rules_Mirror.e N (rules_Mirror.l0 N x.1 N) x.1 := by kernel_rfl
  exact (congrArg (fun r0 => rules_Mirror.e N r0 x.1) e0).trans (h'.symm.trans h)
/-! ### f61: gamehall/gamehallkeep1.fine$1 -/
def gamehallkeep1_fine_1.as : List MK := [.d false (.int .i64)]
def gamehallkeep1_fine_1.rs : List (Bool × HT) := [(false, (.d .bool))]
def gamehallkeep1_fine_1.lc : List AC := []
def gamehallkeep1_fine_1.D (N : Nat) : DFn := ⟨gamehallkeep1_fine_1.as, gamehallkeep1_fine_1.rs, Bool, fun x => gamehallkeep1_fine_1 N x.1, fun r o => r.1, fun b => (b, ()), fun b => ()⟩
theorem gamehallkeep1_fine_1.fit (N : Nat) : (gamehallkeep1_fine_1.D N).Fit := ⟨fun _ _ => rfl, fun _ _ => rfl, by kernel_rfl⟩
noncomputable def gamehallkeep1_fine_1.G (N : Nat) : Gam := gamOf []
def gamehallkeep1_fine_1.A : Nat → Option LoopAnn := fun _ => none
noncomputable def gamehallkeep1_fine_1.fin (N : Nat) : St → Option Bool := resK tb Try.f61.results.toList (decRes (gamehallkeep1_fine_1.D N) gamehallkeep1_fine_1.lc)
theorem gamehallkeep1_fine_1.entry (N : Nat) (rec : List Item → St → Option Bool) (x : (argH gamehallkeep1_fine_1.as).den) : seg tb (gamehallkeep1_fine_1.G N) gamehallkeep1_fine_1.A 0 rec (gamehallkeep1_fine_1.fin N) segFuel [.code (bodyOf Try.f61)] (initSt Try.f61 (encArgs gamehallkeep1_fine_1.as x) (encMem gamehallkeep1_fine_1.as x)) = gamehallkeep1_fine_1.e N x.1 := by kernel_rfl
theorem gamehallkeep1_fine_1.ok (N : Nat) : FnOk Try.prog 61 (gamehallkeep1_fine_1.D N) := by
  refine FnOk_of tb_ok (Checked.mixed Try.checked) ⟨Try.f61, Try.func61, by kernel_rfl, by kernel_rfl, fun x y h => ⟨gamehallkeep1_fine_1.G N, gamehallkeep1_fine_1.A, N, gamOf_ok (fun p hp => nomatch hp), ?_⟩⟩ (gamehallkeep1_fine_1.fit N)
  rw [absFn_n (n0 := 0) rfl (by kernel_rfl)]
  exact (gamehallkeep1_fine_1.entry N _ x).trans h
/-! ### f89: slices.IndexFunc[[]gamehall/api.Errno,gamehall/api.Errno] -/
def slices_IndexFunc_api_Errno_api_Errno.as : List MK := [.d false (.slice 22 (.int .i64)), .f 61]
def slices_IndexFunc_api_Errno_api_Errno.rs : List (Bool × HT) := [(false, (.d (.int .i64)))]
def slices_IndexFunc_api_Errno_api_Errno.lc : List AC := []
def slices_IndexFunc_api_Errno_api_Errno.D (N : Nat) : DFn := ⟨slices_IndexFunc_api_Errno_api_Errno.as, slices_IndexFunc_api_Errno_api_Errno.rs, Int, fun x => slices_IndexFunc_api_Errno_api_Errno N x.1, fun r o => r.1, fun b => (b, ()), fun b => ()⟩
theorem slices_IndexFunc_api_Errno_api_Errno.fit (N : Nat) : (slices_IndexFunc_api_Errno_api_Errno.D N).Fit := ⟨fun _ _ => rfl, fun _ _ => rfl, by kernel_rfl⟩
noncomputable def slices_IndexFunc_api_Errno_api_Errno.G (N : Nat) : Gam := gamOf [(61, gamehallkeep1_fine_1.D N)]
def slices_IndexFunc_api_Errno_api_Errno.A : Nat → Option LoopAnn := fun k => bif Nat.beq k 0 then some ⟨[0, 1, 7, 8], [], [], [], [], 0, false⟩ else none
noncomputable def slices_IndexFunc_api_Errno_api_Errno.fin (N : Nat) : St → Option Int := resK tb Try.f89.results.toList (decRes (slices_IndexFunc_api_Errno_api_Errno.D N) slices_IndexFunc_api_Errno_api_Errno.lc)
noncomputable def slices_IndexFunc_api_Errno_api_Errno.k0 : List Item := stackAt [.r, .l, .r, .b] (bodyOf Try.f89) []
def slices_IndexFunc_api_Errno_api_Errno.st0 (s_ : (List Int)) (t8_ : Int) : St := ⟨[.one (.fro 22 (.int .i64) s_), .one (.fn 61)] ++ List.replicate 5 (.one .any) ++ [.one (.int .i64 (s_.length : Int)), .one (.int .i64 t8_)] ++ List.replicate 10 (.one .any), []⟩
theorem slices_IndexFunc_api_Errno_api_Errno.step0 (N : Nat) (rec : List Item → St → Option Int) (s_ : (List Int)) (t8_ : Int) : seg tb (slices_IndexFunc_api_Errno_api_Errno.G N) slices_IndexFunc_api_Errno_api_Errno.A 0 rec (slices_IndexFunc_api_Errno_api_Errno.fin N) segFuel (loopBody slices_IndexFunc_api_Errno_api_Errno.k0) (slices_IndexFunc_api_Errno_api_Errno.st0 s_ t8_) = slices_IndexFunc_api_Errno_api_Errno.s0 N s_ (fun t8_ => rec slices_IndexFunc_api_Errno_api_Errno.k0 (slices_IndexFunc_api_Errno_api_Errno.st0 s_ t8_)) t8_ := by kernel_rfl
theorem slices_IndexFunc_api_Errno_api_Errno.entry (N : Nat) (rec : List Item → St → Option Int) (x : (argH slices_IndexFunc_api_Errno_api_Errno.as).den) : seg tb (slices_IndexFunc_api_Errno_api_Errno.G N) slices_IndexFunc_api_Errno_api_Errno.A 0 rec (slices_IndexFunc_api_Errno_api_Errno.fin N) segFuel [.code (bodyOf Try.f89)] (initSt Try.f89 (encArgs slices_IndexFunc_api_Errno_api_Errno.as x) (encMem slices_IndexFunc_api_Errno_api_Errno.as x)) = slices_IndexFunc_api_Errno_api_Errno.e N (fun t8_ => rec slices_IndexFunc_api_Errno_api_Errno.k0 (slices_IndexFunc_api_Errno_api_Errno.st0 x.1 t8_)) x.1 := by kernel_rfl
theorem slices_IndexFunc_api_Errno_api_Errno.runs (N : Nat) (s_ : (List Int)) : ∀ n, (∀ (t8_ : Int), run tb (slices_IndexFunc_api_Errno_api_Errno.G N) slices_IndexFunc_api_Errno_api_Errno.A 0 (slices_IndexFunc_api_Errno_api_Errno.fin N) n slices_IndexFunc_api_Errno_api_Errno.k0 (slices_IndexFunc_api_Errno_api_Errno.st0 s_ t8_) = slices_IndexFunc_api_Errno_api_Errno.l0 N s_ n t8_)
  | 0 => fun _ => rfl
  | n + 1 => by
    have h0 := slices_IndexFunc_api_Errno_api_Errno.runs N s_ n
    have e0 : (fun (t8_ : Int) => run tb (slices_IndexFunc_api_Errno_api_Errno.G N) slices_IndexFunc_api_Errno_api_Errno.A 0 (slices_IndexFunc_api_Errno_api_Errno.fin N) n slices_IndexFunc_api_Errno_api_Errno.k0 (slices_IndexFunc_api_Errno_api_Errno.st0 s_ t8_)) = slices_IndexFunc_api_Errno_api_Errno.l0 N s_ n := by funext t8_; exact h0 t8_
    have g0 : (∀ (t8_ : Int), run tb (slices_IndexFunc_api_Errno_api_Errno.G N) slices_IndexFunc_api_Errno_api_Errno.A 0 (slices_IndexFunc_api_Errno_api_Errno.fin N) (n + 1) slices_IndexFunc_api_Errno_api_Errno.k0 (slices_IndexFunc_api_Errno_api_Errno.st0 s_ t8_) = slices_IndexFunc_api_Errno_api_Errno.l0 N s_ (n + 1) t8_) := by
      intro t8_
      exact (run_succ (by kernel_rfl)).trans ((slices_IndexFunc_api_Errno_api_Errno.step0 N _ s_ t8_).trans ((congrArg (fun r0 => slices_IndexFunc_api_Errno_api_Errno.s0 N s_ r0 t8_) e0).trans (slices_IndexFunc_api_Errno_api_Errno.l0_s N s_ n t8_).symm))
    exact g0
theorem slices_IndexFunc_api_Errno_api_Errno.ok (N : Nat) : FnOk Try.prog 89 (slices_IndexFunc_api_Errno_api_Errno.D N) := by
  refine FnOk_of tb_ok (Checked.mixed Try.checked) ⟨Try.f89, Try.func89, by kernel_rfl, by kernel_rfl, fun x y h => ⟨slices_IndexFunc_api_Errno_api_Errno.G N, slices_IndexFunc_api_Errno_api_Errno.A, N, gamOf_ok (by simp only [List.forall_mem_cons, List.not_mem_nil, false_implies, implies_true, and_true]; exact ⟨gamehallkeep1_fine_1.ok N, gamehallkeep1_fine_1.fit N⟩), ?_⟩⟩ (slices_IndexFunc_api_Errno_api_Errno.fit N)
  rw [absFn_n (n0 := 0) rfl (by kernel_rfl)]
  refine (slices_IndexFunc_api_Errno_api_Errno.entry N (run tb (slices_IndexFunc_api_Errno_api_Errno.G N) slices_IndexFunc_api_Errno_api_Errno.A 0 (slices_IndexFunc_api_Errno_api_Errno.fin N) N) x).trans ?_
  have e0 : (fun (t8_ : Int) => run tb (slices_IndexFunc_api_Errno_api_Errno.G N) slices_IndexFunc_api_Errno_api_Errno.A 0 (slices_IndexFunc_api_Errno_api_Errno.fin N) N slices_IndexFunc_api_Errno_api_Errno.k0 (slices_IndexFunc_api_Errno_api_Errno.st0 x.1 t8_)) = slices_IndexFunc_api_Errno_api_Errno.l0 N x.1 N := by funext t8_; exact (slices_IndexFunc_api_Errno_api_Errno.runs N x.1 N) t8_
  have h' : (slices_IndexFunc_api_Errno_api_Errno.D N).f x = slices_IndexFunc_api_Errno_api_Errno.e N (slices_IndexFunc_api_Errno_api_Errno.l0 N x.1 N) x.1 := by kernel_rfl
  exact (congrArg (fun r0 => slices_IndexFunc_api_Errno_api_Errno.e N r0 x.1) e0).trans (h'.symm.trans h)
/-! ### f60: slices.ContainsFunc[[]gamehall/api.Errno,gamehall/api.Errno] -/
def slices_ContainsFunc_api_Errno_api_Errno.as : List MK := [.d false (.slice 22 (.int .i64)), .f 61]
def slices_ContainsFunc_api_Errno_api_Errno.rs : List (Bool × HT) := [(false, (.d .bool))]
def slices_ContainsFunc_api_Errno_api_Errno.lc : List AC := []
def slices_ContainsFunc_api_Errno_api_Errno.D (N : Nat) : DFn := ⟨slices_ContainsFunc_api_Errno_api_Errno.as, slices_ContainsFunc_api_Errno_api_Errno.rs, Bool, fun x => slices_ContainsFunc_api_Errno_api_Errno N x.1, fun r o => r.1, fun b => (b, ()), fun b => ()⟩
theorem slices_ContainsFunc_api_Errno_api_Errno.fit (N : Nat) : (slices_ContainsFunc_api_Errno_api_Errno.D N).Fit := ⟨fun _ _ => rfl, fun _ _ => rfl, by kernel_rfl⟩
noncomputable def slices_ContainsFunc_api_Errno_api_Errno.G (N : Nat) : Gam := gamOf [(89, slices_IndexFunc_api_Errno_api_Errno.D N)]
def slices_ContainsFunc_api_Errno_api_Errno.A : Nat → Option LoopAnn := fun _ => none
noncomputable def slices_ContainsFunc_api_Errno_api_Errno.fin (N : Nat) : St → Option Bool := resK tb Try.f60.results.toList (decRes (slices_ContainsFunc_api_Errno_api_Errno.D N) slices_ContainsFunc_api_Errno_api_Errno.lc)
theorem slices_ContainsFunc_api_Errno_api_Errno.entry (N : Nat) (rec : List Item → St → Option Bool) (x : (argH slices_ContainsFunc_api_Errno_api_Errno.as).den) : seg tb (slices_ContainsFunc_api_Errno_api_Errno.G N) slices_ContainsFunc_api_Errno_api_Errno.A 0 rec (slices_ContainsFunc_api_Errno_api_Errno.fin N) segFuel [.code (bodyOf Try.f60)] (initSt Try.f60 (encArgs slices_ContainsFunc_api_Errno_api_Errno.as x) (encMem slices_ContainsFunc_api_Errno_api_Errno.as x)) = slices_ContainsFunc_api_Errno_api_Errno.e N x.1 := by kernel_rfl
theorem slices_ContainsFunc_api_Errno_api_Errno.ok (N : Nat) : FnOk Try.prog 60 (slices_ContainsFunc_api_Errno_api_Errno.D N) := by
  refine FnOk_of tb_ok (Checked.mixed Try.checked) ⟨Try.f60, Try.func60, by kernel_rfl, by kernel_rfl, fun x y h => ⟨slices_ContainsFunc_api_Errno_api_Errno.G N, slices_ContainsFunc_api_Errno_api_Errno.A, N, gamOf_ok (by simp only [List.forall_mem_cons, List.not_mem_nil, false_implies, implies_true, and_true]; exact ⟨slices_IndexFunc_api_Errno_api_Errno.ok N, slices_IndexFunc_api_Errno_api_Errno.fit N⟩), ?_⟩⟩ (slices_ContainsFunc_api_Errno_api_Errno.fit N)
  rw [absFn_n (n0 := 0) rfl (by kernel_rfl)]
  exact (slices_ContainsFunc_api_Errno_api_Errno.entry N _ x).trans h
/-! ### f18: gamehall/gamehallkeep1.fine -/
def gamehallkeep1_fine.as : List MK := [.d false (.slice 22 (.int .i64))]
def gamehallkeep1_fine.rs : List (Bool × HT) := [(false, (.d .bool))]
def gamehallkeep1_fine.lc : List AC := []
def gamehallkeep1_fine.D (N : Nat) : DFn := ⟨gamehallkeep1_fine.as, gamehallkeep1_fine.rs, Bool, fun x => gamehallkeep1_fine N x.1, fun r o => r.1, fun b => (b, ()), fun b => ()⟩
theorem gamehallkeep1_fine.fit (N : Nat) : (gamehallkeep1_fine.D N).Fit := ⟨fun _ _ => rfl, fun _ _ => rfl, by kernel_rfl⟩
noncomputable def gamehallkeep1_fine.G (N : Nat) : Gam := gamOf [(60, slices_ContainsFunc_api_Errno_api_Errno.D N)]
def gamehallkeep1_fine.A : Nat → Option LoopAnn := fun _ => none
noncomputable def gamehallkeep1_fine.fin (N : Nat) : St → Option Bool := resK tb Try.f18.results.toList (decRes (gamehallkeep1_fine.D N) gamehallkeep1_fine.lc)
theorem gamehallkeep1_fine.entry (N : Nat) (rec : List Item → St → Option Bool) (x : (argH gamehallkeep1_fine.as).den) : seg tb (gamehallkeep1_fine.G N) gamehallkeep1_fine.A 0 rec (gamehallkeep1_fine.fin N) segFuel [.code (bodyOf Try.f18)] (initSt Try.f18 (encArgs gamehallkeep1_fine.as x) (encMem gamehallkeep1_fine.as x)) = gamehallkeep1_fine.e N x.1 := by kernel_rfl
theorem gamehallkeep1_fine.ok (N : Nat) : FnOk Try.prog 18 (gamehallkeep1_fine.D N) := by
  refine FnOk_of tb_ok (Checked.mixed Try.checked) ⟨Try.f18, Try.func18, by kernel_rfl, by kernel_rfl, fun x y h => ⟨gamehallkeep1_fine.G N, gamehallkeep1_fine.A, N, gamOf_ok (by simp only [List.forall_mem_cons, List.not_mem_nil, false_implies, implies_true, and_true]; exact ⟨slices_ContainsFunc_api_Errno_api_Errno.ok N, slices_ContainsFunc_api_Errno_api_Errno.fit N⟩), ?_⟩⟩ (gamehallkeep1_fine.fit N)
  rw [absFn_n (n0 := 0) rfl (by kernel_rfl)]
  exact (gamehallkeep1_fine.entry N _ x).trans h
/-! ### f28: gamehall/gamehallkeep1.same -/
def gamehallkeep1_same.as : List MK := [.d true (.prod (.slice 3 (.int .i64)) (.prod (.prod (.slice 3 (.int .i64)) (.slice 3 (.int .i64))) (.prod (.int .i64) (.int .i64)))), .d true (.prod (.slice 3 (.int .i64)) (.prod (.prod (.slice 3 (.int .i64)) (.slice 3 (.int .i64))) (.prod (.int .i64) (.int .i64))))]
def gamehallkeep1_same.rs : List (Bool × HT) := [(false, (.d .bool))]
def gamehallkeep1_same.lc : List AC := []
def gamehallkeep1_same.D (N : Nat) : DFn := ⟨gamehallkeep1_same.as, gamehallkeep1_same.rs, Bool, fun x => gamehallkeep1_same N x.1 x.2.1, fun r o => r.1, fun b => (b, ()), fun b => ()⟩
theorem gamehallkeep1_same.fit (N : Nat) : (gamehallkeep1_same.D N).Fit := ⟨fun _ _ => rfl, fun _ _ => rfl, by kernel_rfl⟩
noncomputable def gamehallkeep1_same.G (N : Nat) : Gam := gamOf [(24, slices_Equal_int_int.D N)]
def gamehallkeep1_same.A : Nat → Option LoopAnn := fun _ => none
noncomputable def gamehallkeep1_same.fin (N : Nat) : St → Option Bool := resK tb Try.f28.results.toList (decRes (gamehallkeep1_same.D N) gamehallkeep1_same.lc)
theorem gamehallkeep1_same.entry (N : Nat) (rec : List Item → St → Option Bool) (x : (argH gamehallkeep1_same.as).den) : seg tb (gamehallkeep1_same.G N) gamehallkeep1_same.A 0 rec (gamehallkeep1_same.fin N) segFuel [.code (bodyOf Try.f28)] (initSt Try.f28 (encArgs gamehallkeep1_same.as x) (encMem gamehallkeep1_same.as x)) = gamehallkeep1_same.e N x.1 x.2.1 := by kernel_rfl
theorem gamehallkeep1_same.ok (N : Nat) : FnOk Try.prog 28 (gamehallkeep1_same.D N) := by
  refine FnOk_of tb_ok (Checked.mixed Try.checked) ⟨Try.f28, Try.func28, by kernel_rfl, by kernel_rfl, fun x y h => ⟨gamehallkeep1_same.G N, gamehallkeep1_same.A, N, gamOf_ok (by simp only [List.forall_mem_cons, List.not_mem_nil, false_implies, implies_true, and_true]; exact ⟨slices_Equal_int_int.ok N, slices_Equal_int_int.fit N⟩), ?_⟩⟩ (gamehallkeep1_same.fit N)
  rw [absFn_n (n0 := 0) rfl (by kernel_rfl)]
  exact (gamehallkeep1_same.entry N _ x).trans h
/-! ### f4: gamehall/gamehallkeep1.PlaceOther -/
def gamehallkeep1_PlaceOther.as : List MK := [.d true (.prod .str (.prod (.int .i64) (.prod (.int .i64) (.prod (.slice 108 (.prod (.int .u8) (.prod (.int .i64) (.prod (.int .i64) (.slice 169 (.prod (.int .i64) (.prod (.int .i64) (.prod (.int .i64) (.int .i64))))))))) (.prod (.slice 3 (.int .i64)) (.prod .bool (.prod .bool (.prod (.slice 110 (.prod (.int .i64) (.prod (.int .i64) (.prod (.int .i64) .bool)))) (.prod (.int .i64) (.prod (.int .i64) (.int .i64))))))))))), .d true (.prod (.slice 3 (.int .i64)) (.prod (.prod (.slice 3 (.int .i64)) (.slice 3 (.int .i64))) (.prod (.int .i64) (.int .i64))))]
def gamehallkeep1_PlaceOther.rs : List (Bool × HT) := [(false, (.d .bool))]
def gamehallkeep1_PlaceOther.lc : List AC := []
def gamehallkeep1_PlaceOther.D (N : Nat) : DFn := ⟨gamehallkeep1_PlaceOther.as, gamehallkeep1_PlaceOther.rs, Bool, fun x => gamehallkeep1_PlaceOther N x.1 x.2.1, fun r o => r.1, fun b => (b, ()), fun b => ()⟩
theorem gamehallkeep1_PlaceOther.fit (N : Nat) : (gamehallkeep1_PlaceOther.D N).Fit := ⟨fun _ _ => rfl, fun _ _ => rfl, by kernel_rfl⟩
noncomputable def gamehallkeep1_PlaceOther.G (N : Nat) : Gam := gamOf [(22, gamehallkeep1_three.D N), (23, gamehallkeep1_near.D N), (21, place_Other.D N), (24, slices_Equal_int_int.D N), (25, place_Same.D N), (26, rules_Mirror.D N), (18, gamehallkeep1_fine.D N), (27, place_Check.D N), (28, gamehallkeep1_same.D N)]
def gamehallkeep1_PlaceOther.A : Nat → Option LoopAnn := fun _ => none
noncomputable def gamehallkeep1_PlaceOther.fin (N : Nat) : St → Option Bool := resK tb Try.f4.results.toList (decRes (gamehallkeep1_PlaceOther.D N) gamehallkeep1_PlaceOther.lc)
theorem gamehallkeep1_PlaceOther.entry (N : Nat) (rec : List Item → St → Option Bool) (x : (argH gamehallkeep1_PlaceOther.as).den) : seg tb (gamehallkeep1_PlaceOther.G N) gamehallkeep1_PlaceOther.A 0 rec (gamehallkeep1_PlaceOther.fin N) segFuel [.code (bodyOf Try.f4)] (initSt Try.f4 (encArgs gamehallkeep1_PlaceOther.as x) (encMem gamehallkeep1_PlaceOther.as x)) = gamehallkeep1_PlaceOther.e N x.1 x.2.1 := by kernel_rfl
theorem gamehallkeep1_PlaceOther.ok (N : Nat) : FnOk Try.prog 4 (gamehallkeep1_PlaceOther.D N) := by
  refine FnOk_of tb_ok (Checked.mixed Try.checked) ⟨Try.f4, Try.func4, by kernel_rfl, by kernel_rfl, fun x y h => ⟨gamehallkeep1_PlaceOther.G N, gamehallkeep1_PlaceOther.A, N, gamOf_ok (by simp only [List.forall_mem_cons, List.not_mem_nil, false_implies, implies_true, and_true]; exact ⟨⟨gamehallkeep1_three.ok N, gamehallkeep1_three.fit N⟩, ⟨gamehallkeep1_near.ok N, gamehallkeep1_near.fit N⟩, ⟨place_Other.ok N, place_Other.fit N⟩, ⟨slices_Equal_int_int.ok N, slices_Equal_int_int.fit N⟩, ⟨place_Same.ok N, place_Same.fit N⟩, ⟨rules_Mirror.ok N, rules_Mirror.fit N⟩, ⟨gamehallkeep1_fine.ok N, gamehallkeep1_fine.fit N⟩, ⟨place_Check.ok N, place_Check.fit N⟩, ⟨gamehallkeep1_same.ok N, gamehallkeep1_same.fit N⟩⟩), ?_⟩⟩ (gamehallkeep1_PlaceOther.fit N)
  rw [absFn_n (n0 := 0) rfl (by kernel_rfl)]
  exact (gamehallkeep1_PlaceOther.entry N _ x).trans h
end Go.Proofs.Ytjmcjiklfhmdlaa.Am
