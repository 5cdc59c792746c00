/- PRINTED by gen.py: the abstract machine evaluates the loaded code to these functions. -/
import Derived.Test.YtbnpbnghpbgjiaaDoorFn
import Derived.Test.YtbnpbnghpbgjiaaDoorChecked
import Derived.Eval
import Derived.Test.YtbnpbnghpbgjiaaDoorAm21
set_option linter.unusedVariables false
set_option linter.unusedSimpArgs false
namespace Go.Proofs.YtbnpbnghpbgjiaaDoor.Am
open Go
set_option maxRecDepth 100000
def ti3 : TI := ⟨.int .i64, 1, 8, some (.int .i64), [.int .i64 0], false, none, none⟩
def ti4 : TI := ⟨.bool, 1, 1, some .bool, [.bool false], false, none, none⟩
def ti22 : TI := ⟨.int .u64, 1, 8, some (.int .u64), [.int .u64 0], false, none, none⟩
def ti25 : TI := ⟨.other, 1, 8, none, [.nilF], false, none, none⟩
def ti29 : TI := ⟨.slice 3, 1, 24, some (.slice 3 (.int .i64)), [.nilS], false, none, none⟩
def ti31 : TI := ⟨.int .i64, 1, 8, some (.int .i64), [.int .i64 0], false, none, none⟩
def ti35 : TI := ⟨.other, 1, 8, none, [.nilF], false, none, none⟩
def ti42 : TI := ⟨.slice 22, 1, 24, some (.slice 22 (.int .u64)), [.nilS], false, none, none⟩
def ti46 : TI := ⟨.array 2 3, 2, 16, some (.prod (.int .i64) (.int .i64)), [.int .i64 0, .int .i64 0], false, none, none⟩
def ti47 : TI := ⟨.array 4 46, 8, 64, some (.prod (.prod (.int .i64) (.int .i64)) (.prod (.prod (.int .i64) (.int .i64)) (.prod (.prod (.int .i64) (.int .i64)) (.prod (.int .i64) (.int .i64))))), [.int .i64 0, .int .i64 0, .int .i64 0, .int .i64 0, .int .i64 0, .int .i64 0, .int .i64 0, .int .i64 0], false, none, none⟩
def tbt : TT := (.node 31 ti31 (.node 22 ti22 (.node 4 ti4 (.node 3 ti3 .nil .nil) .nil) (.node 29 ti29 (.node 25 ti25 .nil .nil) .nil)) (.node 46 ti46 (.node 42 ti42 (.node 35 ti35 .nil .nil) .nil) (.node 47 ti47 .nil .nil)))
def tb : Tab := tbt.get
theorem ti3_ok : TIok Tryd.prog tb 3 ti3 := TIok_mk (by kernel_rfl) (by kernel_rfl) ⟨rfl, rfl⟩ (by kernel_rfl) rfl trivial trivial (by kernel_rfl)
theorem ti4_ok : TIok Tryd.prog tb 4 ti4 := TIok_mk (by kernel_rfl) (by kernel_rfl) ⟨rfl, rfl⟩ (by kernel_rfl) rfl trivial trivial (by kernel_rfl)
theorem ti22_ok : TIok Tryd.prog tb 22 ti22 := TIok_mk (by kernel_rfl) (by kernel_rfl) ⟨rfl, rfl⟩ (by kernel_rfl) rfl trivial trivial (by kernel_rfl)
theorem ti25_ok : TIok Tryd.prog tb 25 ti25 := TIok_mk (by kernel_rfl) (by kernel_rfl) trivial (by kernel_rfl) rfl trivial trivial (by kernel_rfl)
theorem ti29_ok : TIok Tryd.prog tb 29 ti29 := TIok_mk (by kernel_rfl) (by kernel_rfl) ⟨rfl, rfl⟩ (by kernel_rfl) rfl trivial trivial (by kernel_rfl)
theorem ti31_ok : TIok Tryd.prog tb 31 ti31 := TIok_mk (by kernel_rfl) (by kernel_rfl) ⟨rfl, rfl⟩ (by kernel_rfl) rfl trivial trivial (by kernel_rfl)
theorem ti35_ok : TIok Tryd.prog tb 35 ti35 := TIok_mk (by kernel_rfl) (by kernel_rfl) trivial (by kernel_rfl) rfl trivial trivial (by kernel_rfl)
theorem ti42_ok : TIok Tryd.prog tb 42 ti42 := TIok_mk (by kernel_rfl) (by kernel_rfl) ⟨rfl, rfl⟩ (by kernel_rfl) rfl trivial trivial (by kernel_rfl)
theorem ti46_ok : TIok Tryd.prog tb 46 ti46 := TIok_mk (by kernel_rfl) (by kernel_rfl) ⟨rfl, rfl⟩ (by kernel_rfl) rfl trivial trivial (by kernel_rfl)
theorem ti47_ok : TIok Tryd.prog tb 47 ti47 := TIok_mk (by kernel_rfl) (by kernel_rfl) ⟨rfl, rfl⟩ (by kernel_rfl) rfl trivial trivial (by kernel_rfl)
theorem tb_ok : TabOk Tryd.prog tb := TT.ok ⟨ti31_ok, ⟨ti22_ok, ⟨ti4_ok, ⟨ti3_ok, trivial, trivial⟩, trivial⟩, ⟨ti29_ok, ⟨ti25_ok, trivial, trivial⟩, trivial⟩⟩, ⟨ti46_ok, ⟨ti42_ok, ⟨ti35_ok, trivial, trivial⟩, trivial⟩, ⟨ti47_ok, trivial, trivial⟩⟩⟩
/-! ### f8: gamehall/bits.Count -/
def bits_Count.as : List MK := [.d false (.int .u64)]
def bits_Count.rs : List (Bool × HT) := [(false, (.d (.int .i64)))]
def bits_Count.lc : List AC := []
def bits_Count.D (N : Nat) : DFn := ⟨bits_Count.as, bits_Count.rs, Int, fun x => bits_Count N x.1, fun r o => r.1, fun b => (b, ()), fun b => ()⟩
theorem bits_Count.fit (N : Nat) : (bits_Count.D N).Fit := ⟨fun _ _ => rfl, fun _ _ => rfl, by kernel_rfl⟩
noncomputable def bits_Count.G (N : Nat) : Gam := (gamI tb [(13, (Tryd.f13, gamOf []))] []).withIt [(21, itAll tzF)]
def bits_Count.A : Nat → Option LoopAnn := fun k => bif Nat.beq k 5000000 then some ⟨[3], [], [], [], [], 1, false⟩ else bif Nat.beq k 6000000 then some ⟨[3], [], [], [], [], 1, false⟩ else none
noncomputable def bits_Count.fin (N : Nat) : St → Option Int := resK tb Tryd.f8.results.toList (decRes (bits_Count.D N) bits_Count.lc)
noncomputable def bits_Count.k0 : List Item := stackAt [.r, .r, .l, .r, .b] (bodyOf Tryd.f8) []
def bits_Count.st0 (b_ : Int) (rest : Int) (n_ : Int) : St := ⟨[.one (.fn 21), .one (.int .u64 rest), .one (.int .i64 0)] ++ List.replicate 3 (.one .any) ++ [.one (.ptr 0 0)] ++ List.replicate 6 (.one .any), [.var 3 [.int .i64 n_]]⟩
noncomputable def bits_Count.k1 : List Item := stripB ((stackAt [.r, .r, .l, .r, .b] (bodyOf Tryd.f8) []).drop 1)
def bits_Count.st1 (b_ : Int) (n_ : Int) : St := ⟨List.replicate 3 (.one .any) ++ [.one (.ptr 0 0)] ++ List.replicate 6 (.one .any), [.var 3 [.int .i64 n_]]⟩
theorem bits_Count.step0 (N : Nat) (rec : List Item → St → Option Int) (b_ : Int) (rest : Int) (n_ : Int) : rngAt tb (bits_Count.G N) bits_Count.A 0 rec (bits_Count.fin N) bits_Count.k0 (bits_Count.st0 b_ rest n_) = bits_Count.s0 N b_ (fun rest n_ => rec bits_Count.k0 (bits_Count.st0 b_ rest n_)) (fun n_ => rec bits_Count.k1 (bits_Count.st1 b_ n_)) rest n_ := by kernel_rfl
theorem bits_Count.step1 (N : Nat) (rec : List Item → St → Option Int) (b_ : Int) (n_ : Int) : seg tb (bits_Count.G N) bits_Count.A 0 rec (bits_Count.fin N) segFuel bits_Count.k1 (bits_Count.st1 b_ n_) = bits_Count.s1 N b_ (fun rest n_ => rec bits_Count.k0 (bits_Count.st0 b_ rest n_)) (fun n_ => rec bits_Count.k1 (bits_Count.st1 b_ n_)) n_ := by kernel_rfl
theorem bits_Count.entry (N : Nat) (rec : List Item → St → Option Int) (x : (argH bits_Count.as).den) : seg tb (bits_Count.G N) bits_Count.A 0 rec (bits_Count.fin N) segFuel [.code (bodyOf Tryd.f8)] (initSt Tryd.f8 (encArgs bits_Count.as x) (encMem bits_Count.as x)) = bits_Count.e N (fun rest n_ => rec bits_Count.k0 (bits_Count.st0 x.1 rest n_)) (fun n_ => rec bits_Count.k1 (bits_Count.st1 x.1 n_)) x.1 := by kernel_rfl
theorem bits_Count.runs (N : Nat) (b_ : Int) : ∀ n, (∀ (rest : Int) (n_ : Int), run tb (bits_Count.G N) bits_Count.A 0 (bits_Count.fin N) n bits_Count.k0 (bits_Count.st0 b_ rest n_) = bits_Count.l0 N b_ n rest n_) ∧ (∀ (n_ : Int), run tb (bits_Count.G N) bits_Count.A 0 (bits_Count.fin N) n bits_Count.k1 (bits_Count.st1 b_ n_) = bits_Count.l1 N b_ n n_)
  | 0 => ⟨fun _ _ => rfl, fun _ => rfl⟩
  | n + 1 => by
    obtain ⟨h0, h1⟩ := bits_Count.runs N b_ n
    have e0 : (fun (rest : Int) (n_ : Int) => run tb (bits_Count.G N) bits_Count.A 0 (bits_Count.fin N) n bits_Count.k0 (bits_Count.st0 b_ rest n_)) = bits_Count.l0 N b_ n := by funext rest n_; exact h0 rest n_
    have e1 : (fun (n_ : Int) => run tb (bits_Count.G N) bits_Count.A 0 (bits_Count.fin N) n bits_Count.k1 (bits_Count.st1 b_ n_)) = bits_Count.l1 N b_ n := by funext n_; exact h1 n_
    have g0 : (∀ (rest : Int) (n_ : Int), run tb (bits_Count.G N) bits_Count.A 0 (bits_Count.fin N) (n + 1) bits_Count.k0 (bits_Count.st0 b_ rest n_) = bits_Count.l0 N b_ (n + 1) rest n_) := by
      intro rest n_
      exact (run_rng (by kernel_rfl)).trans ((bits_Count.step0 N _ b_ rest n_).trans ((congr (congrArg (fun r0 r1 => bits_Count.s0 N b_ r0 r1 rest n_) e0) e1).trans (bits_Count.l0_s N b_ n rest n_).symm))
    have g1 : (∀ (n_ : Int), run tb (bits_Count.G N) bits_Count.A 0 (bits_Count.fin N) (n + 1) bits_Count.k1 (bits_Count.st1 b_ n_) = bits_Count.l1 N b_ (n + 1) n_) := by
      intro n_
      exact (run_aft (by kernel_rfl)).trans ((bits_Count.step1 N _ b_ n_).trans ((congr (congrArg (fun r0 r1 => bits_Count.s1 N b_ r0 r1 n_) e0) e1).trans (bits_Count.l1_s N b_ n n_).symm))
    exact ⟨g0, g1⟩
theorem bits_Count.ok (N : Nat) : FnOk Tryd.prog 8 (bits_Count.D N) := by
  refine FnOk_of tb_ok (Checked.mixed Tryd.checked) ⟨Tryd.f8, Tryd.func8, by kernel_rfl, by kernel_rfl, fun x y h => ⟨bits_Count.G N, bits_Count.A, N, withIt_ok (gamI_ok tb_ok (Checked.mixed Tryd.checked) (by simp only [List.forall_mem_cons, List.not_mem_nil, false_implies, implies_true, and_true]; exact ⟨Tryd.func13, ⟨by kernel_rfl, by kernel_rfl⟩, gamOf_ok (fun p hp => nomatch hp)⟩) (fun p hp => nomatch hp)) (by simp only [List.forall_mem_cons, List.not_mem_nil, false_implies, implies_true, and_true]; exact itAll_ok tzF_ok), ?_⟩⟩ (bits_Count.fit N)
  rw [absFn_n (n0 := 0) rfl (by kernel_rfl)]
  refine (bits_Count.entry N (run tb (bits_Count.G N) bits_Count.A 0 (bits_Count.fin N) N) x).trans ?_
  have e0 : (fun (rest : Int) (n_ : Int) => run tb (bits_Count.G N) bits_Count.A 0 (bits_Count.fin N) N bits_Count.k0 (bits_Count.st0 x.1 rest n_)) = bits_Count.l0 N x.1 N := by funext rest n_; exact (bits_Count.runs N x.1 N).1 rest n_
  have e1 : (fun (n_ : Int) => run tb (bits_Count.G N) bits_Count.A 0 (bits_Count.fin N) N bits_Count.k1 (bits_Count.st1 x.1 n_)) = bits_Count.l1 N x.1 N := by funext n_; exact (bits_Count.runs N x.1 N).2 n_
  have h' : (bits_Count.D N).f x = bits_Count.e N (bits_Count.l0 N x.1 N) (bits_Count.l1 N x.1 N) x.1 := by kernel_rfl
  exact (congr (congrArg (fun r0 r1 => bits_Count.e N r0 r1 x.1) e0) e1).trans (h'.symm.trans h)
/-! ### f3: gamehall/gamehallkeep1.BitsSubsets -/
def gamehallkeep1_BitsSubsets.as : List MK := [.d false (.int .u64)]
def gamehallkeep1_BitsSubsets.rs : List (Bool × HT) := [(false, (.d .bool))]
def gamehallkeep1_BitsSubsets.lc : List AC := []
def gamehallkeep1_BitsSubsets.D (N : Nat) : DFn := ⟨gamehallkeep1_BitsSubsets.as, gamehallkeep1_BitsSubsets.rs, Bool, fun x => gamehallkeep1_BitsSubsets N x.1, fun r o => r.1, fun b => (b, ()), fun b => ()⟩
theorem gamehallkeep1_BitsSubsets.fit (N : Nat) : (gamehallkeep1_BitsSubsets.D N).Fit := ⟨fun _ _ => rfl, fun _ _ => rfl, by kernel_rfl⟩
noncomputable def gamehallkeep1_BitsSubsets.G (N : Nat) : Gam := (gamI tb [(9, (Tryd.f9, gamOf []))] [(8, bits_Count.D N)]).withIt [(20, itSub)]
def gamehallkeep1_BitsSubsets.A : Nat → Option LoopAnn := fun k => bif Nat.beq k 0 then some ⟨[1, 2], [], [], [], [], 2, false⟩ else bif Nat.beq k 5000002 then some ⟨[1, 2, 3, 4], [], [], [], [], 4, false⟩ else bif Nat.beq k 6000002 then some ⟨[1, 2, 3], [], [], [], [], 3, false⟩ else none
noncomputable def gamehallkeep1_BitsSubsets.fin (N : Nat) : St → Option Bool := resK tb Tryd.f3.results.toList (decRes (gamehallkeep1_BitsSubsets.D N) gamehallkeep1_BitsSubsets.lc)
noncomputable def gamehallkeep1_BitsSubsets.k0 : List Item := stackAt [.r, .r, .l, .b] (bodyOf Tryd.f3) []
def gamehallkeep1_BitsSubsets.st0 (b_ : Int) (b_2 : Int) : St := ⟨[.one .any, .one (.ptr 0 0), .one (.ptr 1 0)] ++ List.replicate 40 (.one .any), [.var 22 [.int .u64 b_2], .var 4 [.bool false]]⟩
noncomputable def gamehallkeep1_BitsSubsets.k1 : List Item := stackAt [.r, .r, .r, .r, .l, .r, .b] (bodyOf Tryd.f3) []
def gamehallkeep1_BitsSubsets.st1 (b_ : Int) (rest : Int) (loc : Int) (b_2 : Int) (n_ : Int) (last : Int) : St := ⟨[.one (.fn 20), .one (.int .u64 rest), .one (.int .u64 loc), .one .any, .one (.ptr 0 0), .one (.ptr 1 0), .one (.ptr 2 0), .one (.ptr 3 0)] ++ List.replicate 38 (.one .any), [.var 22 [.int .u64 b_2], .var 4 [.bool false], .var 3 [.int .i64 n_], .var 22 [.int .u64 last]]⟩
noncomputable def gamehallkeep1_BitsSubsets.k2 : List Item := stripB ((stackAt [.r, .r, .r, .r, .l, .r, .b] (bodyOf Tryd.f3) []).drop 1)
def gamehallkeep1_BitsSubsets.st2 (b_ : Int) (b_2 : Int) (n_ : Int) : St := ⟨[.one .any, .one (.ptr 0 0), .one (.ptr 1 0), .one (.ptr 2 0)] ++ List.replicate 39 (.one .any), [.var 22 [.int .u64 b_2], .var 4 [.bool false], .var 3 [.int .i64 n_]]⟩
theorem gamehallkeep1_BitsSubsets.step0 (N : Nat) (rec : List Item → St → Option Bool) (b_ : Int) (b_2 : Int) : seg tb (gamehallkeep1_BitsSubsets.G N) gamehallkeep1_BitsSubsets.A 0 rec (gamehallkeep1_BitsSubsets.fin N) segFuel (loopBody gamehallkeep1_BitsSubsets.k0) (gamehallkeep1_BitsSubsets.st0 b_ b_2) = gamehallkeep1_BitsSubsets.s0 N b_ (fun b_2 => rec gamehallkeep1_BitsSubsets.k0 (gamehallkeep1_BitsSubsets.st0 b_ b_2)) (fun rest loc b_2 n_ last => rec gamehallkeep1_BitsSubsets.k1 (gamehallkeep1_BitsSubsets.st1 b_ rest loc b_2 n_ last)) (fun b_2 n_ => rec gamehallkeep1_BitsSubsets.k2 (gamehallkeep1_BitsSubsets.st2 b_ b_2 n_)) b_2 := by kernel_rfl
theorem gamehallkeep1_BitsSubsets.step1 (N : Nat) (rec : List Item → St → Option Bool) (b_ : Int) (rest : Int) (loc : Int) (b_2 : Int) (n_ : Int) (last : Int) : rngAt tb (gamehallkeep1_BitsSubsets.G N) gamehallkeep1_BitsSubsets.A 0 rec (gamehallkeep1_BitsSubsets.fin N) gamehallkeep1_BitsSubsets.k1 (gamehallkeep1_BitsSubsets.st1 b_ rest loc b_2 n_ last) = gamehallkeep1_BitsSubsets.s1 N b_ (fun b_2 => rec gamehallkeep1_BitsSubsets.k0 (gamehallkeep1_BitsSubsets.st0 b_ b_2)) (fun rest loc b_2 n_ last => rec gamehallkeep1_BitsSubsets.k1 (gamehallkeep1_BitsSubsets.st1 b_ rest loc b_2 n_ last)) (fun b_2 n_ => rec gamehallkeep1_BitsSubsets.k2 (gamehallkeep1_BitsSubsets.st2 b_ b_2 n_)) rest loc b_2 n_ last := by kernel_rfl
theorem gamehallkeep1_BitsSubsets.step2 (N : Nat) (rec : List Item → St → Option Bool) (b_ : Int) (b_2 : Int) (n_ : Int) : seg tb (gamehallkeep1_BitsSubsets.G N) gamehallkeep1_BitsSubsets.A 0 rec (gamehallkeep1_BitsSubsets.fin N) segFuel gamehallkeep1_BitsSubsets.k2 (gamehallkeep1_BitsSubsets.st2 b_ b_2 n_) = gamehallkeep1_BitsSubsets.s2 N b_ (fun b_2 => rec gamehallkeep1_BitsSubsets.k0 (gamehallkeep1_BitsSubsets.st0 b_ b_2)) (fun rest loc b_2 n_ last => rec gamehallkeep1_BitsSubsets.k1 (gamehallkeep1_BitsSubsets.st1 b_ rest loc b_2 n_ last)) (fun b_2 n_ => rec gamehallkeep1_BitsSubsets.k2 (gamehallkeep1_BitsSubsets.st2 b_ b_2 n_)) b_2 n_ := by kernel_rfl
theorem gamehallkeep1_BitsSubsets.entry (N : Nat) (rec : List Item → St → Option Bool) (x : (argH gamehallkeep1_BitsSubsets.as).den) : seg tb (gamehallkeep1_BitsSubsets.G N) gamehallkeep1_BitsSubsets.A 0 rec (gamehallkeep1_BitsSubsets.fin N) segFuel [.code (bodyOf Tryd.f3)] (initSt Tryd.f3 (encArgs gamehallkeep1_BitsSubsets.as x) (encMem gamehallkeep1_BitsSubsets.as x)) = gamehallkeep1_BitsSubsets.e N (fun b_2 => rec gamehallkeep1_BitsSubsets.k0 (gamehallkeep1_BitsSubsets.st0 x.1 b_2)) (fun rest loc b_2 n_ last => rec gamehallkeep1_BitsSubsets.k1 (gamehallkeep1_BitsSubsets.st1 x.1 rest loc b_2 n_ last)) (fun b_2 n_ => rec gamehallkeep1_BitsSubsets.k2 (gamehallkeep1_BitsSubsets.st2 x.1 b_2 n_)) x.1 := by kernel_rfl
theorem gamehallkeep1_BitsSubsets.runs (N : Nat) (b_ : Int) : ∀ n, (∀ (b_2 : Int), run tb (gamehallkeep1_BitsSubsets.G N) gamehallkeep1_BitsSubsets.A 0 (gamehallkeep1_BitsSubsets.fin N) n gamehallkeep1_BitsSubsets.k0 (gamehallkeep1_BitsSubsets.st0 b_ b_2) = gamehallkeep1_BitsSubsets.l0 N b_ n b_2) ∧ (∀ (rest : Int) (loc : Int) (b_2 : Int) (n_ : Int) (last : Int), run tb (gamehallkeep1_BitsSubsets.G N) gamehallkeep1_BitsSubsets.A 0 (gamehallkeep1_BitsSubsets.fin N) n gamehallkeep1_BitsSubsets.k1 (gamehallkeep1_BitsSubsets.st1 b_ rest loc b_2 n_ last) = gamehallkeep1_BitsSubsets.l1 N b_ n rest loc b_2 n_ last) ∧ (∀ (b_2 : Int) (n_ : Int), run tb (gamehallkeep1_BitsSubsets.G N) gamehallkeep1_BitsSubsets.A 0 (gamehallkeep1_BitsSubsets.fin N) n gamehallkeep1_BitsSubsets.k2 (gamehallkeep1_BitsSubsets.st2 b_ b_2 n_) = gamehallkeep1_BitsSubsets.l2 N b_ n b_2 n_)
  | 0 => ⟨fun _ => rfl, fun _ _ _ _ _ => rfl, fun _ _ => rfl⟩
  | n + 1 => by
    obtain ⟨h0, h1, h2⟩ := gamehallkeep1_BitsSubsets.runs N b_ n
    have e0 : (fun (b_2 : Int) => run tb (gamehallkeep1_BitsSubsets.G N) gamehallkeep1_BitsSubsets.A 0 (gamehallkeep1_BitsSubsets.fin N) n gamehallkeep1_BitsSubsets.k0 (gamehallkeep1_BitsSubsets.st0 b_ b_2)) = gamehallkeep1_BitsSubsets.l0 N b_ n := by funext b_2; exact h0 b_2
    have e1 : (fun (rest : Int) (loc : Int) (b_2 : Int) (n_ : Int) (last : Int) => run tb (gamehallkeep1_BitsSubsets.G N) gamehallkeep1_BitsSubsets.A 0 (gamehallkeep1_BitsSubsets.fin N) n gamehallkeep1_BitsSubsets.k1 (gamehallkeep1_BitsSubsets.st1 b_ rest loc b_2 n_ last)) = gamehallkeep1_BitsSubsets.l1 N b_ n := by funext rest loc b_2 n_ last; exact h1 rest loc b_2 n_ last
    have e2 : (fun (b_2 : Int) (n_ : Int) => run tb (gamehallkeep1_BitsSubsets.G N) gamehallkeep1_BitsSubsets.A 0 (gamehallkeep1_BitsSubsets.fin N) n gamehallkeep1_BitsSubsets.k2 (gamehallkeep1_BitsSubsets.st2 b_ b_2 n_)) = gamehallkeep1_BitsSubsets.l2 N b_ n := by funext b_2 n_; exact h2 b_2 n_
    have g0 : (∀ (b_2 : Int), run tb (gamehallkeep1_BitsSubsets.G N) gamehallkeep1_BitsSubsets.A 0 (gamehallkeep1_BitsSubsets.fin N) (n + 1) gamehallkeep1_BitsSubsets.k0 (gamehallkeep1_BitsSubsets.st0 b_ b_2) = gamehallkeep1_BitsSubsets.l0 N b_ (n + 1) b_2) := by
      intro b_2
      exact (run_succ (by kernel_rfl)).trans ((gamehallkeep1_BitsSubsets.step0 N _ b_ b_2).trans ((congr (congr (congrArg (fun r0 r1 r2 => gamehallkeep1_BitsSubsets.s0 N b_ r0 r1 r2 b_2) e0) e1) e2).trans (gamehallkeep1_BitsSubsets.l0_s N b_ n b_2).symm))
    have g1 : (∀ (rest : Int) (loc : Int) (b_2 : Int) (n_ : Int) (last : Int), run tb (gamehallkeep1_BitsSubsets.G N) gamehallkeep1_BitsSubsets.A 0 (gamehallkeep1_BitsSubsets.fin N) (n + 1) gamehallkeep1_BitsSubsets.k1 (gamehallkeep1_BitsSubsets.st1 b_ rest loc b_2 n_ last) = gamehallkeep1_BitsSubsets.l1 N b_ (n + 1) rest loc b_2 n_ last) := by
      intro rest loc b_2 n_ last
      exact (run_rng (by kernel_rfl)).trans ((gamehallkeep1_BitsSubsets.step1 N _ b_ rest loc b_2 n_ last).trans ((congr (congr (congrArg (fun r0 r1 r2 => gamehallkeep1_BitsSubsets.s1 N b_ r0 r1 r2 rest loc b_2 n_ last) e0) e1) e2).trans (gamehallkeep1_BitsSubsets.l1_s N b_ n rest loc b_2 n_ last).symm))
    have g2 : (∀ (b_2 : Int) (n_ : Int), run tb (gamehallkeep1_BitsSubsets.G N) gamehallkeep1_BitsSubsets.A 0 (gamehallkeep1_BitsSubsets.fin N) (n + 1) gamehallkeep1_BitsSubsets.k2 (gamehallkeep1_BitsSubsets.st2 b_ b_2 n_) = gamehallkeep1_BitsSubsets.l2 N b_ (n + 1) b_2 n_) := by
      intro b_2 n_
      exact (run_aft (by kernel_rfl)).trans ((gamehallkeep1_BitsSubsets.step2 N _ b_ b_2 n_).trans ((congr (congr (congrArg (fun r0 r1 r2 => gamehallkeep1_BitsSubsets.s2 N b_ r0 r1 r2 b_2 n_) e0) e1) e2).trans (gamehallkeep1_BitsSubsets.l2_s N b_ n b_2 n_).symm))
    exact ⟨g0, g1, g2⟩
theorem gamehallkeep1_BitsSubsets.ok (N : Nat) : FnOk Tryd.prog 3 (gamehallkeep1_BitsSubsets.D N) := by
  refine FnOk_of tb_ok (Checked.mixed Tryd.checked) ⟨Tryd.f3, Tryd.func3, by kernel_rfl, by kernel_rfl, fun x y h => ⟨gamehallkeep1_BitsSubsets.G N, gamehallkeep1_BitsSubsets.A, N, withIt_ok (gamI_ok tb_ok (Checked.mixed Tryd.checked) (by simp only [List.forall_mem_cons, List.not_mem_nil, false_implies, implies_true, and_true]; exact ⟨Tryd.func9, ⟨by kernel_rfl, by kernel_rfl⟩, gamOf_ok (fun p hp => nomatch hp)⟩) (by simp only [List.forall_mem_cons, List.not_mem_nil, false_implies, implies_true, and_true]; exact ⟨bits_Count.ok N, bits_Count.fit N⟩)) (by simp only [List.forall_mem_cons, List.not_mem_nil, false_implies, implies_true, and_true]; exact itSub_ok), ?_⟩⟩ (gamehallkeep1_BitsSubsets.fit N)
  rw [absFn_n (n0 := 0) rfl (by kernel_rfl)]
  refine (gamehallkeep1_BitsSubsets.entry N (run tb (gamehallkeep1_BitsSubsets.G N) gamehallkeep1_BitsSubsets.A 0 (gamehallkeep1_BitsSubsets.fin N) N) x).trans ?_
  have e0 : (fun (b_2 : Int) => run tb (gamehallkeep1_BitsSubsets.G N) gamehallkeep1_BitsSubsets.A 0 (gamehallkeep1_BitsSubsets.fin N) N gamehallkeep1_BitsSubsets.k0 (gamehallkeep1_BitsSubsets.st0 x.1 b_2)) = gamehallkeep1_BitsSubsets.l0 N x.1 N := by funext b_2; exact (gamehallkeep1_BitsSubsets.runs N x.1 N).1 b_2
  have e1 : (fun (rest : Int) (loc : Int) (b_2 : Int) (n_ : Int) (last : Int) => run tb (gamehallkeep1_BitsSubsets.G N) gamehallkeep1_BitsSubsets.A 0 (gamehallkeep1_BitsSubsets.fin N) N gamehallkeep1_BitsSubsets.k1 (gamehallkeep1_BitsSubsets.st1 x.1 rest loc b_2 n_ last)) = gamehallkeep1_BitsSubsets.l1 N x.1 N := by funext rest loc b_2 n_ last; exact (gamehallkeep1_BitsSubsets.runs N x.1 N).2.1 rest loc b_2 n_ last
  have e2 : (fun (b_2 : Int) (n_ : Int) => run tb (gamehallkeep1_BitsSubsets.G N) gamehallkeep1_BitsSubsets.A 0 (gamehallkeep1_BitsSubsets.fin N) N gamehallkeep1_BitsSubsets.k2 (gamehallkeep1_BitsSubsets.st2 x.1 b_2 n_)) = gamehallkeep1_BitsSubsets.l2 N x.1 N := by funext b_2 n_; exact (gamehallkeep1_BitsSubsets.runs N x.1 N).2.2 b_2 n_
  have h' : (gamehallkeep1_BitsSubsets.D N).f x = gamehallkeep1_BitsSubsets.e N (gamehallkeep1_BitsSubsets.l0 N x.1 N) (gamehallkeep1_BitsSubsets.l1 N x.1 N) (gamehallkeep1_BitsSubsets.l2 N x.1 N) x.1 := by kernel_rfl
  exact (congr (congr (congrArg (fun r0 r1 r2 => gamehallkeep1_BitsSubsets.e N r0 r1 r2 x.1) e0) e1) e2).trans (h'.symm.trans h)
/-! ### f11: gamehall/bits.List -/
def bits_List.as : List MK := [.d false (.int .u64)]
def bits_List.rs : List (Bool × HT) := [(false, (.own 3 (.int .i64)))]
def bits_List.lc : List AC := []
def bits_List.D (N : Nat) : DFn := ⟨bits_List.as, bits_List.rs, (List Int), fun x => bits_List N x.1, fun r o => r.1, fun b => (b, ()), fun b => ()⟩
theorem bits_List.fit (N : Nat) : (bits_List.D N).Fit := ⟨fun _ _ => rfl, fun _ _ => rfl, by kernel_rfl⟩
noncomputable def bits_List.G (N : Nat) : Gam := (gamI tb [(13, (Tryd.f13, gamOf []))] []).withIt [(21, itAll tzF)]
def bits_List.A : Nat → Option LoopAnn := fun k => bif Nat.beq k 5000000 then some ⟨[3], [], [(0, 0, 3)], [(true, 0, 0, 2)], [], 3, false⟩ else bif Nat.beq k 6000000 then some ⟨[3], [], [], [], [], 3, false⟩ else none
noncomputable def bits_List.fin (N : Nat) : St → Option (List Int) := resK tb Tryd.f11.results.toList (decRes (bits_List.D N) bits_List.lc)
noncomputable def bits_List.k0 : List Item := stackAt [.r, .r, .l, .r, .b] (bodyOf Tryd.f11) []
def bits_List.st0 (b_ : Int) (rest : Int) (m2_ : (List Int)) : St := ⟨[.one (.fn 21), .one (.int .u64 rest), .one (.int .i64 0)] ++ List.replicate 3 (.one .any) ++ [.one (.ptr 0 0)] ++ List.replicate 9 (.one .any), [.var 29 [.own 2], .gone, .row 3 (.int .i64) m2_]⟩
noncomputable def bits_List.k1 : List Item := stripB ((stackAt [.r, .r, .l, .r, .b] (bodyOf Tryd.f11) []).drop 1)
def bits_List.st1 (b_ : Int) (m2_ : (List Int)) : St := ⟨List.replicate 3 (.one .any) ++ [.one (.ptr 0 0)] ++ List.replicate 9 (.one .any), [.var 29 [.own 2], .gone, .row 3 (.int .i64) m2_]⟩
theorem bits_List.step0 (N : Nat) (rec : List Item → St → Option (List Int)) (b_ : Int) (rest : Int) (m2_ : (List Int)) : rngAt tb (bits_List.G N) bits_List.A 0 rec (bits_List.fin N) bits_List.k0 (bits_List.st0 b_ rest m2_) = bits_List.s0 N b_ (fun rest m2_ => rec bits_List.k0 (bits_List.st0 b_ rest m2_)) (fun m2_ => rec bits_List.k1 (bits_List.st1 b_ m2_)) rest m2_ := by kernel_rfl
theorem bits_List.step1 (N : Nat) (rec : List Item → St → Option (List Int)) (b_ : Int) (m2_ : (List Int)) : seg tb (bits_List.G N) bits_List.A 0 rec (bits_List.fin N) segFuel bits_List.k1 (bits_List.st1 b_ m2_) = bits_List.s1 N b_ (fun rest m2_ => rec bits_List.k0 (bits_List.st0 b_ rest m2_)) (fun m2_ => rec bits_List.k1 (bits_List.st1 b_ m2_)) m2_ := by kernel_rfl
theorem bits_List.entry (N : Nat) (rec : List Item → St → Option (List Int)) (x : (argH bits_List.as).den) : seg tb (bits_List.G N) bits_List.A 0 rec (bits_List.fin N) segFuel [.code (bodyOf Tryd.f11)] (initSt Tryd.f11 (encArgs bits_List.as x) (encMem bits_List.as x)) = bits_List.e N (fun rest m2_ => rec bits_List.k0 (bits_List.st0 x.1 rest m2_)) (fun m2_ => rec bits_List.k1 (bits_List.st1 x.1 m2_)) x.1 := by kernel_rfl
theorem bits_List.runs (N : Nat) (b_ : Int) : ∀ n, (∀ (rest : Int) (m2_ : (List Int)), run tb (bits_List.G N) bits_List.A 0 (bits_List.fin N) n bits_List.k0 (bits_List.st0 b_ rest m2_) = bits_List.l0 N b_ n rest m2_) ∧ (∀ (m2_ : (List Int)), run tb (bits_List.G N) bits_List.A 0 (bits_List.fin N) n bits_List.k1 (bits_List.st1 b_ m2_) = bits_List.l1 N b_ n m2_)
  | 0 => ⟨fun _ _ => rfl, fun _ => rfl⟩
  | n + 1 => by
    obtain ⟨h0, h1⟩ := bits_List.runs N b_ n
    have e0 : (fun (rest : Int) (m2_ : (List Int)) => run tb (bits_List.G N) bits_List.A 0 (bits_List.fin N) n bits_List.k0 (bits_List.st0 b_ rest m2_)) = bits_List.l0 N b_ n := by funext rest m2_; exact h0 rest m2_
    have e1 : (fun (m2_ : (List Int)) => run tb (bits_List.G N) bits_List.A 0 (bits_List.fin N) n bits_List.k1 (bits_List.st1 b_ m2_)) = bits_List.l1 N b_ n := by funext m2_; exact h1 m2_
    have g0 : (∀ (rest : Int) (m2_ : (List Int)), run tb (bits_List.G N) bits_List.A 0 (bits_List.fin N) (n + 1) bits_List.k0 (bits_List.st0 b_ rest m2_) = bits_List.l0 N b_ (n + 1) rest m2_) := by
      intro rest m2_
      exact (run_rng (by kernel_rfl)).trans ((bits_List.step0 N _ b_ rest m2_).trans ((congr (congrArg (fun r0 r1 => bits_List.s0 N b_ r0 r1 rest m2_) e0) e1).trans (bits_List.l0_s N b_ n rest m2_).symm))
    have g1 : (∀ (m2_ : (List Int)), run tb (bits_List.G N) bits_List.A 0 (bits_List.fin N) (n + 1) bits_List.k1 (bits_List.st1 b_ m2_) = bits_List.l1 N b_ (n + 1) m2_) := by
      intro m2_
      exact (run_aft (by kernel_rfl)).trans ((bits_List.step1 N _ b_ m2_).trans ((congr (congrArg (fun r0 r1 => bits_List.s1 N b_ r0 r1 m2_) e0) e1).trans (bits_List.l1_s N b_ n m2_).symm))
    exact ⟨g0, g1⟩
theorem bits_List.ok (N : Nat) : FnOk Tryd.prog 11 (bits_List.D N) := by
  refine FnOk_of tb_ok (Checked.mixed Tryd.checked) ⟨Tryd.f11, Tryd.func11, by kernel_rfl, by kernel_rfl, fun x y h => ⟨bits_List.G N, bits_List.A, N, withIt_ok (gamI_ok tb_ok (Checked.mixed Tryd.checked) (by simp only [List.forall_mem_cons, List.not_mem_nil, false_implies, implies_true, and_true]; exact ⟨Tryd.func13, ⟨by kernel_rfl, by kernel_rfl⟩, gamOf_ok (fun p hp => nomatch hp)⟩) (fun p hp => nomatch hp)) (by simp only [List.forall_mem_cons, List.not_mem_nil, false_implies, implies_true, and_true]; exact itAll_ok tzF_ok), ?_⟩⟩ (bits_List.fit N)
  rw [absFn_n (n0 := 0) rfl (by kernel_rfl)]
  refine (bits_List.entry N (run tb (bits_List.G N) bits_List.A 0 (bits_List.fin N) N) x).trans ?_
  have e0 : (fun (rest : Int) (m2_ : (List Int)) => run tb (bits_List.G N) bits_List.A 0 (bits_List.fin N) N bits_List.k0 (bits_List.st0 x.1 rest m2_)) = bits_List.l0 N x.1 N := by funext rest m2_; exact (bits_List.runs N x.1 N).1 rest m2_
  have e1 : (fun (m2_ : (List Int)) => run tb (bits_List.G N) bits_List.A 0 (bits_List.fin N) N bits_List.k1 (bits_List.st1 x.1 m2_)) = bits_List.l1 N x.1 N := by funext m2_; exact (bits_List.runs N x.1 N).2 m2_
  have h' : (bits_List.D N).f x = bits_List.e N (bits_List.l0 N x.1 N) (bits_List.l1 N x.1 N) x.1 := by kernel_rfl
  exact (congr (congrArg (fun r0 r1 => bits_List.e N r0 r1 x.1) e0) e1).trans (h'.symm.trans h)
/-! ### f10: slices.Equal[[]int,int] -/
def slices_Equal_int_int.as : List MK := [.d false (.slice 3 (.int .i64)), .d false (.slice 3 (.int .i64))]
def slices_Equal_int_int.rs : List (Bool × HT) := [(false, (.d .bool))]
def slices_Equal_int_int.lc : List AC := []
def slices_Equal_int_int.D (N : Nat) : DFn := ⟨slices_Equal_int_int.as, slices_Equal_int_int.rs, Bool, fun x => slices_Equal_int_int N x.1 x.2.1, fun r o => r.1, fun b => (b, ()), fun b => ()⟩
theorem slices_Equal_int_int.fit (N : Nat) : (slices_Equal_int_int.D N).Fit := ⟨fun _ _ => rfl, fun _ _ => rfl, by kernel_rfl⟩
noncomputable def slices_Equal_int_int.G (N : Nat) : Gam := gamOf []
def slices_Equal_int_int.A : Nat → Option LoopAnn := fun k => bif Nat.beq k 0 then some ⟨[0, 1, 12, 13], [], [], [], [], 0, false⟩ else none
noncomputable def slices_Equal_int_int.fin (N : Nat) : St → Option Bool := resK tb Tryd.f10.results.toList (decRes (slices_Equal_int_int.D N) slices_Equal_int_int.lc)
noncomputable def slices_Equal_int_int.k0 : List Item := stackAt [.r, .r, .l, .r, .b] (bodyOf Tryd.f10) []
def slices_Equal_int_int.st0 (s1_ : (List Int)) (s2_ : (List Int)) (t13_ : Int) : St := ⟨[.one (.fro 3 (.int .i64) s1_), .one (.fro 3 (.int .i64) s2_)] ++ List.replicate 10 (.one .any) ++ [.one (.int .i64 (s1_.length : Int)), .one (.int .i64 t13_)] ++ List.replicate 12 (.one .any), []⟩
theorem slices_Equal_int_int.step0 (N : Nat) (rec : List Item → St → Option Bool) (s1_ : (List Int)) (s2_ : (List Int)) (t13_ : Int) : seg tb (slices_Equal_int_int.G N) slices_Equal_int_int.A 0 rec (slices_Equal_int_int.fin N) segFuel (loopBody slices_Equal_int_int.k0) (slices_Equal_int_int.st0 s1_ s2_ t13_) = slices_Equal_int_int.s0 N s1_ s2_ (fun t13_ => rec slices_Equal_int_int.k0 (slices_Equal_int_int.st0 s1_ s2_ t13_)) t13_ := by kernel_rfl
theorem slices_Equal_int_int.entry (N : Nat) (rec : List Item → St → Option Bool) (x : (argH slices_Equal_int_int.as).den) : seg tb (slices_Equal_int_int.G N) slices_Equal_int_int.A 0 rec (slices_Equal_int_int.fin N) segFuel [.code (bodyOf Tryd.f10)] (initSt Tryd.f10 (encArgs slices_Equal_int_int.as x) (encMem slices_Equal_int_int.as x)) = slices_Equal_int_int.e N (fun t13_ => rec slices_Equal_int_int.k0 (slices_Equal_int_int.st0 x.1 x.2.1 t13_)) x.1 x.2.1 := by kernel_rfl
theorem slices_Equal_int_int.runs (N : Nat) (s1_ : (List Int)) (s2_ : (List Int)) : ∀ n, (∀ (t13_ : Int), run tb (slices_Equal_int_int.G N) slices_Equal_int_int.A 0 (slices_Equal_int_int.fin N) n slices_Equal_int_int.k0 (slices_Equal_int_int.st0 s1_ s2_ t13_) = slices_Equal_int_int.l0 N s1_ s2_ n t13_)
  | 0 => fun _ => rfl
  | n + 1 => by
    have h0 := slices_Equal_int_int.runs N s1_ s2_ n
    have e0 : (fun (t13_ : Int) => run tb (slices_Equal_int_int.G N) slices_Equal_int_int.A 0 (slices_Equal_int_int.fin N) n slices_Equal_int_int.k0 (slices_Equal_int_int.st0 s1_ s2_ t13_)) = slices_Equal_int_int.l0 N s1_ s2_ n := by funext t13_; exact h0 t13_
    have g0 : (∀ (t13_ : Int), run tb (slices_Equal_int_int.G N) slices_Equal_int_int.A 0 (slices_Equal_int_int.fin N) (n + 1) slices_Equal_int_int.k0 (slices_Equal_int_int.st0 s1_ s2_ t13_) = slices_Equal_int_int.l0 N s1_ s2_ (n + 1) t13_) := by
      intro t13_
      exact (run_succ (by kernel_rfl)).trans ((slices_Equal_int_int.step0 N _ s1_ s2_ t13_).trans ((congrArg (fun r0 => slices_Equal_int_int.s0 N s1_ s2_ r0 t13_) e0).trans (slices_Equal_int_int.l0_s N s1_ s2_ n t13_).symm))
    exact g0
theorem slices_Equal_int_int.ok (N : Nat) : FnOk Tryd.prog 10 (slices_Equal_int_int.D N) := by
  refine FnOk_of tb_ok (Checked.mixed Tryd.checked) ⟨Tryd.f10, Tryd.func10, by kernel_rfl, by kernel_rfl, fun x y h => ⟨slices_Equal_int_int.G N, slices_Equal_int_int.A, N, gamOf_ok (fun p hp => nomatch hp), ?_⟩⟩ (slices_Equal_int_int.fit N)
  rw [absFn_n (n0 := 0) rfl (by kernel_rfl)]
  refine (slices_Equal_int_int.entry N (run tb (slices_Equal_int_int.G N) slices_Equal_int_int.A 0 (slices_Equal_int_int.fin N) N) x).trans ?_
  have e0 : (fun (t13_ : Int) => run tb (slices_Equal_int_int.G N) slices_Equal_int_int.A 0 (slices_Equal_int_int.fin N) N slices_Equal_int_int.k0 (slices_Equal_int_int.st0 x.1 x.2.1 t13_)) = slices_Equal_int_int.l0 N x.1 x.2.1 N := by funext t13_; exact (slices_Equal_int_int.runs N x.1 x.2.1 N) t13_
  have h' : (slices_Equal_int_int.D N).f x = slices_Equal_int_int.e N (slices_Equal_int_int.l0 N x.1 x.2.1 N) x.1 x.2.1 := by kernel_rfl
  exact (congrArg (fun r0 => slices_Equal_int_int.e N r0 x.1 x.2.1) e0).trans (h'.symm.trans h)
/-! ### f12: gamehall/bits.Of -/
def bits_Of.as : List MK := [.d false (.slice 3 (.int .i64))]
def bits_Of.rs : List (Bool × HT) := [(false, (.d (.int .u64))), (false, (.d (.int .i64)))]
def bits_Of.lc : List AC := []
def bits_Of.D (N : Nat) : DFn := ⟨bits_Of.as, bits_Of.rs, (Int × Int), fun x => bits_Of N x.1, fun r o => (r.1, r.2.1), fun b => (b.1, (b.2, ())), fun b => ()⟩
theorem bits_Of.fit (N : Nat) : (bits_Of.D N).Fit := ⟨fun _ _ => rfl, fun _ _ => rfl, by kernel_rfl⟩
noncomputable def bits_Of.G (N : Nat) : Gam := gamOf []
def bits_Of.A : Nat → Option LoopAnn := fun k => bif Nat.beq k 0 then some ⟨[4, 7, 8, 9], [], [], [], [], 0, false⟩ else none
noncomputable def bits_Of.fin (N : Nat) : St → Option (Int × Int) := resK tb Tryd.f12.results.toList (decRes (bits_Of.D N) bits_Of.lc)
noncomputable def bits_Of.k0 : List Item := stackAt [.r, .r, .l, .r, .b] (bodyOf Tryd.f12) []
def bits_Of.st0 (l_ : (List Int)) (out : Int) (t9_ : Int) : St := ⟨List.replicate 4 (.one .any) ++ [.one (.int .u64 out), .one .any, .one .any, .one (.fro 3 (.int .i64) l_), .one (.int .i64 (l_.length : Int)), .one (.int .i64 t9_)] ++ List.replicate 20 (.one .any), []⟩
theorem bits_Of.step0 (N : Nat) (rec : List Item → St → Option (Int × Int)) (l_ : (List Int)) (out : Int) (t9_ : Int) : seg tb (bits_Of.G N) bits_Of.A 0 rec (bits_Of.fin N) segFuel (loopBody bits_Of.k0) (bits_Of.st0 l_ out t9_) = bits_Of.s0 N l_ (fun out t9_ => rec bits_Of.k0 (bits_Of.st0 l_ out t9_)) out t9_ := by kernel_rfl
theorem bits_Of.entry (N : Nat) (rec : List Item → St → Option (Int × Int)) (x : (argH bits_Of.as).den) : seg tb (bits_Of.G N) bits_Of.A 0 rec (bits_Of.fin N) segFuel [.code (bodyOf Tryd.f12)] (initSt Tryd.f12 (encArgs bits_Of.as x) (encMem bits_Of.as x)) = bits_Of.e N (fun out t9_ => rec bits_Of.k0 (bits_Of.st0 x.1 out t9_)) x.1 := by kernel_rfl
theorem bits_Of.runs (N : Nat) (l_ : (List Int)) : ∀ n, (∀ (out : Int) (t9_ : Int), run tb (bits_Of.G N) bits_Of.A 0 (bits_Of.fin N) n bits_Of.k0 (bits_Of.st0 l_ out t9_) = bits_Of.l0 N l_ n out t9_)
  | 0 => fun _ _ => rfl
  | n + 1 => by
    have h0 := bits_Of.runs N l_ n
    have e0 : (fun (out : Int) (t9_ : Int) => run tb (bits_Of.G N) bits_Of.A 0 (bits_Of.fin N) n bits_Of.k0 (bits_Of.st0 l_ out t9_)) = bits_Of.l0 N l_ n := by funext out t9_; exact h0 out t9_
    have g0 : (∀ (out : Int) (t9_ : Int), run tb (bits_Of.G N) bits_Of.A 0 (bits_Of.fin N) (n + 1) bits_Of.k0 (bits_Of.st0 l_ out t9_) = bits_Of.l0 N l_ (n + 1) out t9_) := by
      intro out t9_
      exact (run_succ (by kernel_rfl)).trans ((bits_Of.step0 N _ l_ out t9_).trans ((congrArg (fun r0 => bits_Of.s0 N l_ r0 out t9_) e0).trans (bits_Of.l0_s N l_ n out t9_).symm))
    exact g0
theorem bits_Of.ok (N : Nat) : FnOk Tryd.prog 12 (bits_Of.D N) := by
  refine FnOk_of tb_ok (Checked.mixed Tryd.checked) ⟨Tryd.f12, Tryd.func12, by kernel_rfl, by kernel_rfl, fun x y h => ⟨bits_Of.G N, bits_Of.A, N, gamOf_ok (fun p hp => nomatch hp), ?_⟩⟩ (bits_Of.fit N)
  rw [absFn_n (n0 := 0) rfl (by kernel_rfl)]
  refine (bits_Of.entry N (run tb (bits_Of.G N) bits_Of.A 0 (bits_Of.fin N) N) x).trans ?_
  have e0 : (fun (out : Int) (t9_ : Int) => run tb (bits_Of.G N) bits_Of.A 0 (bits_Of.fin N) N bits_Of.k0 (bits_Of.st0 x.1 out t9_)) = bits_Of.l0 N x.1 N := by funext out t9_; exact (bits_Of.runs N x.1 N) out t9_
  have h' : (bits_Of.D N).f x = bits_Of.e N (bits_Of.l0 N x.1 N) x.1 := by kernel_rfl
  exact (congrArg (fun r0 => bits_Of.e N r0 x.1) e0).trans (h'.symm.trans h)
/-! ### f4: gamehall/gamehallkeep1.BitsBack -/
def gamehallkeep1_BitsBack.as : List MK := [.d false (.int .u64)]
def gamehallkeep1_BitsBack.rs : List (Bool × HT) := [(false, (.d .bool))]
def gamehallkeep1_BitsBack.lc : List AC := []
def gamehallkeep1_BitsBack.D (N : Nat) : DFn := ⟨gamehallkeep1_BitsBack.as, gamehallkeep1_BitsBack.rs, Bool, fun x => gamehallkeep1_BitsBack N x.1, fun r o => r.1, fun b => (b, ()), fun b => ()⟩
theorem gamehallkeep1_BitsBack.fit (N : Nat) : (gamehallkeep1_BitsBack.D N).Fit := ⟨fun _ _ => rfl, fun _ _ => rfl, by kernel_rfl⟩
noncomputable def gamehallkeep1_BitsBack.G (N : Nat) : Gam := (gamI tb [(13, (Tryd.f13, gamOf []))] [(8, bits_Count.D N), (11, bits_List.D N), (10, slices_Equal_int_int.D N), (12, bits_Of.D N)]).withIt [(21, itAll tzF)]
def gamehallkeep1_BitsBack.A : Nat → Option LoopAnn := fun k => bif Nat.beq k 5000000 then some ⟨[3, 6], [], [(3, 0, 3)], [(true, 3, 0, 5)], [0, 1], 6, false⟩ else bif Nat.beq k 6000000 then some ⟨[3, 6], [], [], [], [], 6, false⟩ else none
noncomputable def gamehallkeep1_BitsBack.fin (N : Nat) : St → Option Bool := resK tb Tryd.f4.results.toList (decRes (gamehallkeep1_BitsBack.D N) gamehallkeep1_BitsBack.lc)
noncomputable def gamehallkeep1_BitsBack.k0 : List Item := stackAt [.r, .r, .r, .r, .r, .r, .l, .r, .b] (bodyOf Tryd.f4) []
def gamehallkeep1_BitsBack.st0 (b_ : Int) (rest : Int) (l_ : (List Int)) (m5_ : (List Int)) : St := ⟨[.one (.fn 21), .one (.int .u64 rest), .one (.int .i64 0)] ++ List.replicate 3 (.one .any) ++ [.one (.own 2), .one .any, .one .any, .one (.ptr 3 0)] ++ List.replicate 47 (.one .any), [.gone, .gone, .row 3 (.int .i64) l_, .var 29 [.own 5], .gone, .row 3 (.int .i64) m5_]⟩
noncomputable def gamehallkeep1_BitsBack.k1 : List Item := stripB ((stackAt [.r, .r, .r, .r, .r, .r, .l, .r, .b] (bodyOf Tryd.f4) []).drop 1)
def gamehallkeep1_BitsBack.st1 (b_ : Int) (l_ : (List Int)) (m5_ : (List Int)) : St := ⟨List.replicate 3 (.one .any) ++ [.one (.own 2), .one .any, .one .any, .one (.ptr 3 0)] ++ List.replicate 47 (.one .any), [.gone, .gone, .row 3 (.int .i64) l_, .var 29 [.own 5], .gone, .row 3 (.int .i64) m5_]⟩
theorem gamehallkeep1_BitsBack.step0 (N : Nat) (rec : List Item → St → Option Bool) (b_ : Int) (rest : Int) (l_ : (List Int)) (m5_ : (List Int)) : rngAt tb (gamehallkeep1_BitsBack.G N) gamehallkeep1_BitsBack.A 0 rec (gamehallkeep1_BitsBack.fin N) gamehallkeep1_BitsBack.k0 (gamehallkeep1_BitsBack.st0 b_ rest l_ m5_) = gamehallkeep1_BitsBack.s0 N b_ (fun rest l_ m5_ => rec gamehallkeep1_BitsBack.k0 (gamehallkeep1_BitsBack.st0 b_ rest l_ m5_)) (fun l_ m5_ => rec gamehallkeep1_BitsBack.k1 (gamehallkeep1_BitsBack.st1 b_ l_ m5_)) rest l_ m5_ := by kernel_rfl
theorem gamehallkeep1_BitsBack.step1 (N : Nat) (rec : List Item → St → Option Bool) (b_ : Int) (l_ : (List Int)) (m5_ : (List Int)) : seg tb (gamehallkeep1_BitsBack.G N) gamehallkeep1_BitsBack.A 0 rec (gamehallkeep1_BitsBack.fin N) segFuel gamehallkeep1_BitsBack.k1 (gamehallkeep1_BitsBack.st1 b_ l_ m5_) = gamehallkeep1_BitsBack.s1 N b_ (fun rest l_ m5_ => rec gamehallkeep1_BitsBack.k0 (gamehallkeep1_BitsBack.st0 b_ rest l_ m5_)) (fun l_ m5_ => rec gamehallkeep1_BitsBack.k1 (gamehallkeep1_BitsBack.st1 b_ l_ m5_)) l_ m5_ := by kernel_rfl
theorem gamehallkeep1_BitsBack.entry (N : Nat) (rec : List Item → St → Option Bool) (x : (argH gamehallkeep1_BitsBack.as).den) : seg tb (gamehallkeep1_BitsBack.G N) gamehallkeep1_BitsBack.A 0 rec (gamehallkeep1_BitsBack.fin N) segFuel [.code (bodyOf Tryd.f4)] (initSt Tryd.f4 (encArgs gamehallkeep1_BitsBack.as x) (encMem gamehallkeep1_BitsBack.as x)) = gamehallkeep1_BitsBack.e N (fun rest l_ m5_ => rec gamehallkeep1_BitsBack.k0 (gamehallkeep1_BitsBack.st0 x.1 rest l_ m5_)) (fun l_ m5_ => rec gamehallkeep1_BitsBack.k1 (gamehallkeep1_BitsBack.st1 x.1 l_ m5_)) x.1 := by kernel_rfl
theorem gamehallkeep1_BitsBack.runs (N : Nat) (b_ : Int) : ∀ n, (∀ (rest : Int) (l_ : (List Int)) (m5_ : (List Int)), run tb (gamehallkeep1_BitsBack.G N) gamehallkeep1_BitsBack.A 0 (gamehallkeep1_BitsBack.fin N) n gamehallkeep1_BitsBack.k0 (gamehallkeep1_BitsBack.st0 b_ rest l_ m5_) = gamehallkeep1_BitsBack.l0 N b_ n rest l_ m5_) ∧ (∀ (l_ : (List Int)) (m5_ : (List Int)), run tb (gamehallkeep1_BitsBack.G N) gamehallkeep1_BitsBack.A 0 (gamehallkeep1_BitsBack.fin N) n gamehallkeep1_BitsBack.k1 (gamehallkeep1_BitsBack.st1 b_ l_ m5_) = gamehallkeep1_BitsBack.l1 N b_ n l_ m5_)
  | 0 => ⟨fun _ _ _ => rfl, fun _ _ => rfl⟩
  | n + 1 => by
    obtain ⟨h0, h1⟩ := gamehallkeep1_BitsBack.runs N b_ n
    have e0 : (fun (rest : Int) (l_ : (List Int)) (m5_ : (List Int)) => run tb (gamehallkeep1_BitsBack.G N) gamehallkeep1_BitsBack.A 0 (gamehallkeep1_BitsBack.fin N) n gamehallkeep1_BitsBack.k0 (gamehallkeep1_BitsBack.st0 b_ rest l_ m5_)) = gamehallkeep1_BitsBack.l0 N b_ n := by funext rest l_ m5_; exact h0 rest l_ m5_
    have e1 : (fun (l_ : (List Int)) (m5_ : (List Int)) => run tb (gamehallkeep1_BitsBack.G N) gamehallkeep1_BitsBack.A 0 (gamehallkeep1_BitsBack.fin N) n gamehallkeep1_BitsBack.k1 (gamehallkeep1_BitsBack.st1 b_ l_ m5_)) = gamehallkeep1_BitsBack.l1 N b_ n := by funext l_ m5_; exact h1 l_ m5_
    have g0 : (∀ (rest : Int) (l_ : (List Int)) (m5_ : (List Int)), run tb (gamehallkeep1_BitsBack.G N) gamehallkeep1_BitsBack.A 0 (gamehallkeep1_BitsBack.fin N) (n + 1) gamehallkeep1_BitsBack.k0 (gamehallkeep1_BitsBack.st0 b_ rest l_ m5_) = gamehallkeep1_BitsBack.l0 N b_ (n + 1) rest l_ m5_) := by
      intro rest l_ m5_
      exact (run_rng (by kernel_rfl)).trans ((gamehallkeep1_BitsBack.step0 N _ b_ rest l_ m5_).trans ((congr (congrArg (fun r0 r1 => gamehallkeep1_BitsBack.s0 N b_ r0 r1 rest l_ m5_) e0) e1).trans (gamehallkeep1_BitsBack.l0_s N b_ n rest l_ m5_).symm))
    have g1 : (∀ (l_ : (List Int)) (m5_ : (List Int)), run tb (gamehallkeep1_BitsBack.G N) gamehallkeep1_BitsBack.A 0 (gamehallkeep1_BitsBack.fin N) (n + 1) gamehallkeep1_BitsBack.k1 (gamehallkeep1_BitsBack.st1 b_ l_ m5_) = gamehallkeep1_BitsBack.l1 N b_ (n + 1) l_ m5_) := by
      intro l_ m5_
      exact (run_aft (by kernel_rfl)).trans ((gamehallkeep1_BitsBack.step1 N _ b_ l_ m5_).trans ((congr (congrArg (fun r0 r1 => gamehallkeep1_BitsBack.s1 N b_ r0 r1 l_ m5_) e0) e1).trans (gamehallkeep1_BitsBack.l1_s N b_ n l_ m5_).symm))
    exact ⟨g0, g1⟩
theorem gamehallkeep1_BitsBack.ok (N : Nat) : FnOk Tryd.prog 4 (gamehallkeep1_BitsBack.D N) := by
  refine FnOk_of tb_ok (Checked.mixed Tryd.checked) ⟨Tryd.f4, Tryd.func4, by kernel_rfl, by kernel_rfl, fun x y h => ⟨gamehallkeep1_BitsBack.G N, gamehallkeep1_BitsBack.A, N, withIt_ok (gamI_ok tb_ok (Checked.mixed Tryd.checked) (by simp only [List.forall_mem_cons, List.not_mem_nil, false_implies, implies_true, and_true]; exact ⟨Tryd.func13, ⟨by kernel_rfl, by kernel_rfl⟩, gamOf_ok (fun p hp => nomatch hp)⟩) (by simp only [List.forall_mem_cons, List.not_mem_nil, false_implies, implies_true, and_true]; exact ⟨⟨bits_Count.ok N, bits_Count.fit N⟩, ⟨bits_List.ok N, bits_List.fit N⟩, ⟨slices_Equal_int_int.ok N, slices_Equal_int_int.fit N⟩, ⟨bits_Of.ok N, bits_Of.fit N⟩⟩)) (by simp only [List.forall_mem_cons, List.not_mem_nil, false_implies, implies_true, and_true]; exact itAll_ok tzF_ok), ?_⟩⟩ (gamehallkeep1_BitsBack.fit N)
  rw [absFn_n (n0 := 0) rfl (by kernel_rfl)]
  refine (gamehallkeep1_BitsBack.entry N (run tb (gamehallkeep1_BitsBack.G N) gamehallkeep1_BitsBack.A 0 (gamehallkeep1_BitsBack.fin N) N) x).trans ?_
  have e0 : (fun (rest : Int) (l_ : (List Int)) (m5_ : (List Int)) => run tb (gamehallkeep1_BitsBack.G N) gamehallkeep1_BitsBack.A 0 (gamehallkeep1_BitsBack.fin N) N gamehallkeep1_BitsBack.k0 (gamehallkeep1_BitsBack.st0 x.1 rest l_ m5_)) = gamehallkeep1_BitsBack.l0 N x.1 N := by funext rest l_ m5_; exact (gamehallkeep1_BitsBack.runs N x.1 N).1 rest l_ m5_
  have e1 : (fun (l_ : (List Int)) (m5_ : (List Int)) => run tb (gamehallkeep1_BitsBack.G N) gamehallkeep1_BitsBack.A 0 (gamehallkeep1_BitsBack.fin N) N gamehallkeep1_BitsBack.k1 (gamehallkeep1_BitsBack.st1 x.1 l_ m5_)) = gamehallkeep1_BitsBack.l1 N x.1 N := by funext l_ m5_; exact (gamehallkeep1_BitsBack.runs N x.1 N).2 l_ m5_
  have h' : (gamehallkeep1_BitsBack.D N).f x = gamehallkeep1_BitsBack.e N (gamehallkeep1_BitsBack.l0 N x.1 N) (gamehallkeep1_BitsBack.l1 N x.1 N) x.1 := by kernel_rfl
  exact (congr (congrArg (fun r0 r1 => gamehallkeep1_BitsBack.e N r0 r1 x.1) e0) e1).trans (h'.symm.trans h)
/-! ### f23: gamehall/bits.column -/
def bits_column.as : List MK := [.d false (.int .i64)]
def bits_column.rs : List (Bool × HT) := [(false, (.d (.int .u64)))]
def bits_column.lc : List AC := []
def bits_column.D (N : Nat) : DFn := ⟨bits_column.as, bits_column.rs, Int, fun x => bits_column N x.1, fun r o => r.1, fun b => (b, ()), fun b => ()⟩
theorem bits_column.fit (N : Nat) : (bits_column.D N).Fit := ⟨fun _ _ => rfl, fun _ _ => rfl, by kernel_rfl⟩
noncomputable def bits_column.G (N : Nat) : Gam := gamOf []
def bits_column.A : Nat → Option LoopAnn := fun _ => none
noncomputable def bits_column.fin (N : Nat) : St → Option Int := resK tb Tryd.f23.results.toList (decRes (bits_column.D N) bits_column.lc)
theorem bits_column.entry (N : Nat) (rec : List Item → St → Option Int) (x : (argH bits_column.as).den) : seg tb (bits_column.G N) bits_column.A 0 rec (bits_column.fin N) segFuel [.code (bodyOf Tryd.f23)] (initSt Tryd.f23 (encArgs bits_column.as x) (encMem bits_column.as x)) = bits_column.e N x.1 := by kernel_rfl
theorem bits_column.ok (N : Nat) : FnOk Tryd.prog 23 (bits_column.D N) := by
  refine FnOk_of tb_ok (Checked.mixed Tryd.checked) ⟨Tryd.f23, Tryd.func23, by kernel_rfl, by kernel_rfl, fun x y h => ⟨bits_column.G N, bits_column.A, N, gamOf_ok (fun p hp => nomatch hp), ?_⟩⟩ (bits_column.fit N)
  rw [absFn_n (n0 := 0) rfl (by kernel_rfl)]
  exact (bits_column.entry N _ x).trans h
/-! ### f15: gamehall/bits.Shift -/
def bits_Shift.as : List MK := [.d false (.int .u64), .d false (.int .i64), .d false (.int .i64)]
def bits_Shift.rs : List (Bool × HT) := [(false, (.d (.int .u64)))]
def bits_Shift.lc : List AC := []
def bits_Shift.D (N : Nat) : DFn := ⟨bits_Shift.as, bits_Shift.rs, Int, fun x => bits_Shift N x.1 x.2.1 x.2.2.1, fun r o => r.1, fun b => (b, ()), fun b => ()⟩
theorem bits_Shift.fit (N : Nat) : (bits_Shift.D N).Fit := ⟨fun _ _ => rfl, fun _ _ => rfl, by kernel_rfl⟩
noncomputable def bits_Shift.G (N : Nat) : Gam := gamOf [(23, bits_column.D N)]
def bits_Shift.A : Nat → Option LoopAnn := fun k => bif Nat.beq k 0 then some ⟨[0, 1, 2, 23], [], [], [], [], 0, false⟩ else none
noncomputable def bits_Shift.fin (N : Nat) : St → Option Int := resK tb Tryd.f15.results.toList (decRes (bits_Shift.D N) bits_Shift.lc)
noncomputable def bits_Shift.k0 : List Item := stackAt [.r, .r, .l, .r, .b] (bodyOf Tryd.f15) []
def bits_Shift.st0 (b_ : Int) (dx : Int) (dy : Int) (b_2 : Int) (t23_ : Int) : St := ⟨[.one (.int .u64 b_2), .one (.int .i64 dx), .one (.int .i64 dy)] ++ List.replicate 20 (.one .any) ++ [.one (.int .i64 t23_)] ++ List.replicate 30 (.one .any), []⟩
theorem bits_Shift.step0 (N : Nat) (rec : List Item → St → Option Int) (b_ : Int) (dx : Int) (dy : Int) (b_2 : Int) (t23_ : Int) : seg tb (bits_Shift.G N) bits_Shift.A 0 rec (bits_Shift.fin N) segFuel (loopBody bits_Shift.k0) (bits_Shift.st0 b_ dx dy b_2 t23_) = bits_Shift.s0 N b_ dx dy (fun b_2 t23_ => rec bits_Shift.k0 (bits_Shift.st0 b_ dx dy b_2 t23_)) b_2 t23_ := by kernel_rfl
theorem bits_Shift.entry (N : Nat) (rec : List Item → St → Option Int) (x : (argH bits_Shift.as).den) : seg tb (bits_Shift.G N) bits_Shift.A 0 rec (bits_Shift.fin N) segFuel [.code (bodyOf Tryd.f15)] (initSt Tryd.f15 (encArgs bits_Shift.as x) (encMem bits_Shift.as x)) = bits_Shift.e N (fun b_2 t23_ => rec bits_Shift.k0 (bits_Shift.st0 x.1 x.2.1 x.2.2.1 b_2 t23_)) x.1 x.2.1 x.2.2.1 := by kernel_rfl
theorem bits_Shift.runs (N : Nat) (b_ : Int) (dx : Int) (dy : Int) : ∀ n, (∀ (b_2 : Int) (t23_ : Int), run tb (bits_Shift.G N) bits_Shift.A 0 (bits_Shift.fin N) n bits_Shift.k0 (bits_Shift.st0 b_ dx dy b_2 t23_) = bits_Shift.l0 N b_ dx dy n b_2 t23_)
  | 0 => fun _ _ => rfl
  | n + 1 => by
    have h0 := bits_Shift.runs N b_ dx dy n
    have e0 : (fun (b_2 : Int) (t23_ : Int) => run tb (bits_Shift.G N) bits_Shift.A 0 (bits_Shift.fin N) n bits_Shift.k0 (bits_Shift.st0 b_ dx dy b_2 t23_)) = bits_Shift.l0 N b_ dx dy n := by funext b_2 t23_; exact h0 b_2 t23_
    have g0 : (∀ (b_2 : Int) (t23_ : Int), run tb (bits_Shift.G N) bits_Shift.A 0 (bits_Shift.fin N) (n + 1) bits_Shift.k0 (bits_Shift.st0 b_ dx dy b_2 t23_) = bits_Shift.l0 N b_ dx dy (n + 1) b_2 t23_) := by
      intro b_2 t23_
      exact (run_succ (by kernel_rfl)).trans ((bits_Shift.step0 N _ b_ dx dy b_2 t23_).trans ((congrArg (fun r0 => bits_Shift.s0 N b_ dx dy r0 b_2 t23_) e0).trans (bits_Shift.l0_s N b_ dx dy n b_2 t23_).symm))
    exact g0
theorem bits_Shift.ok (N : Nat) : FnOk Tryd.prog 15 (bits_Shift.D N) := by
  refine FnOk_of tb_ok (Checked.mixed Tryd.checked) ⟨Tryd.f15, Tryd.func15, by kernel_rfl, by kernel_rfl, fun x y h => ⟨bits_Shift.G N, bits_Shift.A, N, gamOf_ok (by simp only [List.forall_mem_cons, List.not_mem_nil, false_implies, implies_true, and_true]; exact ⟨bits_column.ok N, bits_column.fit N⟩), ?_⟩⟩ (bits_Shift.fit N)
  rw [absFn_n (n0 := 0) rfl (by kernel_rfl)]
  refine (bits_Shift.entry N (run tb (bits_Shift.G N) bits_Shift.A 0 (bits_Shift.fin N) N) x).trans ?_
  have e0 : (fun (b_2 : Int) (t23_ : Int) => run tb (bits_Shift.G N) bits_Shift.A 0 (bits_Shift.fin N) N bits_Shift.k0 (bits_Shift.st0 x.1 x.2.1 x.2.2.1 b_2 t23_)) = bits_Shift.l0 N x.1 x.2.1 x.2.2.1 N := by funext b_2 t23_; exact (bits_Shift.runs N x.1 x.2.1 x.2.2.1 N) b_2 t23_
  have h' : (bits_Shift.D N).f x = bits_Shift.e N (bits_Shift.l0 N x.1 x.2.1 x.2.2.1 N) x.1 x.2.1 x.2.2.1 := by kernel_rfl
  exact (congrArg (fun r0 => bits_Shift.e N r0 x.1 x.2.1 x.2.2.1) e0).trans (h'.symm.trans h)
/-! ### f16: gamehall/bits.Ray -/
def bits_Ray.as : List MK := [.d false (.int .i64), .d false (.int .i64), .d false (.int .i64), .d false (.int .u64)]
def bits_Ray.rs : List (Bool × HT) := [(false, (.d (.int .u64))), (false, (.d (.int .i64)))]
def bits_Ray.lc : List AC := []
def bits_Ray.D (N : Nat) : DFn := ⟨bits_Ray.as, bits_Ray.rs, (Int × Int), fun x => bits_Ray N x.1 x.2.1 x.2.2.1 x.2.2.2.1, fun r o => (r.1, r.2.1), fun b => (b.1, (b.2, ())), fun b => ()⟩
theorem bits_Ray.fit (N : Nat) : (bits_Ray.D N).Fit := ⟨fun _ _ => rfl, fun _ _ => rfl, by kernel_rfl⟩
noncomputable def bits_Ray.G (N : Nat) : Gam := gamOf [(15, bits_Shift.D N)]
def bits_Ray.A : Nat → Option LoopAnn := fun k => bif Nat.beq k 1 then some ⟨[1, 2, 3, 10, 11], [], [], [], [], 0, false⟩ else none
noncomputable def bits_Ray.fin (N : Nat) : St → Option (Int × Int) := resK tb Tryd.f16.results.toList (decRes (bits_Ray.D N) bits_Ray.lc)
noncomputable def bits_Ray.k0 : List Item := stackAt [.r, .r, .r, .l, .r, .b] (bodyOf Tryd.f16) []
def bits_Ray.st0 (square : Int) (dx : Int) (dy : Int) (occupied : Int) (out : Int) (at_ : Int) : St := ⟨[.one .any, .one (.int .i64 dx), .one (.int .i64 dy), .one (.int .u64 occupied)] ++ List.replicate 6 (.one .any) ++ [.one (.int .u64 out), .one (.int .u64 at_)] ++ List.replicate 49 (.one .any), []⟩
theorem bits_Ray.step0 (N : Nat) (rec : List Item → St → Option (Int × Int)) (square : Int) (dx : Int) (dy : Int) (occupied : Int) (out : Int) (at_ : Int) : seg tb (bits_Ray.G N) bits_Ray.A 0 rec (bits_Ray.fin N) segFuel (loopBody bits_Ray.k0) (bits_Ray.st0 square dx dy occupied out at_) = bits_Ray.s0 N square dx dy occupied (fun out at_ => rec bits_Ray.k0 (bits_Ray.st0 square dx dy occupied out at_)) out at_ := by kernel_rfl
theorem bits_Ray.entry (N : Nat) (rec : List Item → St → Option (Int × Int)) (x : (argH bits_Ray.as).den) : seg tb (bits_Ray.G N) bits_Ray.A 0 rec (bits_Ray.fin N) segFuel [.code (bodyOf Tryd.f16)] (initSt Tryd.f16 (encArgs bits_Ray.as x) (encMem bits_Ray.as x)) = bits_Ray.e N (fun out at_ => rec bits_Ray.k0 (bits_Ray.st0 x.1 x.2.1 x.2.2.1 x.2.2.2.1 out at_)) x.1 x.2.1 x.2.2.1 x.2.2.2.1 := by kernel_rfl
theorem bits_Ray.runs (N : Nat) (square : Int) (dx : Int) (dy : Int) (occupied : Int) : ∀ n, (∀ (out : Int) (at_ : Int), run tb (bits_Ray.G N) bits_Ray.A 0 (bits_Ray.fin N) n bits_Ray.k0 (bits_Ray.st0 square dx dy occupied out at_) = bits_Ray.l0 N square dx dy occupied n out at_)
  | 0 => fun _ _ => rfl
  | n + 1 => by
    have h0 := bits_Ray.runs N square dx dy occupied n
    have e0 : (fun (out : Int) (at_ : Int) => run tb (bits_Ray.G N) bits_Ray.A 0 (bits_Ray.fin N) n bits_Ray.k0 (bits_Ray.st0 square dx dy occupied out at_)) = bits_Ray.l0 N square dx dy occupied n := by funext out at_; exact h0 out at_
    have g0 : (∀ (out : Int) (at_ : Int), run tb (bits_Ray.G N) bits_Ray.A 0 (bits_Ray.fin N) (n + 1) bits_Ray.k0 (bits_Ray.st0 square dx dy occupied out at_) = bits_Ray.l0 N square dx dy occupied (n + 1) out at_) := by
      intro out at_
      exact (run_succ (by kernel_rfl)).trans ((bits_Ray.step0 N _ square dx dy occupied out at_).trans ((congrArg (fun r0 => bits_Ray.s0 N square dx dy occupied r0 out at_) e0).trans (bits_Ray.l0_s N square dx dy occupied n out at_).symm))
    exact g0
theorem bits_Ray.ok (N : Nat) : FnOk Tryd.prog 16 (bits_Ray.D N) := by
  refine FnOk_of tb_ok (Checked.mixed Tryd.checked) ⟨Tryd.f16, Tryd.func16, by kernel_rfl, by kernel_rfl, fun x y h => ⟨bits_Ray.G N, bits_Ray.A, N, gamOf_ok (by simp only [List.forall_mem_cons, List.not_mem_nil, false_implies, implies_true, and_true]; exact ⟨bits_Shift.ok N, bits_Shift.fit N⟩), ?_⟩⟩ (bits_Ray.fit N)
  rw [absFn_n (n0 := 0) rfl (by kernel_rfl)]
  refine (bits_Ray.entry N (run tb (bits_Ray.G N) bits_Ray.A 0 (bits_Ray.fin N) N) x).trans ?_
  have e0 : (fun (out : Int) (at_ : Int) => run tb (bits_Ray.G N) bits_Ray.A 0 (bits_Ray.fin N) N bits_Ray.k0 (bits_Ray.st0 x.1 x.2.1 x.2.2.1 x.2.2.2.1 out at_)) = bits_Ray.l0 N x.1 x.2.1 x.2.2.1 x.2.2.2.1 N := by funext out at_; exact (bits_Ray.runs N x.1 x.2.1 x.2.2.1 x.2.2.2.1 N) out at_
  have h' : (bits_Ray.D N).f x = bits_Ray.e N (bits_Ray.l0 N x.1 x.2.1 x.2.2.1 x.2.2.2.1 N) x.1 x.2.1 x.2.2.1 x.2.2.2.1 := by kernel_rfl
  exact (congrArg (fun r0 => bits_Ray.e N r0 x.1 x.2.1 x.2.2.1 x.2.2.2.1) e0).trans (h'.symm.trans h)
/-! ### f14: gamehall/gamehallkeep1.shifts -/
def gamehallkeep1_shifts.as : List MK := []
def gamehallkeep1_shifts.rs : List (Bool × HT) := [(false, (.d .bool))]
def gamehallkeep1_shifts.lc : List AC := []
def gamehallkeep1_shifts.D (N : Nat) : DFn := ⟨gamehallkeep1_shifts.as, gamehallkeep1_shifts.rs, Bool, fun x => gamehallkeep1_shifts N, fun r o => r.1, fun b => (b, ()), fun b => ()⟩
theorem gamehallkeep1_shifts.fit (N : Nat) : (gamehallkeep1_shifts.D N).Fit := ⟨fun _ _ => rfl, fun _ _ => rfl, by kernel_rfl⟩
noncomputable def gamehallkeep1_shifts.G (N : Nat) : Gam := gamOf [(16, bits_Ray.D N), (15, bits_Shift.D N)]
def gamehallkeep1_shifts.A : Nat → Option LoopAnn := fun _ => none
noncomputable def gamehallkeep1_shifts.fin (N : Nat) : St → Option Bool := resK tb Tryd.f14.results.toList (decRes (gamehallkeep1_shifts.D N) gamehallkeep1_shifts.lc)
theorem gamehallkeep1_shifts.entry (N : Nat) (rec : List Item → St → Option Bool) (x : (argH gamehallkeep1_shifts.as).den) : seg tb (gamehallkeep1_shifts.G N) gamehallkeep1_shifts.A 0 rec (gamehallkeep1_shifts.fin N) segFuel [.code (bodyOf Tryd.f14)] (initSt Tryd.f14 (encArgs gamehallkeep1_shifts.as x) (encMem gamehallkeep1_shifts.as x)) = gamehallkeep1_shifts.e N := by kernel_rfl
theorem gamehallkeep1_shifts.ok (N : Nat) : FnOk Tryd.prog 14 (gamehallkeep1_shifts.D N) := by
  refine FnOk_of tb_ok (Checked.mixed Tryd.checked) ⟨Tryd.f14, Tryd.func14, by kernel_rfl, by kernel_rfl, fun x y h => ⟨gamehallkeep1_shifts.G N, gamehallkeep1_shifts.A, N, gamOf_ok (by simp only [List.forall_mem_cons, List.not_mem_nil, false_implies, implies_true, and_true]; exact ⟨⟨bits_Ray.ok N, bits_Ray.fit N⟩, ⟨bits_Shift.ok N, bits_Shift.fit N⟩⟩), ?_⟩⟩ (gamehallkeep1_shifts.fit N)
  rw [absFn_n (n0 := 0) rfl (by kernel_rfl)]
  exact (gamehallkeep1_shifts.entry N _ x).trans h
/-! ### f5: gamehall/gamehallkeep1.BitsThere -/
def gamehallkeep1_BitsThere.as : List MK := [.d false (.int .u64), .d false (.int .i64), .d false (.int .i64)]
def gamehallkeep1_BitsThere.rs : List (Bool × HT) := [(false, (.d .bool))]
def gamehallkeep1_BitsThere.lc : List AC := []
def gamehallkeep1_BitsThere.D (N : Nat) : DFn := ⟨gamehallkeep1_BitsThere.as, gamehallkeep1_BitsThere.rs, Bool, fun x => gamehallkeep1_BitsThere N x.1 x.2.1 x.2.2.1, fun r o => r.1, fun b => (b, ()), fun b => ()⟩
theorem gamehallkeep1_BitsThere.fit (N : Nat) : (gamehallkeep1_BitsThere.D N).Fit := ⟨fun _ _ => rfl, fun _ _ => rfl, by kernel_rfl⟩
noncomputable def gamehallkeep1_BitsThere.G (N : Nat) : Gam := gamOf [(14, gamehallkeep1_shifts.D N), (8, bits_Count.D N), (15, bits_Shift.D N)]
def gamehallkeep1_BitsThere.A : Nat → Option LoopAnn := fun _ => none
noncomputable def gamehallkeep1_BitsThere.fin (N : Nat) : St → Option Bool := resK tb Tryd.f5.results.toList (decRes (gamehallkeep1_BitsThere.D N) gamehallkeep1_BitsThere.lc)
theorem gamehallkeep1_BitsThere.entry (N : Nat) (rec : List Item → St → Option Bool) (x : (argH gamehallkeep1_BitsThere.as).den) : seg tb (gamehallkeep1_BitsThere.G N) gamehallkeep1_BitsThere.A 0 rec (gamehallkeep1_BitsThere.fin N) segFuel [.code (bodyOf Tryd.f5)] (initSt Tryd.f5 (encArgs gamehallkeep1_BitsThere.as x) (encMem gamehallkeep1_BitsThere.as x)) = gamehallkeep1_BitsThere.e N x.1 x.2.1 x.2.2.1 := by kernel_rfl
theorem gamehallkeep1_BitsThere.ok (N : Nat) : FnOk Tryd.prog 5 (gamehallkeep1_BitsThere.D N) := by
  refine FnOk_of tb_ok (Checked.mixed Tryd.checked) ⟨Tryd.f5, Tryd.func5, by kernel_rfl, by kernel_rfl, fun x y h => ⟨gamehallkeep1_BitsThere.G N, gamehallkeep1_BitsThere.A, N, gamOf_ok (by simp only [List.forall_mem_cons, List.not_mem_nil, false_implies, implies_true, and_true]; exact ⟨⟨gamehallkeep1_shifts.ok N, gamehallkeep1_shifts.fit N⟩, ⟨bits_Count.ok N, bits_Count.fit N⟩, ⟨bits_Shift.ok N, bits_Shift.fit N⟩⟩), ?_⟩⟩ (gamehallkeep1_BitsThere.fit N)
  rw [absFn_n (n0 := 0) rfl (by kernel_rfl)]
  exact (gamehallkeep1_BitsThere.entry N _ x).trans h
/-! ### f6: gamehall/gamehallkeep1.BitsRays -/
def gamehallkeep1_BitsRays.as : List MK := [.d false (.int .i64), .d false (.int .i64), .d false (.int .i64), .d false (.int .u64), .d false (.int .u64)]
def gamehallkeep1_BitsRays.rs : List (Bool × HT) := [(false, (.d .bool))]
def gamehallkeep1_BitsRays.lc : List AC := []
def gamehallkeep1_BitsRays.D (N : Nat) : DFn := ⟨gamehallkeep1_BitsRays.as, gamehallkeep1_BitsRays.rs, Bool, fun x => gamehallkeep1_BitsRays N x.1 x.2.1 x.2.2.1 x.2.2.2.1 x.2.2.2.2.1, fun r o => r.1, fun b => (b, ()), fun b => ()⟩
theorem gamehallkeep1_BitsRays.fit (N : Nat) : (gamehallkeep1_BitsRays.D N).Fit := ⟨fun _ _ => rfl, fun _ _ => rfl, by kernel_rfl⟩
noncomputable def gamehallkeep1_BitsRays.G (N : Nat) : Gam := gamOf [(14, gamehallkeep1_shifts.D N), (16, bits_Ray.D N), (8, bits_Count.D N)]
def gamehallkeep1_BitsRays.A : Nat → Option LoopAnn := fun _ => none
noncomputable def gamehallkeep1_BitsRays.fin (N : Nat) : St → Option Bool := resK tb Tryd.f6.results.toList (decRes (gamehallkeep1_BitsRays.D N) gamehallkeep1_BitsRays.lc)
theorem gamehallkeep1_BitsRays.entry (N : Nat) (rec : List Item → St → Option Bool) (x : (argH gamehallkeep1_BitsRays.as).den) : seg tb (gamehallkeep1_BitsRays.G N) gamehallkeep1_BitsRays.A 0 rec (gamehallkeep1_BitsRays.fin N) segFuel [.code (bodyOf Tryd.f6)] (initSt Tryd.f6 (encArgs gamehallkeep1_BitsRays.as x) (encMem gamehallkeep1_BitsRays.as x)) = gamehallkeep1_BitsRays.e N x.1 x.2.1 x.2.2.1 x.2.2.2.1 x.2.2.2.2.1 := by kernel_rfl
theorem gamehallkeep1_BitsRays.ok (N : Nat) : FnOk Tryd.prog 6 (gamehallkeep1_BitsRays.D N) := by
  refine FnOk_of tb_ok (Checked.mixed Tryd.checked) ⟨Tryd.f6, Tryd.func6, by kernel_rfl, by kernel_rfl, fun x y h => ⟨gamehallkeep1_BitsRays.G N, gamehallkeep1_BitsRays.A, N, gamOf_ok (by simp only [List.forall_mem_cons, List.not_mem_nil, false_implies, implies_true, and_true]; exact ⟨⟨gamehallkeep1_shifts.ok N, gamehallkeep1_shifts.fit N⟩, ⟨bits_Ray.ok N, bits_Ray.fit N⟩, ⟨bits_Count.ok N, bits_Count.fit N⟩⟩), ?_⟩⟩ (gamehallkeep1_BitsRays.fit N)
  rw [absFn_n (n0 := 0) rfl (by kernel_rfl)]
  exact (gamehallkeep1_BitsRays.entry N _ x).trans h
/-! ### f18: gamehall/bits.Fill -/
def bits_Fill.as : List MK := [.d false (.int .u64), .d false (.int .u64)]
def bits_Fill.rs : List (Bool × HT) := [(false, (.d (.int .u64)))]
def bits_Fill.lc : List AC := []
def bits_Fill.D (N : Nat) : DFn := ⟨bits_Fill.as, bits_Fill.rs, Int, fun x => bits_Fill N x.1 x.2.1, fun r o => r.1, fun b => (b, ()), fun b => ()⟩
theorem bits_Fill.fit (N : Nat) : (bits_Fill.D N).Fit := ⟨fun _ _ => rfl, fun _ _ => rfl, by kernel_rfl⟩
noncomputable def bits_Fill.G (N : Nat) : Gam := gamOf [(15, bits_Shift.D N)]
def bits_Fill.A : Nat → Option LoopAnn := fun k => bif Nat.beq k 0 then some ⟨[0, 1], [], [], [], [], 0, false⟩ else none
noncomputable def bits_Fill.fin (N : Nat) : St → Option Int := resK tb Tryd.f18.results.toList (decRes (bits_Fill.D N) bits_Fill.lc)
noncomputable def bits_Fill.k0 : List Item := stackAt [.r, .r, .b] (bodyOf Tryd.f18) []
def bits_Fill.st0 (b_ : Int) (within : Int) (b_2 : Int) : St := ⟨[.one (.int .u64 b_2), .one (.int .u64 within)] ++ List.replicate 27 (.one .any), []⟩
theorem bits_Fill.step0 (N : Nat) (rec : List Item → St → Option Int) (b_ : Int) (within : Int) (b_2 : Int) : seg tb (bits_Fill.G N) bits_Fill.A 0 rec (bits_Fill.fin N) segFuel (loopBody bits_Fill.k0) (bits_Fill.st0 b_ within b_2) = bits_Fill.s0 N b_ within (fun b_2 => rec bits_Fill.k0 (bits_Fill.st0 b_ within b_2)) b_2 := by kernel_rfl
theorem bits_Fill.entry (N : Nat) (rec : List Item → St → Option Int) (x : (argH bits_Fill.as).den) : seg tb (bits_Fill.G N) bits_Fill.A 0 rec (bits_Fill.fin N) segFuel [.code (bodyOf Tryd.f18)] (initSt Tryd.f18 (encArgs bits_Fill.as x) (encMem bits_Fill.as x)) = bits_Fill.e N (fun b_2 => rec bits_Fill.k0 (bits_Fill.st0 x.1 x.2.1 b_2)) x.1 x.2.1 := by kernel_rfl
theorem bits_Fill.runs (N : Nat) (b_ : Int) (within : Int) : ∀ n, (∀ (b_2 : Int), run tb (bits_Fill.G N) bits_Fill.A 0 (bits_Fill.fin N) n bits_Fill.k0 (bits_Fill.st0 b_ within b_2) = bits_Fill.l0 N b_ within n b_2)
  | 0 => fun _ => rfl
  | n + 1 => by
    have h0 := bits_Fill.runs N b_ within n
    have e0 : (fun (b_2 : Int) => run tb (bits_Fill.G N) bits_Fill.A 0 (bits_Fill.fin N) n bits_Fill.k0 (bits_Fill.st0 b_ within b_2)) = bits_Fill.l0 N b_ within n := by funext b_2; exact h0 b_2
    have g0 : (∀ (b_2 : Int), run tb (bits_Fill.G N) bits_Fill.A 0 (bits_Fill.fin N) (n + 1) bits_Fill.k0 (bits_Fill.st0 b_ within b_2) = bits_Fill.l0 N b_ within (n + 1) b_2) := by
      intro b_2
      exact (run_succ (by kernel_rfl)).trans ((bits_Fill.step0 N _ b_ within b_2).trans ((congrArg (fun r0 => bits_Fill.s0 N b_ within r0 b_2) e0).trans (bits_Fill.l0_s N b_ within n b_2).symm))
    exact g0
theorem bits_Fill.ok (N : Nat) : FnOk Tryd.prog 18 (bits_Fill.D N) := by
  refine FnOk_of tb_ok (Checked.mixed Tryd.checked) ⟨Tryd.f18, Tryd.func18, by kernel_rfl, by kernel_rfl, fun x y h => ⟨bits_Fill.G N, bits_Fill.A, N, gamOf_ok (by simp only [List.forall_mem_cons, List.not_mem_nil, false_implies, implies_true, and_true]; exact ⟨bits_Shift.ok N, bits_Shift.fit N⟩), ?_⟩⟩ (bits_Fill.fit N)
  rw [absFn_n (n0 := 0) rfl (by kernel_rfl)]
  refine (bits_Fill.entry N (run tb (bits_Fill.G N) bits_Fill.A 0 (bits_Fill.fin N) N) x).trans ?_
  have e0 : (fun (b_2 : Int) => run tb (bits_Fill.G N) bits_Fill.A 0 (bits_Fill.fin N) N bits_Fill.k0 (bits_Fill.st0 x.1 x.2.1 b_2)) = bits_Fill.l0 N x.1 x.2.1 N := by funext b_2; exact (bits_Fill.runs N x.1 x.2.1 N) b_2
  have h' : (bits_Fill.D N).f x = bits_Fill.e N (bits_Fill.l0 N x.1 x.2.1 N) x.1 x.2.1 := by kernel_rfl
  exact (congrArg (fun r0 => bits_Fill.e N r0 x.1 x.2.1) e0).trans (h'.symm.trans h)
/-! ### f17: gamehall/bits.Parts -/
def bits_Parts.as : List MK := [.d false (.int .u64)]
def bits_Parts.rs : List (Bool × HT) := [(false, (.own 22 (.int .u64)))]
def bits_Parts.lc : List AC := []
def bits_Parts.D (N : Nat) : DFn := ⟨bits_Parts.as, bits_Parts.rs, (List Int), fun x => bits_Parts N x.1, fun r o => r.1, fun b => (b, ()), fun b => ()⟩
theorem bits_Parts.fit (N : Nat) : (bits_Parts.D N).Fit := ⟨fun _ _ => rfl, fun _ _ => rfl, by kernel_rfl⟩
noncomputable def bits_Parts.G (N : Nat) : Gam := gamOf [(18, bits_Fill.D N)]
def bits_Parts.A : Nat → Option LoopAnn := fun k => bif Nat.beq k 0 then some ⟨[0, 3], [(3, 22)], [], [(false, 3, 0, 0)], [], 1, false⟩ else none
noncomputable def bits_Parts.fin (N : Nat) : St → Option (List Int) := resK tb Tryd.f17.results.toList (decRes (bits_Parts.D N) bits_Parts.lc)
noncomputable def bits_Parts.k0 : List Item := stackAt [.r, .r, .l, .b] (bodyOf Tryd.f17) []
def bits_Parts.st0 (b_ : Int) (b_2 : Int) (out : (List Int)) : St := ⟨[.one (.int .u64 b_2), .one .any, .one .any, .one (.own 0)] ++ List.replicate 17 (.one .any), [.row 22 (.int .u64) out]⟩
theorem bits_Parts.step0 (N : Nat) (rec : List Item → St → Option (List Int)) (b_ : Int) (b_2 : Int) (out : (List Int)) : seg tb (bits_Parts.G N) bits_Parts.A 0 rec (bits_Parts.fin N) segFuel (loopBody bits_Parts.k0) (bits_Parts.st0 b_ b_2 out) = bits_Parts.s0 N b_ (fun b_2 out => rec bits_Parts.k0 (bits_Parts.st0 b_ b_2 out)) b_2 out := by kernel_rfl
theorem bits_Parts.entry (N : Nat) (rec : List Item → St → Option (List Int)) (x : (argH bits_Parts.as).den) : seg tb (bits_Parts.G N) bits_Parts.A 0 rec (bits_Parts.fin N) segFuel [.code (bodyOf Tryd.f17)] (initSt Tryd.f17 (encArgs bits_Parts.as x) (encMem bits_Parts.as x)) = bits_Parts.e N (fun b_2 out => rec bits_Parts.k0 (bits_Parts.st0 x.1 b_2 out)) x.1 := by kernel_rfl
theorem bits_Parts.runs (N : Nat) (b_ : Int) : ∀ n, (∀ (b_2 : Int) (out : (List Int)), run tb (bits_Parts.G N) bits_Parts.A 0 (bits_Parts.fin N) n bits_Parts.k0 (bits_Parts.st0 b_ b_2 out) = bits_Parts.l0 N b_ n b_2 out)
  | 0 => fun _ _ => rfl
  | n + 1 => by
    have h0 := bits_Parts.runs N b_ n
    have e0 : (fun (b_2 : Int) (out : (List Int)) => run tb (bits_Parts.G N) bits_Parts.A 0 (bits_Parts.fin N) n bits_Parts.k0 (bits_Parts.st0 b_ b_2 out)) = bits_Parts.l0 N b_ n := by funext b_2 out; exact h0 b_2 out
    have g0 : (∀ (b_2 : Int) (out : (List Int)), run tb (bits_Parts.G N) bits_Parts.A 0 (bits_Parts.fin N) (n + 1) bits_Parts.k0 (bits_Parts.st0 b_ b_2 out) = bits_Parts.l0 N b_ (n + 1) b_2 out) := by
      intro b_2 out
      exact (run_succ (by kernel_rfl)).trans ((bits_Parts.step0 N _ b_ b_2 out).trans ((congrArg (fun r0 => bits_Parts.s0 N b_ r0 b_2 out) e0).trans (bits_Parts.l0_s N b_ n b_2 out).symm))
    exact g0
theorem bits_Parts.ok (N : Nat) : FnOk Tryd.prog 17 (bits_Parts.D N) := by
  refine FnOk_of tb_ok (Checked.mixed Tryd.checked) ⟨Tryd.f17, Tryd.func17, by kernel_rfl, by kernel_rfl, fun x y h => ⟨bits_Parts.G N, bits_Parts.A, N, gamOf_ok (by simp only [List.forall_mem_cons, List.not_mem_nil, false_implies, implies_true, and_true]; exact ⟨bits_Fill.ok N, bits_Fill.fit N⟩), ?_⟩⟩ (bits_Parts.fit N)
  rw [absFn_n (n0 := 0) rfl (by kernel_rfl)]
  refine (bits_Parts.entry N (run tb (bits_Parts.G N) bits_Parts.A 0 (bits_Parts.fin N) N) x).trans ?_
  have e0 : (fun (b_2 : Int) (out : (List Int)) => run tb (bits_Parts.G N) bits_Parts.A 0 (bits_Parts.fin N) N bits_Parts.k0 (bits_Parts.st0 x.1 b_2 out)) = bits_Parts.l0 N x.1 N := by funext b_2 out; exact (bits_Parts.runs N x.1 N) b_2 out
  have h' : (bits_Parts.D N).f x = bits_Parts.e N (bits_Parts.l0 N x.1 N) x.1 := by kernel_rfl
  exact (congrArg (fun r0 => bits_Parts.e N r0 x.1) e0).trans (h'.symm.trans h)
/-! ### f19: gamehall/gamehallkeep1.some[int] -/
def gamehallkeep1_some_int.as : List MK := [.d false (.slice 3 (.int .i64)), .d false (.int .i64)]
def gamehallkeep1_some_int.rs : List (Bool × HT) := [(false, (.d (.int .i64)))]
def gamehallkeep1_some_int.lc : List AC := []
def gamehallkeep1_some_int.D (N : Nat) : DFn := ⟨gamehallkeep1_some_int.as, gamehallkeep1_some_int.rs, Int, fun x => gamehallkeep1_some_int N x.1 x.2.1, fun r o => r.1, fun b => (b, ()), fun b => ()⟩
theorem gamehallkeep1_some_int.fit (N : Nat) : (gamehallkeep1_some_int.D N).Fit := ⟨fun _ _ => rfl, fun _ _ => rfl, by kernel_rfl⟩
noncomputable def gamehallkeep1_some_int.G (N : Nat) : Gam := gamOf []
def gamehallkeep1_some_int.A : Nat → Option LoopAnn := fun _ => none
noncomputable def gamehallkeep1_some_int.fin (N : Nat) : St → Option Int := resK tb Tryd.f19.results.toList (decRes (gamehallkeep1_some_int.D N) gamehallkeep1_some_int.lc)
theorem gamehallkeep1_some_int.entry (N : Nat) (rec : List Item → St → Option Int) (x : (argH gamehallkeep1_some_int.as).den) : seg tb (gamehallkeep1_some_int.G N) gamehallkeep1_some_int.A 0 rec (gamehallkeep1_some_int.fin N) segFuel [.code (bodyOf Tryd.f19)] (initSt Tryd.f19 (encArgs gamehallkeep1_some_int.as x) (encMem gamehallkeep1_some_int.as x)) = gamehallkeep1_some_int.e N x.1 x.2.1 := by kernel_rfl
theorem gamehallkeep1_some_int.ok (N : Nat) : FnOk Tryd.prog 19 (gamehallkeep1_some_int.D N) := by
  refine FnOk_of tb_ok (Checked.mixed Tryd.checked) ⟨Tryd.f19, Tryd.func19, by kernel_rfl, by kernel_rfl, fun x y h => ⟨gamehallkeep1_some_int.G N, gamehallkeep1_some_int.A, N, gamOf_ok (fun p hp => nomatch hp), ?_⟩⟩ (gamehallkeep1_some_int.fit N)
  rw [absFn_n (n0 := 0) rfl (by kernel_rfl)]
  exact (gamehallkeep1_some_int.entry N _ x).trans h
/-! ### f7: gamehall/gamehallkeep1.BitsParts -/
def gamehallkeep1_BitsParts.as : List MK := [.d false (.int .u64), .d false (.int .i64)]
def gamehallkeep1_BitsParts.rs : List (Bool × HT) := [(false, (.d .bool))]
def gamehallkeep1_BitsParts.lc : List AC := []
def gamehallkeep1_BitsParts.D (N : Nat) : DFn := ⟨gamehallkeep1_BitsParts.as, gamehallkeep1_BitsParts.rs, Bool, fun x => gamehallkeep1_BitsParts N x.1 x.2.1, fun r o => r.1, fun b => (b, ()), fun b => ()⟩
theorem gamehallkeep1_BitsParts.fit (N : Nat) : (gamehallkeep1_BitsParts.D N).Fit := ⟨fun _ _ => rfl, fun _ _ => rfl, by kernel_rfl⟩
noncomputable def gamehallkeep1_BitsParts.G (N : Nat) : Gam := gamOf [(17, bits_Parts.D N), (18, bits_Fill.D N), (14, gamehallkeep1_shifts.D N), (11, bits_List.D N), (19, gamehallkeep1_some_int.D N), (15, bits_Shift.D N)]
def gamehallkeep1_BitsParts.A : Nat → Option LoopAnn := fun k => bif Nat.beq k 0 then some ⟨[0, 1, 6, 25, 26, 27], [], [], [], [0], 2, false⟩ else bif Nat.beq k 2 then some ⟨[0, 1, 6, 8, 25, 26, 27, 53, 54], [], [], [], [], 2, false⟩ else none
noncomputable def gamehallkeep1_BitsParts.fin (N : Nat) : St → Option Bool := resK tb Tryd.f7.results.toList (decRes (gamehallkeep1_BitsParts.D N) gamehallkeep1_BitsParts.lc)
noncomputable def gamehallkeep1_BitsParts.k0 : List Item := stackAt [.r, .r, .r, .l, .r, .b] (bodyOf Tryd.f7) []
def gamehallkeep1_BitsParts.st0 (b_ : Int) (n_ : Int) (all : Int) (t26_ : Int) (t27_ : Int) (m1_ : (List Int)) : St := ⟨[.one (.int .u64 b_), .one (.int .i64 n_)] ++ List.replicate 4 (.one .any) ++ [.one (.int .u64 all)] ++ List.replicate 18 (.one .any) ++ [.one (.own 1), .one (.int .i64 t26_), .one (.int .i64 t27_)] ++ List.replicate 46 (.one .any), [.gone, .row 22 (.int .u64) m1_]⟩
noncomputable def gamehallkeep1_BitsParts.k1 : List Item := stackAt [.r, .r, .r, .l, .r, .b, .w, .r, .r, .l, .b, .r, .r, .r, .r, .l, .r, .b] (bodyOf Tryd.f7) []
def gamehallkeep1_BitsParts.st1 (b_ : Int) (n_ : Int) (all : Int) (p_ : Int) (t26_ : Int) (t27_ : Int) (t54_ : Int) (m1_ : (List Int)) : St := ⟨[.one (.int .u64 b_), .one (.int .i64 n_)] ++ List.replicate 4 (.one .any) ++ [.one (.int .u64 all), .one .any, .one (.int .u64 p_)] ++ List.replicate 16 (.one .any) ++ [.one (.own 1), .one (.int .i64 t26_), .one (.int .i64 t27_)] ++ List.replicate 25 (.one .any) ++ [.agg [.int .i64 1, .int .i64 0, .int .i64 (-1), .int .i64 0, .int .i64 0, .int .i64 1, .int .i64 0, .int .i64 (-1)], .one (.int .i64 t54_)] ++ List.replicate 19 (.one .any), [.gone, .row 22 (.int .u64) m1_]⟩
theorem gamehallkeep1_BitsParts.step0 (N : Nat) (rec : List Item → St → Option Bool) (b_ : Int) (n_ : Int) (all : Int) (t26_ : Int) (t27_ : Int) (m1_ : (List Int)) : seg tb (gamehallkeep1_BitsParts.G N) gamehallkeep1_BitsParts.A 0 rec (gamehallkeep1_BitsParts.fin N) segFuel (loopBody gamehallkeep1_BitsParts.k0) (gamehallkeep1_BitsParts.st0 b_ n_ all t26_ t27_ m1_) = gamehallkeep1_BitsParts.s0 N b_ n_ (fun all t26_ t27_ m1_ => rec gamehallkeep1_BitsParts.k0 (gamehallkeep1_BitsParts.st0 b_ n_ all t26_ t27_ m1_)) (fun all p_ t26_ t27_ t54_ m1_ => rec gamehallkeep1_BitsParts.k1 (gamehallkeep1_BitsParts.st1 b_ n_ all p_ t26_ t27_ t54_ m1_)) all t26_ t27_ m1_ := by kernel_rfl
theorem gamehallkeep1_BitsParts.step1 (N : Nat) (rec : List Item → St → Option Bool) (b_ : Int) (n_ : Int) (all : Int) (p_ : Int) (t26_ : Int) (t27_ : Int) (t54_ : Int) (m1_ : (List Int)) : seg tb (gamehallkeep1_BitsParts.G N) gamehallkeep1_BitsParts.A 0 rec (gamehallkeep1_BitsParts.fin N) segFuel (loopBody gamehallkeep1_BitsParts.k1) (gamehallkeep1_BitsParts.st1 b_ n_ all p_ t26_ t27_ t54_ m1_) = gamehallkeep1_BitsParts.s1 N b_ n_ (fun all t26_ t27_ m1_ => rec gamehallkeep1_BitsParts.k0 (gamehallkeep1_BitsParts.st0 b_ n_ all t26_ t27_ m1_)) (fun all p_ t26_ t27_ t54_ m1_ => rec gamehallkeep1_BitsParts.k1 (gamehallkeep1_BitsParts.st1 b_ n_ all p_ t26_ t27_ t54_ m1_)) all p_ t26_ t27_ t54_ m1_ := by kernel_rfl
theorem gamehallkeep1_BitsParts.entry (N : Nat) (rec : List Item → St → Option Bool) (x : (argH gamehallkeep1_BitsParts.as).den) : seg tb (gamehallkeep1_BitsParts.G N) gamehallkeep1_BitsParts.A 0 rec (gamehallkeep1_BitsParts.fin N) segFuel [.code (bodyOf Tryd.f7)] (initSt Tryd.f7 (encArgs gamehallkeep1_BitsParts.as x) (encMem gamehallkeep1_BitsParts.as x)) = gamehallkeep1_BitsParts.e N (fun all t26_ t27_ m1_ => rec gamehallkeep1_BitsParts.k0 (gamehallkeep1_BitsParts.st0 x.1 x.2.1 all t26_ t27_ m1_)) (fun all p_ t26_ t27_ t54_ m1_ => rec gamehallkeep1_BitsParts.k1 (gamehallkeep1_BitsParts.st1 x.1 x.2.1 all p_ t26_ t27_ t54_ m1_)) x.1 x.2.1 := by kernel_rfl
theorem gamehallkeep1_BitsParts.runs (N : Nat) (b_ : Int) (n_ : Int) : ∀ n, (∀ (all : Int) (t26_ : Int) (t27_ : Int) (m1_ : (List Int)), run tb (gamehallkeep1_BitsParts.G N) gamehallkeep1_BitsParts.A 0 (gamehallkeep1_BitsParts.fin N) n gamehallkeep1_BitsParts.k0 (gamehallkeep1_BitsParts.st0 b_ n_ all t26_ t27_ m1_) = gamehallkeep1_BitsParts.l0 N b_ n_ n all t26_ t27_ m1_) ∧ (∀ (all : Int) (p_ : Int) (t26_ : Int) (t27_ : Int) (t54_ : Int) (m1_ : (List Int)), run tb (gamehallkeep1_BitsParts.G N) gamehallkeep1_BitsParts.A 0 (gamehallkeep1_BitsParts.fin N) n gamehallkeep1_BitsParts.k1 (gamehallkeep1_BitsParts.st1 b_ n_ all p_ t26_ t27_ t54_ m1_) = gamehallkeep1_BitsParts.l1 N b_ n_ n all p_ t26_ t27_ t54_ m1_)
  | 0 => ⟨fun _ _ _ _ => rfl, fun _ _ _ _ _ _ => rfl⟩
  | n + 1 => by
    obtain ⟨h0, h1⟩ := gamehallkeep1_BitsParts.runs N b_ n_ n
    have e0 : (fun (all : Int) (t26_ : Int) (t27_ : Int) (m1_ : (List Int)) => run tb (gamehallkeep1_BitsParts.G N) gamehallkeep1_BitsParts.A 0 (gamehallkeep1_BitsParts.fin N) n gamehallkeep1_BitsParts.k0 (gamehallkeep1_BitsParts.st0 b_ n_ all t26_ t27_ m1_)) = gamehallkeep1_BitsParts.l0 N b_ n_ n := by funext all t26_ t27_ m1_; exact h0 all t26_ t27_ m1_
    have e1 : (fun (all : Int) (p_ : Int) (t26_ : Int) (t27_ : Int) (t54_ : Int) (m1_ : (List Int)) => run tb (gamehallkeep1_BitsParts.G N) gamehallkeep1_BitsParts.A 0 (gamehallkeep1_BitsParts.fin N) n gamehallkeep1_BitsParts.k1 (gamehallkeep1_BitsParts.st1 b_ n_ all p_ t26_ t27_ t54_ m1_)) = gamehallkeep1_BitsParts.l1 N b_ n_ n := by funext all p_ t26_ t27_ t54_ m1_; exact h1 all p_ t26_ t27_ t54_ m1_
    have g0 : (∀ (all : Int) (t26_ : Int) (t27_ : Int) (m1_ : (List Int)), run tb (gamehallkeep1_BitsParts.G N) gamehallkeep1_BitsParts.A 0 (gamehallkeep1_BitsParts.fin N) (n + 1) gamehallkeep1_BitsParts.k0 (gamehallkeep1_BitsParts.st0 b_ n_ all t26_ t27_ m1_) = gamehallkeep1_BitsParts.l0 N b_ n_ (n + 1) all t26_ t27_ m1_) := by
      intro all t26_ t27_ m1_
      exact (run_succ (by kernel_rfl)).trans ((gamehallkeep1_BitsParts.step0 N _ b_ n_ all t26_ t27_ m1_).trans ((congr (congrArg (fun r0 r1 => gamehallkeep1_BitsParts.s0 N b_ n_ r0 r1 all t26_ t27_ m1_) e0) e1).trans (gamehallkeep1_BitsParts.l0_s N b_ n_ n all t26_ t27_ m1_).symm))
    have g1 : (∀ (all : Int) (p_ : Int) (t26_ : Int) (t27_ : Int) (t54_ : Int) (m1_ : (List Int)), run tb (gamehallkeep1_BitsParts.G N) gamehallkeep1_BitsParts.A 0 (gamehallkeep1_BitsParts.fin N) (n + 1) gamehallkeep1_BitsParts.k1 (gamehallkeep1_BitsParts.st1 b_ n_ all p_ t26_ t27_ t54_ m1_) = gamehallkeep1_BitsParts.l1 N b_ n_ (n + 1) all p_ t26_ t27_ t54_ m1_) := by
      intro all p_ t26_ t27_ t54_ m1_
      exact (run_succ (by kernel_rfl)).trans ((gamehallkeep1_BitsParts.step1 N _ b_ n_ all p_ t26_ t27_ t54_ m1_).trans ((congr (congrArg (fun r0 r1 => gamehallkeep1_BitsParts.s1 N b_ n_ r0 r1 all p_ t26_ t27_ t54_ m1_) e0) e1).trans (gamehallkeep1_BitsParts.l1_s N b_ n_ n all p_ t26_ t27_ t54_ m1_).symm))
    exact ⟨g0, g1⟩
theorem gamehallkeep1_BitsParts.ok (N : Nat) : FnOk Tryd.prog 7 (gamehallkeep1_BitsParts.D N) := by
  refine FnOk_of tb_ok (Checked.mixed Tryd.checked) ⟨Tryd.f7, Tryd.func7, by kernel_rfl, by kernel_rfl, fun x y h => ⟨gamehallkeep1_BitsParts.G N, gamehallkeep1_BitsParts.A, N, gamOf_ok (by simp only [List.forall_mem_cons, List.not_mem_nil, false_implies, implies_true, and_true]; exact ⟨⟨bits_Parts.ok N, bits_Parts.fit N⟩, ⟨bits_Fill.ok N, bits_Fill.fit N⟩, ⟨gamehallkeep1_shifts.ok N, gamehallkeep1_shifts.fit N⟩, ⟨bits_List.ok N, bits_List.fit N⟩, ⟨gamehallkeep1_some_int.ok N, gamehallkeep1_some_int.fit N⟩, ⟨bits_Shift.ok N, bits_Shift.fit N⟩⟩), ?_⟩⟩ (gamehallkeep1_BitsParts.fit N)
  rw [absFn_n (n0 := 0) rfl (by kernel_rfl)]
  refine (gamehallkeep1_BitsParts.entry N (run tb (gamehallkeep1_BitsParts.G N) gamehallkeep1_BitsParts.A 0 (gamehallkeep1_BitsParts.fin N) N) x).trans ?_
  have e0 : (fun (all : Int) (t26_ : Int) (t27_ : Int) (m1_ : (List Int)) => run tb (gamehallkeep1_BitsParts.G N) gamehallkeep1_BitsParts.A 0 (gamehallkeep1_BitsParts.fin N) N gamehallkeep1_BitsParts.k0 (gamehallkeep1_BitsParts.st0 x.1 x.2.1 all t26_ t27_ m1_)) = gamehallkeep1_BitsParts.l0 N x.1 x.2.1 N := by funext all t26_ t27_ m1_; exact (gamehallkeep1_BitsParts.runs N x.1 x.2.1 N).1 all t26_ t27_ m1_
  have e1 : (fun (all : Int) (p_ : Int) (t26_ : Int) (t27_ : Int) (t54_ : Int) (m1_ : (List Int)) => run tb (gamehallkeep1_BitsParts.G N) gamehallkeep1_BitsParts.A 0 (gamehallkeep1_BitsParts.fin N) N gamehallkeep1_BitsParts.k1 (gamehallkeep1_BitsParts.st1 x.1 x.2.1 all p_ t26_ t27_ t54_ m1_)) = gamehallkeep1_BitsParts.l1 N x.1 x.2.1 N := by funext all p_ t26_ t27_ t54_ m1_; exact (gamehallkeep1_BitsParts.runs N x.1 x.2.1 N).2 all p_ t26_ t27_ t54_ m1_
  have h' : (gamehallkeep1_BitsParts.D N).f x = gamehallkeep1_BitsParts.e N (gamehallkeep1_BitsParts.l0 N x.1 x.2.1 N) (gamehallkeep1_BitsParts.l1 N x.1 x.2.1 N) x.1 x.2.1 := by kernel_rfl
  exact (congr (congrArg (fun r0 r1 => gamehallkeep1_BitsParts.e N r0 r1 x.1 x.2.1) e0) e1).trans (h'.symm.trans h)
end Go.Proofs.YtbnpbnghpbgjiaaDoor.Am
