/- PRINTED by gen.py: the abstract machine evaluates the loaded code to these functions. -/
import Derived.Test.YtjmcjiklfhmdlaaEvg1
set_option linter.unusedVariables false
set_option linter.unusedSimpArgs false
namespace Go.Proofs.Ytjmcjiklfhmdlaa.Am
open Go
set_option maxRecDepth 100000
/-! ### f45: slices.Max[[]int,int] -/
def slices_Max_int_int.as : List MK := [.d false (.slice 3 (.int .i64))]
def slices_Max_int_int.rs : List (Bool × HT) := [(false, (.d (.int .i64)))]
def slices_Max_int_int.lc : List AC := []
def slices_Max_int_int.D (N : Nat) : DFn := ⟨slices_Max_int_int.as, slices_Max_int_int.rs, Int, fun x => slices_Max_int_int N x.1, fun r o => r.1, fun b => (b, ()), fun b => ()⟩
theorem slices_Max_int_int.fit (N : Nat) : (slices_Max_int_int.D N).Fit := ⟨fun _ _ => rfl, fun _ _ => rfl, by kernel_rfl⟩
noncomputable def slices_Max_int_int.G (N : Nat) : Gam := gamOf []
def slices_Max_int_int.A : Nat → Option LoopAnn := fun k => bif Nat.beq k 0 then some ⟨[0, 3, 4], [], [], [], [], 0, false⟩ else none
noncomputable def slices_Max_int_int.fin (N : Nat) : St → Option Int := resK tb Try.f45.results.toList (decRes (slices_Max_int_int.D N) slices_Max_int_int.lc)
noncomputable def slices_Max_int_int.k0 : List Item := stackAt [.r, .r, .r, .l, .r, .b] (bodyOf Try.f45) []
def slices_Max_int_int.st0 (x_ : (List Int)) (m_ : Int) (i_ : Int) : St := ⟨[.one (.fro 3 (.int .i64) x_), .one .any, .one .any, .one (.int .i64 m_), .one (.int .i64 i_)] ++ List.replicate 20 (.one .any), []⟩
theorem slices_Max_int_int.step0 (N : Nat) (rec : List Item → St → Option Int) (x_ : (List Int)) (m_ : Int) (i_ : Int) : seg tb (slices_Max_int_int.G N) slices_Max_int_int.A 0 rec (slices_Max_int_int.fin N) segFuel (loopBody slices_Max_int_int.k0) (slices_Max_int_int.st0 x_ m_ i_) = slices_Max_int_int.s0 N x_ (fun m_ i_ => rec slices_Max_int_int.k0 (slices_Max_int_int.st0 x_ m_ i_)) m_ i_ := by kernel_rfl
theorem slices_Max_int_int.entry (N : Nat) (rec : List Item → St → Option Int) (x : (argH slices_Max_int_int.as).den) : seg tb (slices_Max_int_int.G N) slices_Max_int_int.A 0 rec (slices_Max_int_int.fin N) segFuel [.code (bodyOf Try.f45)] (initSt Try.f45 (encArgs slices_Max_int_int.as x) (encMem slices_Max_int_int.as x)) = slices_Max_int_int.e N (fun m_ i_ => rec slices_Max_int_int.k0 (slices_Max_int_int.st0 x.1 m_ i_)) x.1 := by kernel_rfl
theorem slices_Max_int_int.runs (N : Nat) (x_ : (List Int)) : ∀ n, (∀ (m_ : Int) (i_ : Int), run tb (slices_Max_int_int.G N) slices_Max_int_int.A 0 (slices_Max_int_int.fin N) n slices_Max_int_int.k0 (slices_Max_int_int.st0 x_ m_ i_) = slices_Max_int_int.l0 N x_ n m_ i_)
  | 0 => fun _ _ => rfl
  | n + 1 => by
    have h0 := slices_Max_int_int.runs N x_ n
    have e0 : (fun (m_ : Int) (i_ : Int) => run tb (slices_Max_int_int.G N) slices_Max_int_int.A 0 (slices_Max_int_int.fin N) n slices_Max_int_int.k0 (slices_Max_int_int.st0 x_ m_ i_)) = slices_Max_int_int.l0 N x_ n := by funext m_ i_; exact h0 m_ i_
    have g0 : (∀ (m_ : Int) (i_ : Int), run tb (slices_Max_int_int.G N) slices_Max_int_int.A 0 (slices_Max_int_int.fin N) (n + 1) slices_Max_int_int.k0 (slices_Max_int_int.st0 x_ m_ i_) = slices_Max_int_int.l0 N x_ (n + 1) m_ i_) := by
      intro m_ i_
      exact (run_succ (by kernel_rfl)).trans ((slices_Max_int_int.step0 N _ x_ m_ i_).trans ((congrArg (fun r0 => slices_Max_int_int.s0 N x_ r0 m_ i_) e0).trans (slices_Max_int_int.l0_s N x_ n m_ i_).symm))
    exact g0
theorem slices_Max_int_int.ok (N : Nat) : FnOk Try.prog 45 (slices_Max_int_int.D N) := by
  refine FnOk_of tb_ok (Checked.mixed Try.checked) ⟨Try.f45, Try.func45, by kernel_rfl, by kernel_rfl, fun x y h => ⟨slices_Max_int_int.G N, slices_Max_int_int.A, N, gamOf_ok (fun p hp => nomatch hp), ?_⟩⟩ (slices_Max_int_int.fit N)
  rw [absFn_n (n0 := 0) rfl (by kernel_rfl)]
  refine (slices_Max_int_int.entry N (run tb (slices_Max_int_int.G N) slices_Max_int_int.A 0 (slices_Max_int_int.fin N) N) x).trans ?_
  have e0 : (fun (m_ : Int) (i_ : Int) => run tb (slices_Max_int_int.G N) slices_Max_int_int.A 0 (slices_Max_int_int.fin N) N slices_Max_int_int.k0 (slices_Max_int_int.st0 x.1 m_ i_)) = slices_Max_int_int.l0 N x.1 N := by funext m_ i_; exact (slices_Max_int_int.runs N x.1 N) m_ i_
  have h' : (slices_Max_int_int.D N).f x = slices_Max_int_int.e N (slices_Max_int_int.l0 N x.1 N) x.1 := by kernel_rfl
  exact (congrArg (fun r0 => slices_Max_int_int.e N r0 x.1) e0).trans (h'.symm.trans h)
/-! ### f9: gamehall/gamehallkeep1.MovesPieces -/
def gamehallkeep1_MovesPieces.as : List MK := [.d true (.prod .str (.prod (.int .i64) (.prod (.int .i64) (.prod (.slice 108 (.prod (.int .u8) (.prod (.int .i64) (.prod (.int .i64) (.slice 169 (.prod (.int .i64) (.prod (.int .i64) (.prod (.int .i64) (.int .i64))))))))) (.prod (.slice 3 (.int .i64)) (.prod .bool (.prod .bool (.prod (.slice 110 (.prod (.int .i64) (.prod (.int .i64) (.prod (.int .i64) .bool)))) (.prod (.int .i64) (.prod (.int .i64) (.int .i64))))))))))), .d true (.prod (.slice 3 (.int .i64)) (.prod (.prod (.slice 3 (.int .i64)) (.slice 3 (.int .i64))) (.prod (.int .i64) (.int .i64))))]
def gamehallkeep1_MovesPieces.rs : List (Bool × HT) := [(false, (.d .bool))]
def gamehallkeep1_MovesPieces.lc : List AC := []
def gamehallkeep1_MovesPieces.D (N : Nat) : DFn := ⟨gamehallkeep1_MovesPieces.as, gamehallkeep1_MovesPieces.rs, Bool, fun x => gamehallkeep1_MovesPieces N x.1 x.2.1, fun r o => r.1, fun b => (b, ()), fun b => ()⟩
theorem gamehallkeep1_MovesPieces.fit (N : Nat) : (gamehallkeep1_MovesPieces.D N).Fit := ⟨fun _ _ => rfl, fun _ _ => rfl, by kernel_rfl⟩
noncomputable def gamehallkeep1_MovesPieces.G (N : Nat) : Gam := gamOf [(39, gamehallkeep1_plays.D N), (40, moves_All.D N), (41, moves_After.D N), (44, gamehallkeep1_pieces.D N), (45, slices_Max_int_int.D N)]
def gamehallkeep1_MovesPieces.A : Nat → Option LoopAnn := fun k => bif Nat.beq k 0 then some ⟨[2, 3, 27, 28, 29], [], [], [], [], 3, false⟩ else none
noncomputable def gamehallkeep1_MovesPieces.fin (N : Nat) : St → Option Bool := resK tb Try.f9.results.toList (decRes (gamehallkeep1_MovesPieces.D N) gamehallkeep1_MovesPieces.lc)
noncomputable def gamehallkeep1_MovesPieces.k0 : List Item := stackAt [.r, .r, .r, .r, .l, .r, .b] (bodyOf Try.f9) []
def gamehallkeep1_MovesPieces.st0 (r_ : (ByteArray × (Int × (Int × ((List (Int × (Int × (Int × (List (Int × (Int × (Int × Int)))))))) × ((List Int) × (Bool × (Bool × ((List (Int × (Int × (Int × Bool)))) × (Int × (Int × Int))))))))))) (p_ : ((List Int) × (((List Int) × (List Int)) × (Int × Int)))) (t28_ : Int) (t29_ : Int) (m2_ : (List (Int × (Int × Int)))) : St := ⟨[.one .any, .one .any, .one (.ptr 0 0), .one (.ptr 1 0)] ++ List.replicate 23 (.one .any) ++ [.one (.own 2), .one (.int .i64 t28_), .one (.int .i64 t29_)] ++ List.replicate 80 (.one .any), [.var 36 [.str r_.1, .int .i64 r_.2.1, .int .i64 r_.2.2.1, .fro 108 (.prod (.int .u8) (.prod (.int .i64) (.prod (.int .i64) (.slice 169 (.prod (.int .i64) (.prod (.int .i64) (.prod (.int .i64) (.int .i64)))))))) r_.2.2.2.1, .fro 3 (.int .i64) r_.2.2.2.2.1, .bool r_.2.2.2.2.2.1, .bool r_.2.2.2.2.2.2.1, .fro 110 (.prod (.int .i64) (.prod (.int .i64) (.prod (.int .i64) .bool))) r_.2.2.2.2.2.2.2.1, .int .i64 r_.2.2.2.2.2.2.2.2.1, .int .i64 r_.2.2.2.2.2.2.2.2.2.1, .int .i64 r_.2.2.2.2.2.2.2.2.2.2], .var 39 [.fro 3 (.int .i64) p_.1, .fro 3 (.int .i64) p_.2.1.1, .fro 3 (.int .i64) p_.2.1.2, .int .i64 p_.2.2.1, .int .i64 p_.2.2.2], .row 68 (.prod (.int .i64) (.prod (.int .i64) (.int .i64))) m2_]⟩
theorem gamehallkeep1_MovesPieces.step0 (N : Nat) (rec : List Item → St → Option Bool) (r_ : (ByteArray × (Int × (Int × ((List (Int × (Int × (Int × (List (Int × (Int × (Int × Int)))))))) × ((List Int) × (Bool × (Bool × ((List (Int × (Int × (Int × Bool)))) × (Int × (Int × Int))))))))))) (p_ : ((List Int) × (((List Int) × (List Int)) × (Int × Int)))) (t28_ : Int) (t29_ : Int) (m2_ : (List (Int × (Int × Int)))) : seg tb (gamehallkeep1_MovesPieces.G N) gamehallkeep1_MovesPieces.A 0 rec (gamehallkeep1_MovesPieces.fin N) segFuel (loopBody gamehallkeep1_MovesPieces.k0) (gamehallkeep1_MovesPieces.st0 r_ p_ t28_ t29_ m2_) = gamehallkeep1_MovesPieces.s0 N r_ p_ (fun t28_ t29_ m2_ => rec gamehallkeep1_MovesPieces.k0 (gamehallkeep1_MovesPieces.st0 r_ p_ t28_ t29_ m2_)) t28_ t29_ m2_ := by kernel_rfl
theorem gamehallkeep1_MovesPieces.entry (N : Nat) (rec : List Item → St → Option Bool) (x : (argH gamehallkeep1_MovesPieces.as).den) : seg tb (gamehallkeep1_MovesPieces.G N) gamehallkeep1_MovesPieces.A 0 rec (gamehallkeep1_MovesPieces.fin N) segFuel [.code (bodyOf Try.f9)] (initSt Try.f9 (encArgs gamehallkeep1_MovesPieces.as x) (encMem gamehallkeep1_MovesPieces.as x)) = gamehallkeep1_MovesPieces.e N (fun t28_ t29_ m2_ => rec gamehallkeep1_MovesPieces.k0 (gamehallkeep1_MovesPieces.st0 x.1 x.2.1 t28_ t29_ m2_)) x.1 x.2.1 := by kernel_rfl
theorem gamehallkeep1_MovesPieces.runs (N : Nat) (r_ : (ByteArray × (Int × (Int × ((List (Int × (Int × (Int × (List (Int × (Int × (Int × Int)))))))) × ((List Int) × (Bool × (Bool × ((List (Int × (Int × (Int × Bool)))) × (Int × (Int × Int))))))))))) (p_ : ((List Int) × (((List Int) × (List Int)) × (Int × Int)))) : ∀ n, (∀ (t28_ : Int) (t29_ : Int) (m2_ : (List (Int × (Int × Int)))), run tb (gamehallkeep1_MovesPieces.G N) gamehallkeep1_MovesPieces.A 0 (gamehallkeep1_MovesPieces.fin N) n gamehallkeep1_MovesPieces.k0 (gamehallkeep1_MovesPieces.st0 r_ p_ t28_ t29_ m2_) = gamehallkeep1_MovesPieces.l0 N r_ p_ n t28_ t29_ m2_)
  | 0 => fun _ _ _ => rfl
  | n + 1 => by
    have h0 := gamehallkeep1_MovesPieces.runs N r_ p_ n
    have e0 : (fun (t28_ : Int) (t29_ : Int) (m2_ : (List (Int × (Int × Int)))) => run tb (gamehallkeep1_MovesPieces.G N) gamehallkeep1_MovesPieces.A 0 (gamehallkeep1_MovesPieces.fin N) n gamehallkeep1_MovesPieces.k0 (gamehallkeep1_MovesPieces.st0 r_ p_ t28_ t29_ m2_)) = gamehallkeep1_MovesPieces.l0 N r_ p_ n := by funext t28_ t29_ m2_; exact h0 t28_ t29_ m2_
    have g0 : (∀ (t28_ : Int) (t29_ : Int) (m2_ : (List (Int × (Int × Int)))), run tb (gamehallkeep1_MovesPieces.G N) gamehallkeep1_MovesPieces.A 0 (gamehallkeep1_MovesPieces.fin N) (n + 1) gamehallkeep1_MovesPieces.k0 (gamehallkeep1_MovesPieces.st0 r_ p_ t28_ t29_ m2_) = gamehallkeep1_MovesPieces.l0 N r_ p_ (n + 1) t28_ t29_ m2_) := by
      intro t28_ t29_ m2_
      exact (run_succ (by kernel_rfl)).trans ((gamehallkeep1_MovesPieces.step0 N _ r_ p_ t28_ t29_ m2_).trans ((congrArg (fun r0 => gamehallkeep1_MovesPieces.s0 N r_ p_ r0 t28_ t29_ m2_) e0).trans (gamehallkeep1_MovesPieces.l0_s N r_ p_ n t28_ t29_ m2_).symm))
    exact g0
theorem gamehallkeep1_MovesPieces.ok (N : Nat) : FnOk Try.prog 9 (gamehallkeep1_MovesPieces.D N) := by
  refine FnOk_of tb_ok (Checked.mixed Try.checked) ⟨Try.f9, Try.func9, by kernel_rfl, by kernel_rfl, fun x y h => ⟨gamehallkeep1_MovesPieces.G N, gamehallkeep1_MovesPieces.A, N, gamOf_ok (by simp only [List.forall_mem_cons, List.not_mem_nil, false_implies, implies_true, and_true]; exact ⟨⟨gamehallkeep1_plays.ok N, gamehallkeep1_plays.fit N⟩, ⟨moves_All.ok N, moves_All.fit N⟩, ⟨moves_After.ok N, moves_After.fit N⟩, ⟨gamehallkeep1_pieces.ok N, gamehallkeep1_pieces.fit N⟩, ⟨slices_Max_int_int.ok N, slices_Max_int_int.fit N⟩⟩), ?_⟩⟩ (gamehallkeep1_MovesPieces.fit N)
  rw [absFn_n (n0 := 0) rfl (by kernel_rfl)]
  refine (gamehallkeep1_MovesPieces.entry N (run tb (gamehallkeep1_MovesPieces.G N) gamehallkeep1_MovesPieces.A 0 (gamehallkeep1_MovesPieces.fin N) N) x).trans ?_
  have e0 : (fun (t28_ : Int) (t29_ : Int) (m2_ : (List (Int × (Int × Int)))) => run tb (gamehallkeep1_MovesPieces.G N) gamehallkeep1_MovesPieces.A 0 (gamehallkeep1_MovesPieces.fin N) N gamehallkeep1_MovesPieces.k0 (gamehallkeep1_MovesPieces.st0 x.1 x.2.1 t28_ t29_ m2_)) = gamehallkeep1_MovesPieces.l0 N x.1 x.2.1 N := by funext t28_ t29_ m2_; exact (gamehallkeep1_MovesPieces.runs N x.1 x.2.1 N) t28_ t29_ m2_
  have h' : (gamehallkeep1_MovesPieces.D N).f x = gamehallkeep1_MovesPieces.e N (gamehallkeep1_MovesPieces.l0 N x.1 x.2.1 N) x.1 x.2.1 := by kernel_rfl
  exact (congrArg (fun r0 => gamehallkeep1_MovesPieces.e N r0 x.1 x.2.1) e0).trans (h'.symm.trans h)
/-! ### f140: gamehall/ends.row -/
def ends_row.as : List MK := [.d true (.prod .str (.prod (.int .i64) (.prod (.int .i64) (.prod (.slice 108 (.prod (.int .u8) (.prod (.int .i64) (.prod (.int .i64) (.slice 169 (.prod (.int .i64) (.prod (.int .i64) (.prod (.int .i64) (.int .i64))))))))) (.prod (.slice 3 (.int .i64)) (.prod .bool (.prod .bool (.prod (.slice 110 (.prod (.int .i64) (.prod (.int .i64) (.prod (.int .i64) .bool)))) (.prod (.int .i64) (.prod (.int .i64) (.int .i64))))))))))), .d true (.prod (.slice 3 (.int .i64)) (.prod (.prod (.slice 3 (.int .i64)) (.slice 3 (.int .i64))) (.prod (.int .i64) (.int .i64)))), .d false (.int .i64), .d false (.int .i64)]
def ends_row.rs : List (Bool × HT) := [(false, (.d .bool))]
def ends_row.lc : List AC := []
def ends_row.D (N : Nat) : DFn := ⟨ends_row.as, ends_row.rs, Bool, fun x => ends_row N x.1 x.2.1 x.2.2.1 x.2.2.2.1, fun r o => r.1, fun b => (b, ()), fun b => ()⟩
theorem ends_row.fit (N : Nat) : (ends_row.D N).Fit := ⟨fun _ _ => rfl, fun _ _ => rfl, by kernel_rfl⟩
noncomputable def ends_row.G (N : Nat) : Gam := gamOf [(112, moves_Owner.D N)]
def ends_row.A : Nat → Option LoopAnn := fun k => bif Nat.beq k 0 then some ⟨[2, 3, 4, 5, 17, 18], [], [], [], [], 2, false⟩ else bif Nat.beq k 2 then some ⟨[2, 3, 4, 5, 9, 17, 18, 25, 26], [], [], [], [], 2, false⟩ else bif Nat.beq k 4 then some ⟨[2, 3, 4, 5, 9, 11, 12, 13, 14, 17, 18, 25, 26], [], [], [], [], 3, false⟩ else none
noncomputable def ends_row.fin (N : Nat) : St → Option Bool := resK tb Try.f140.results.toList (decRes (ends_row.D N) ends_row.lc)
noncomputable def ends_row.k0 : List Item := stackAt [.r, .l, .r, .b] (bodyOf Try.f140) []
def ends_row.st0 (r_ : (ByteArray × (Int × (Int × ((List (Int × (Int × (Int × (List (Int × (Int × (Int × Int)))))))) × ((List Int) × (Bool × (Bool × ((List (Int × (Int × (Int × Bool)))) × (Int × (Int × Int))))))))))) (p_ : ((List Int) × (((List Int) × (List Int)) × (Int × Int)))) (player : Int) (count : Int) (t18_ : Int) : St := ⟨[.one .any, .one .any, .one (.int .i64 player), .one (.int .i64 count), .one (.ptr 0 0), .one (.ptr 1 0)] ++ List.replicate 11 (.one .any) ++ [.one (.int .i64 (p_.1.length : Int)), .one (.int .i64 t18_)] ++ List.replicate 71 (.one .any), [.var 36 [.str r_.1, .int .i64 r_.2.1, .int .i64 r_.2.2.1, .fro 108 (.prod (.int .u8) (.prod (.int .i64) (.prod (.int .i64) (.slice 169 (.prod (.int .i64) (.prod (.int .i64) (.prod (.int .i64) (.int .i64)))))))) r_.2.2.2.1, .fro 3 (.int .i64) r_.2.2.2.2.1, .bool r_.2.2.2.2.2.1, .bool r_.2.2.2.2.2.2.1, .fro 110 (.prod (.int .i64) (.prod (.int .i64) (.prod (.int .i64) .bool))) r_.2.2.2.2.2.2.2.1, .int .i64 r_.2.2.2.2.2.2.2.2.1, .int .i64 r_.2.2.2.2.2.2.2.2.2.1, .int .i64 r_.2.2.2.2.2.2.2.2.2.2], .var 39 [.fro 3 (.int .i64) p_.1, .fro 3 (.int .i64) p_.2.1.1, .fro 3 (.int .i64) p_.2.1.2, .int .i64 p_.2.2.1, .int .i64 p_.2.2.2]]⟩
noncomputable def ends_row.k1 : List Item := stackAt [.r, .l, .r, .b, .w, .r, .r, .l, .b, .r, .r, .b] (bodyOf Try.f140) []
def ends_row.st1 (r_ : (ByteArray × (Int × (Int × ((List (Int × (Int × (Int × (List (Int × (Int × (Int × Int)))))))) × ((List Int) × (Bool × (Bool × ((List (Int × (Int × (Int × Bool)))) × (Int × (Int × Int))))))))))) (p_ : ((List Int) × (((List Int) × (List Int)) × (Int × Int)))) (player : Int) (count : Int) (s_ : Int) (t18_ : Int) (t26_ : Int) : St := ⟨[.one .any, .one .any, .one (.int .i64 player), .one (.int .i64 count), .one (.ptr 0 0), .one (.ptr 1 0)] ++ List.replicate 3 (.one .any) ++ [.one (.int .i64 s_)] ++ List.replicate 7 (.one .any) ++ [.one (.int .i64 (p_.1.length : Int)), .one (.int .i64 t18_)] ++ List.replicate 6 (.one .any) ++ [.agg [.int .i64 1, .int .i64 0, .int .i64 0, .int .i64 1, .int .i64 1, .int .i64 1, .int .i64 1, .int .i64 (-1)], .one (.int .i64 t26_)] ++ List.replicate 63 (.one .any), [.var 36 [.str r_.1, .int .i64 r_.2.1, .int .i64 r_.2.2.1, .fro 108 (.prod (.int .u8) (.prod (.int .i64) (.prod (.int .i64) (.slice 169 (.prod (.int .i64) (.prod (.int .i64) (.prod (.int .i64) (.int .i64)))))))) r_.2.2.2.1, .fro 3 (.int .i64) r_.2.2.2.2.1, .bool r_.2.2.2.2.2.1, .bool r_.2.2.2.2.2.2.1, .fro 110 (.prod (.int .i64) (.prod (.int .i64) (.prod (.int .i64) .bool))) r_.2.2.2.2.2.2.2.1, .int .i64 r_.2.2.2.2.2.2.2.2.1, .int .i64 r_.2.2.2.2.2.2.2.2.2.1, .int .i64 r_.2.2.2.2.2.2.2.2.2.2], .var 39 [.fro 3 (.int .i64) p_.1, .fro 3 (.int .i64) p_.2.1.1, .fro 3 (.int .i64) p_.2.1.2, .int .i64 p_.2.2.1, .int .i64 p_.2.2.2]]⟩
noncomputable def ends_row.k2 : List Item := stackAt [.r, .l, .r, .b, .w, .r, .r, .l, .b, .r, .r, .b, .w, .r, .r, .l, .b, .r, .r, .l, .b] (bodyOf Try.f140) []
def ends_row.st2 (r_ : (ByteArray × (Int × (Int × ((List (Int × (Int × (Int × (List (Int × (Int × (Int × Int)))))))) × ((List Int) × (Bool × (Bool × ((List (Int × (Int × (Int × Bool)))) × (Int × (Int × Int))))))))))) (p_ : ((List Int) × (((List Int) × (List Int)) × (Int × Int)))) (player : Int) (count : Int) (s_ : Int) (x_ : Int) (y_ : Int) (n_ : Int) (t18_ : Int) (t26_ : Int) (d_ : Int) (d_2 : Int) : St := ⟨[.one .any, .one .any, .one (.int .i64 player), .one (.int .i64 count), .one (.ptr 0 0), .one (.ptr 1 0)] ++ List.replicate 3 (.one .any) ++ [.one (.int .i64 s_), .one .any, .one (.ptr 2 0), .one (.int .i64 x_), .one (.int .i64 y_), .one (.int .i64 n_), .one .any, .one .any, .one (.int .i64 (p_.1.length : Int)), .one (.int .i64 t18_)] ++ List.replicate 6 (.one .any) ++ [.agg [.int .i64 1, .int .i64 0, .int .i64 0, .int .i64 1, .int .i64 1, .int .i64 1, .int .i64 1, .int .i64 (-1)], .one (.int .i64 t26_)] ++ List.replicate 63 (.one .any), [.var 36 [.str r_.1, .int .i64 r_.2.1, .int .i64 r_.2.2.1, .fro 108 (.prod (.int .u8) (.prod (.int .i64) (.prod (.int .i64) (.slice 169 (.prod (.int .i64) (.prod (.int .i64) (.prod (.int .i64) (.int .i64)))))))) r_.2.2.2.1, .fro 3 (.int .i64) r_.2.2.2.2.1, .bool r_.2.2.2.2.2.1, .bool r_.2.2.2.2.2.2.1, .fro 110 (.prod (.int .i64) (.prod (.int .i64) (.prod (.int .i64) .bool))) r_.2.2.2.2.2.2.2.1, .int .i64 r_.2.2.2.2.2.2.2.2.1, .int .i64 r_.2.2.2.2.2.2.2.2.2.1, .int .i64 r_.2.2.2.2.2.2.2.2.2.2], .var 39 [.fro 3 (.int .i64) p_.1, .fro 3 (.int .i64) p_.2.1.1, .fro 3 (.int .i64) p_.2.1.2, .int .i64 p_.2.2.1, .int .i64 p_.2.2.2], .var 202 [.int .i64 d_, .int .i64 d_2]]⟩
theorem ends_row.step0 (N : Nat) (rec : List Item → St → Option Bool) (r_ : (ByteArray × (Int × (Int × ((List (Int × (Int × (Int × (List (Int × (Int × (Int × Int)))))))) × ((List Int) × (Bool × (Bool × ((List (Int × (Int × (Int × Bool)))) × (Int × (Int × Int))))))))))) (p_ : ((List Int) × (((List Int) × (List Int)) × (Int × Int)))) (player : Int) (count : Int) (t18_ : Int) : seg tb (ends_row.G N) ends_row.A 0 rec (ends_row.fin N) segFuel (loopBody ends_row.k0) (ends_row.st0 r_ p_ player count t18_) = ends_row.s0 N r_ p_ player count (fun t18_ => rec ends_row.k0 (ends_row.st0 r_ p_ player count t18_)) (fun s_ t18_ t26_ => rec ends_row.k1 (ends_row.st1 r_ p_ player count s_ t18_ t26_)) (fun s_ x_ y_ n_ t18_ t26_ d_ d_2 => rec ends_row.k2 (ends_row.st2 r_ p_ player count s_ x_ y_ n_ t18_ t26_ d_ d_2)) t18_ := by kernel_rfl
theorem ends_row.step1 (N : Nat) (rec : List Item → St → Option Bool) (r_ : (ByteArray × (Int × (Int × ((List (Int × (Int × (Int × (List (Int × (Int × (Int × Int)))))))) × ((List Int) × (Bool × (Bool × ((List (Int × (Int × (Int × Bool)))) × (Int × (Int × Int))))))))))) (p_ : ((List Int) × (((List Int) × (List Int)) × (Int × Int)))) (player : Int) (count : Int) (s_ : Int) (t18_ : Int) (t26_ : Int) : seg tb (ends_row.G N) ends_row.A 0 rec (ends_row.fin N) segFuel (loopBody ends_row.k1) (ends_row.st1 r_ p_ player count s_ t18_ t26_) = ends_row.s1 N r_ p_ player count (fun t18_ => rec ends_row.k0 (ends_row.st0 r_ p_ player count t18_)) (fun s_ t18_ t26_ => rec ends_row.k1 (ends_row.st1 r_ p_ player count s_ t18_ t26_)) (fun s_ x_ y_ n_ t18_ t26_ d_ d_2 => rec ends_row.k2 (ends_row.st2 r_ p_ player count s_ x_ y_ n_ t18_ t26_ d_ d_2)) s_ t18_ t26_ := by kernel_rfl
theorem ends_row.step2 (N : Nat) (rec : List Item → St → Option Bool) (r_ : (ByteArray × (Int × (Int × ((List (Int × (Int × (Int × (List (Int × (Int × (Int × Int)))))))) × ((List Int) × (Bool × (Bool × ((List (Int × (Int × (Int × Bool)))) × (Int × (Int × Int))))))))))) (p_ : ((List Int) × (((List Int) × (List Int)) × (Int × Int)))) (player : Int) (count : Int) (s_ : Int) (x_ : Int) (y_ : Int) (n_ : Int) (t18_ : Int) (t26_ : Int) (d_ : Int) (d_2 : Int) : seg tb (ends_row.G N) ends_row.A 0 rec (ends_row.fin N) segFuel (loopBody ends_row.k2) (ends_row.st2 r_ p_ player count s_ x_ y_ n_ t18_ t26_ d_ d_2) = ends_row.s2 N r_ p_ player count (fun t18_ => rec ends_row.k0 (ends_row.st0 r_ p_ player count t18_)) (fun s_ t18_ t26_ => rec ends_row.k1 (ends_row.st1 r_ p_ player count s_ t18_ t26_)) (fun s_ x_ y_ n_ t18_ t26_ d_ d_2 => rec ends_row.k2 (ends_row.st2 r_ p_ player count s_ x_ y_ n_ t18_ t26_ d_ d_2)) s_ x_ y_ n_ t18_ t26_ d_ d_2 := by kernel_rfl
theorem ends_row.entry (N : Nat) (rec : List Item → St → Option Bool) (x : (argH ends_row.as).den) : seg tb (ends_row.G N) ends_row.A 0 rec (ends_row.fin N) segFuel [.code (bodyOf Try.f140)] (initSt Try.f140 (encArgs ends_row.as x) (encMem ends_row.as x)) = ends_row.e N (fun t18_ => rec ends_row.k0 (ends_row.st0 x.1 x.2.1 x.2.2.1 x.2.2.2.1 t18_)) (fun s_ t18_ t26_ => rec ends_row.k1 (ends_row.st1 x.1 x.2.1 x.2.2.1 x.2.2.2.1 s_ t18_ t26_)) (fun s_ x_ y_ n_ t18_ t26_ d_ d_2 => rec ends_row.k2 (ends_row.st2 x.1 x.2.1 x.2.2.1 x.2.2.2.1 s_ x_ y_ n_ t18_ t26_ d_ d_2)) x.1 x.2.1 x.2.2.1 x.2.2.2.1 := by kernel_rfl
theorem ends_row.runs (N : Nat) (r_ : (ByteArray × (Int × (Int × ((List (Int × (Int × (Int × (List (Int × (Int × (Int × Int)))))))) × ((List Int) × (Bool × (Bool × ((List (Int × (Int × (Int × Bool)))) × (Int × (Int × Int))))))))))) (p_ : ((List Int) × (((List Int) × (List Int)) × (Int × Int)))) (player : Int) (count : Int) : ∀ n, (∀ (t18_ : Int), run tb (ends_row.G N) ends_row.A 0 (ends_row.fin N) n ends_row.k0 (ends_row.st0 r_ p_ player count t18_) = ends_row.l0 N r_ p_ player count n t18_) ∧ (∀ (s_ : Int) (t18_ : Int) (t26_ : Int), run tb (ends_row.G N) ends_row.A 0 (ends_row.fin N) n ends_row.k1 (ends_row.st1 r_ p_ player count s_ t18_ t26_) = ends_row.l1 N r_ p_ player count n s_ t18_ t26_) ∧ (∀ (s_ : Int) (x_ : Int) (y_ : Int) (n_ : Int) (t18_ : Int) (t26_ : Int) (d_ : Int) (d_2 : Int), run tb (ends_row.G N) ends_row.A 0 (ends_row.fin N) n ends_row.k2 (ends_row.st2 r_ p_ player count s_ x_ y_ n_ t18_ t26_ d_ d_2) = ends_row.l2 N r_ p_ player count n s_ x_ y_ n_ t18_ t26_ d_ d_2)
  | 0 => ⟨fun _ => rfl, fun _ _ _ => rfl, fun _ _ _ _ _ _ _ _ => rfl⟩
  | n + 1 => by
    obtain ⟨h0, h1, h2⟩ := ends_row.runs N r_ p_ player count n
    have e0 : (fun (t18_ : Int) => run tb (ends_row.G N) ends_row.A 0 (ends_row.fin N) n ends_row.k0 (ends_row.st0 r_ p_ player count t18_)) = ends_row.l0 N r_ p_ player count n := by funext t18_; exact h0 t18_
    have e1 : (fun (s_ : Int) (t18_ : Int) (t26_ : Int) => run tb (ends_row.G N) ends_row.A 0 (ends_row.fin N) n ends_row.k1 (ends_row.st1 r_ p_ player count s_ t18_ t26_)) = ends_row.l1 N r_ p_ player count n := by funext s_ t18_ t26_; exact h1 s_ t18_ t26_
    have e2 : (fun (s_ : Int) (x_ : Int) (y_ : Int) (n_ : Int) (t18_ : Int) (t26_ : Int) (d_ : Int) (d_2 : Int) => run tb (ends_row.G N) ends_row.A 0 (ends_row.fin N) n ends_row.k2 (ends_row.st2 r_ p_ player count s_ x_ y_ n_ t18_ t26_ d_ d_2)) = ends_row.l2 N r_ p_ player count n := by funext s_ x_ y_ n_ t18_ t26_ d_ d_2; exact h2 s_ x_ y_ n_ t18_ t26_ d_ d_2
    have g0 : (∀ (t18_ : Int), run tb (ends_row.G N) ends_row.A 0 (ends_row.fin N) (n + 1) ends_row.k0 (ends_row.st0 r_ p_ player count t18_) = ends_row.l0 N r_ p_ player count (n + 1) t18_) := by
      intro t18_
      exact (run_succ (by kernel_rfl)).trans ((ends_row.step0 N _ r_ p_ player count t18_).trans ((congr (congr (congrArg (fun r0 r1 r2 => ends_row.s0 N r_ p_ player count r0 r1 r2 t18_) e0) e1) e2).trans (ends_row.l0_s N r_ p_ player count n t18_).symm))
    have g1 : (∀ (s_ : Int) (t18_ : Int) (t26_ : Int), run tb (ends_row.G N) ends_row.A 0 (ends_row.fin N) (n + 1) ends_row.k1 (ends_row.st1 r_ p_ player count s_ t18_ t26_) = ends_row.l1 N r_ p_ player count (n + 1) s_ t18_ t26_) := by
      intro s_ t18_ t26_
      exact (run_succ (by kernel_rfl)).trans ((ends_row.step1 N _ r_ p_ player count s_ t18_ t26_).trans ((congr (congr (congrArg (fun r0 r1 r2 => ends_row.s1 N r_ p_ player count r0 r1 r2 s_ t18_ t26_) e0) e1) e2).trans (ends_row.l1_s N r_ p_ player count n s_ t18_ t26_).symm))
    have g2 : (∀ (s_ : Int) (x_ : Int) (y_ : Int) (n_ : Int) (t18_ : Int) (t26_ : Int) (d_ : Int) (d_2 : Int), run tb (ends_row.G N) ends_row.A 0 (ends_row.fin N) (n + 1) ends_row.k2 (ends_row.st2 r_ p_ player count s_ x_ y_ n_ t18_ t26_ d_ d_2) = ends_row.l2 N r_ p_ player count (n + 1) s_ x_ y_ n_ t18_ t26_ d_ d_2) := by
      intro s_ x_ y_ n_ t18_ t26_ d_ d_2
      exact (run_succ (by kernel_rfl)).trans ((ends_row.step2 N _ r_ p_ player count s_ x_ y_ n_ t18_ t26_ d_ d_2).trans ((congr (congr (congrArg (fun r0 r1 r2 => ends_row.s2 N r_ p_ player count r0 r1 r2 s_ x_ y_ n_ t18_ t26_ d_ d_2) e0) e1) e2).trans (ends_row.l2_s N r_ p_ player count n s_ x_ y_ n_ t18_ t26_ d_ d_2).symm))
    exact ⟨g0, g1, g2⟩
theorem ends_row.ok (N : Nat) : FnOk Try.prog 140 (ends_row.D N) := by
  refine FnOk_of tb_ok (Checked.mixed Try.checked) ⟨Try.f140, Try.func140, by kernel_rfl, by kernel_rfl, fun x y h => ⟨ends_row.G N, ends_row.A, N, gamOf_ok (by simp only [List.forall_mem_cons, List.not_mem_nil, false_implies, implies_true, and_true]; exact ⟨moves_Owner.ok N, moves_Owner.fit N⟩), ?_⟩⟩ (ends_row.fit N)
  rw [absFn_n (n0 := 0) rfl (by kernel_rfl)]
  refine (ends_row.entry N (run tb (ends_row.G N) ends_row.A 0 (ends_row.fin N) N) x).trans ?_
  have e0 : (fun (t18_ : Int) => run tb (ends_row.G N) ends_row.A 0 (ends_row.fin N) N ends_row.k0 (ends_row.st0 x.1 x.2.1 x.2.2.1 x.2.2.2.1 t18_)) = ends_row.l0 N x.1 x.2.1 x.2.2.1 x.2.2.2.1 N := by funext t18_; exact (ends_row.runs N x.1 x.2.1 x.2.2.1 x.2.2.2.1 N).1 t18_
  have e1 : (fun (s_ : Int) (t18_ : Int) (t26_ : Int) => run tb (ends_row.G N) ends_row.A 0 (ends_row.fin N) N ends_row.k1 (ends_row.st1 x.1 x.2.1 x.2.2.1 x.2.2.2.1 s_ t18_ t26_)) = ends_row.l1 N x.1 x.2.1 x.2.2.1 x.2.2.2.1 N := by funext s_ t18_ t26_; exact (ends_row.runs N x.1 x.2.1 x.2.2.1 x.2.2.2.1 N).2.1 s_ t18_ t26_
  have e2 : (fun (s_ : Int) (x_ : Int) (y_ : Int) (n_ : Int) (t18_ : Int) (t26_ : Int) (d_ : Int) (d_2 : Int) => run tb (ends_row.G N) ends_row.A 0 (ends_row.fin N) N ends_row.k2 (ends_row.st2 x.1 x.2.1 x.2.2.1 x.2.2.2.1 s_ x_ y_ n_ t18_ t26_ d_ d_2)) = ends_row.l2 N x.1 x.2.1 x.2.2.1 x.2.2.2.1 N := by funext s_ x_ y_ n_ t18_ t26_ d_ d_2; exact (ends_row.runs N x.1 x.2.1 x.2.2.1 x.2.2.2.1 N).2.2 s_ x_ y_ n_ t18_ t26_ d_ d_2
  have h' : (ends_row.D N).f x = ends_row.e N (ends_row.l0 N x.1 x.2.1 x.2.2.1 x.2.2.2.1 N) (ends_row.l1 N x.1 x.2.1 x.2.2.1 x.2.2.2.1 N) (ends_row.l2 N x.1 x.2.1 x.2.2.1 x.2.2.2.1 N) x.1 x.2.1 x.2.2.1 x.2.2.2.1 := by kernel_rfl
  exact (congr (congr (congrArg (fun r0 r1 r2 => ends_row.e N r0 r1 r2 x.1 x.2.1 x.2.2.1 x.2.2.2.1) e0) e1) e2).trans (h'.symm.trans h)
/-! ### f118: gamehall/ends.holds -/
def ends_holds.as : List MK := [.d true (.prod .str (.prod (.int .i64) (.prod (.int .i64) (.prod (.slice 108 (.prod (.int .u8) (.prod (.int .i64) (.prod (.int .i64) (.slice 169 (.prod (.int .i64) (.prod (.int .i64) (.prod (.int .i64) (.int .i64))))))))) (.prod (.slice 3 (.int .i64)) (.prod .bool (.prod .bool (.prod (.slice 110 (.prod (.int .i64) (.prod (.int .i64) (.prod (.int .i64) .bool)))) (.prod (.int .i64) (.prod (.int .i64) (.int .i64))))))))))), .d true (.prod (.slice 3 (.int .i64)) (.prod (.prod (.slice 3 (.int .i64)) (.slice 3 (.int .i64))) (.prod (.int .i64) (.int .i64)))), .d true (.prod (.int .i64) (.prod (.int .i64) (.prod (.int .i64) .bool)))]
def ends_holds.rs : List (Bool × HT) := [(false, (.d .bool))]
def ends_holds.lc : List AC := []
def ends_holds.D (N : Nat) : DFn := ⟨ends_holds.as, ends_holds.rs, Bool, fun x => ends_holds N x.1 x.2.1 x.2.2.1, fun r o => r.1, fun b => (b, ()), fun b => ()⟩
theorem ends_holds.fit (N : Nat) : (ends_holds.D N).Fit := ⟨fun _ _ => rfl, fun _ _ => rfl, by kernel_rfl⟩
noncomputable def ends_holds.G (N : Nat) : Gam := gamOf [(140, ends_row.D N), (117, moves_Cell.D N), (141, rules_Far.D N)]
def ends_holds.A : Nat → Option LoopAnn := fun k => bif Nat.beq k 1 then some ⟨[3, 5, 7, 29, 30, 31], [], [], [], [1], 3, false⟩ else bif Nat.beq k 3 then some ⟨[4, 5, 10, 50, 51, 52], [], [], [], [0], 3, false⟩ else none
noncomputable def ends_holds.fin (N : Nat) : St → Option Bool := resK tb Try.f118.results.toList (decRes (ends_holds.D N) ends_holds.lc)
noncomputable def ends_holds.k0 : List Item := stackAt [.r, .r, .l, .r, .b, .r, .e, .r, .t, .l, .r, .b] (bodyOf Try.f118) []
def ends_holds.st0 (r_ : (ByteArray × (Int × (Int × ((List (Int × (Int × (Int × (List (Int × (Int × (Int × Int)))))))) × ((List Int) × (Bool × (Bool × ((List (Int × (Int × (Int × Bool)))) × (Int × (Int × Int))))))))))) (p_ : ((List Int) × (((List Int) × (List Int)) × (Int × Int)))) (x_ : (Int × (Int × (Int × Bool)))) (t31_ : Int) : St := ⟨List.replicate 3 (.one .any) ++ [.one (.ptr 0 0), .one .any, .one (.ptr 2 0), .one .any, .one (.int .i64 (w64 (1 - p_.2.2.1)))] ++ List.replicate 21 (.one .any) ++ [.one (.fro 3 (.int .i64) p_.1), .one (.int .i64 (p_.1.length : Int)), .one (.int .i64 t31_)] ++ List.replicate 38 (.one .any), [.var 36 [.str r_.1, .int .i64 r_.2.1, .int .i64 r_.2.2.1, .fro 108 (.prod (.int .u8) (.prod (.int .i64) (.prod (.int .i64) (.slice 169 (.prod (.int .i64) (.prod (.int .i64) (.prod (.int .i64) (.int .i64)))))))) r_.2.2.2.1, .fro 3 (.int .i64) r_.2.2.2.2.1, .bool r_.2.2.2.2.2.1, .bool r_.2.2.2.2.2.2.1, .fro 110 (.prod (.int .i64) (.prod (.int .i64) (.prod (.int .i64) .bool))) r_.2.2.2.2.2.2.2.1, .int .i64 r_.2.2.2.2.2.2.2.2.1, .int .i64 r_.2.2.2.2.2.2.2.2.2.1, .int .i64 r_.2.2.2.2.2.2.2.2.2.2], .gone, .var 110 [.int .i64 x_.1, .int .i64 x_.2.1, .int .i64 x_.2.2.1, .bool x_.2.2.2]]⟩
noncomputable def ends_holds.k1 : List Item := stackAt [.r, .r, .r, .r, .l, .r, .b] (bodyOf Try.f118) []
def ends_holds.st1 (r_ : (ByteArray × (Int × (Int × ((List (Int × (Int × (Int × (List (Int × (Int × (Int × Int)))))))) × ((List Int) × (Bool × (Bool × ((List (Int × (Int × (Int × Bool)))) × (Int × (Int × Int))))))))))) (p_ : ((List Int) × (((List Int) × (List Int)) × (Int × Int)))) (x_ : (Int × (Int × (Int × Bool)))) (n_ : Int) (t52_ : Int) : St := ⟨List.replicate 4 (.one .any) ++ [.one (.ptr 1 0), .one (.ptr 2 0)] ++ List.replicate 4 (.one .any) ++ [.one (.int .i64 n_)] ++ List.replicate 39 (.one .any) ++ [.one (.fro 3 (.int .i64) p_.1), .one (.int .i64 (p_.1.length : Int)), .one (.int .i64 t52_)] ++ List.replicate 17 (.one .any), [.gone, .var 39 [.fro 3 (.int .i64) p_.1, .fro 3 (.int .i64) p_.2.1.1, .fro 3 (.int .i64) p_.2.1.2, .int .i64 p_.2.2.1, .int .i64 p_.2.2.2], .var 110 [.int .i64 x_.1, .int .i64 x_.2.1, .int .i64 x_.2.2.1, .bool x_.2.2.2]]⟩
theorem ends_holds.step0 (N : Nat) (rec : List Item → St → Option Bool) (r_ : (ByteArray × (Int × (Int × ((List (Int × (Int × (Int × (List (Int × (Int × (Int × Int)))))))) × ((List Int) × (Bool × (Bool × ((List (Int × (Int × (Int × Bool)))) × (Int × (Int × Int))))))))))) (p_ : ((List Int) × (((List Int) × (List Int)) × (Int × Int)))) (x_ : (Int × (Int × (Int × Bool)))) (t31_ : Int) : seg tb (ends_holds.G N) ends_holds.A 0 rec (ends_holds.fin N) segFuel (loopBody ends_holds.k0) (ends_holds.st0 r_ p_ x_ t31_) = ends_holds.s0 N r_ p_ x_ (fun t31_ => rec ends_holds.k0 (ends_holds.st0 r_ p_ x_ t31_)) (fun n_ t52_ => rec ends_holds.k1 (ends_holds.st1 r_ p_ x_ n_ t52_)) t31_ := by kernel_rfl
theorem ends_holds.step1 (N : Nat) (rec : List Item → St → Option Bool) (r_ : (ByteArray × (Int × (Int × ((List (Int × (Int × (Int × (List (Int × (Int × (Int × Int)))))))) × ((List Int) × (Bool × (Bool × ((List (Int × (Int × (Int × Bool)))) × (Int × (Int × Int))))))))))) (p_ : ((List Int) × (((List Int) × (List Int)) × (Int × Int)))) (x_ : (Int × (Int × (Int × Bool)))) (n_ : Int) (t52_ : Int) : seg tb (ends_holds.G N) ends_holds.A 0 rec (ends_holds.fin N) segFuel (loopBody ends_holds.k1) (ends_holds.st1 r_ p_ x_ n_ t52_) = ends_holds.s1 N r_ p_ x_ (fun t31_ => rec ends_holds.k0 (ends_holds.st0 r_ p_ x_ t31_)) (fun n_ t52_ => rec ends_holds.k1 (ends_holds.st1 r_ p_ x_ n_ t52_)) n_ t52_ := by kernel_rfl
theorem ends_holds.entry (N : Nat) (rec : List Item → St → Option Bool) (x : (argH ends_holds.as).den) : seg tb (ends_holds.G N) ends_holds.A 0 rec (ends_holds.fin N) segFuel [.code (bodyOf Try.f118)] (initSt Try.f118 (encArgs ends_holds.as x) (encMem ends_holds.as x)) = ends_holds.e N (fun t31_ => rec ends_holds.k0 (ends_holds.st0 x.1 x.2.1 x.2.2.1 t31_)) (fun n_ t52_ => rec ends_holds.k1 (ends_holds.st1 x.1 x.2.1 x.2.2.1 n_ t52_)) x.1 x.2.1 x.2.2.1 := by kernel_rfl
theorem ends_holds.runs (N : Nat) (r_ : (ByteArray × (Int × (Int × ((List (Int × (Int × (Int × (List (Int × (Int × (Int × Int)))))))) × ((List Int) × (Bool × (Bool × ((List (Int × (Int × (Int × Bool)))) × (Int × (Int × Int))))))))))) (p_ : ((List Int) × (((List Int) × (List Int)) × (Int × Int)))) (x_ : (Int × (Int × (Int × Bool)))) : ∀ n, (∀ (t31_ : Int), run tb (ends_holds.G N) ends_holds.A 0 (ends_holds.fin N) n ends_holds.k0 (ends_holds.st0 r_ p_ x_ t31_) = ends_holds.l0 N r_ p_ x_ n t31_) ∧ (∀ (n_ : Int) (t52_ : Int), run tb (ends_holds.G N) ends_holds.A 0 (ends_holds.fin N) n ends_holds.k1 (ends_holds.st1 r_ p_ x_ n_ t52_) = ends_holds.l1 N r_ p_ x_ n n_ t52_)
  | 0 => ⟨fun _ => rfl, fun _ _ => rfl⟩
  | n + 1 => by
    obtain ⟨h0, h1⟩ := ends_holds.runs N r_ p_ x_ n
    have e0 : (fun (t31_ : Int) => run tb (ends_holds.G N) ends_holds.A 0 (ends_holds.fin N) n ends_holds.k0 (ends_holds.st0 r_ p_ x_ t31_)) = ends_holds.l0 N r_ p_ x_ n := by funext t31_; exact h0 t31_
    have e1 : (fun (n_ : Int) (t52_ : Int) => run tb (ends_holds.G N) ends_holds.A 0 (ends_holds.fin N) n ends_holds.k1 (ends_holds.st1 r_ p_ x_ n_ t52_)) = ends_holds.l1 N r_ p_ x_ n := by funext n_ t52_; exact h1 n_ t52_
    have g0 : (∀ (t31_ : Int), run tb (ends_holds.G N) ends_holds.A 0 (ends_holds.fin N) (n + 1) ends_holds.k0 (ends_holds.st0 r_ p_ x_ t31_) = ends_holds.l0 N r_ p_ x_ (n + 1) t31_) := by
      intro t31_
      exact (run_succ (by kernel_rfl)).trans ((ends_holds.step0 N _ r_ p_ x_ t31_).trans ((congr (congrArg (fun r0 r1 => ends_holds.s0 N r_ p_ x_ r0 r1 t31_) e0) e1).trans (ends_holds.l0_s N r_ p_ x_ n t31_).symm))
    have g1 : (∀ (n_ : Int) (t52_ : Int), run tb (ends_holds.G N) ends_holds.A 0 (ends_holds.fin N) (n + 1) ends_holds.k1 (ends_holds.st1 r_ p_ x_ n_ t52_) = ends_holds.l1 N r_ p_ x_ (n + 1) n_ t52_) := by
      intro n_ t52_
      exact (run_succ (by kernel_rfl)).trans ((ends_holds.step1 N _ r_ p_ x_ n_ t52_).trans ((congr (congrArg (fun r0 r1 => ends_holds.s1 N r_ p_ x_ r0 r1 n_ t52_) e0) e1).trans (ends_holds.l1_s N r_ p_ x_ n n_ t52_).symm))
    exact ⟨g0, g1⟩
theorem ends_holds.ok (N : Nat) : FnOk Try.prog 118 (ends_holds.D N) := by
  refine FnOk_of tb_ok (Checked.mixed Try.checked) ⟨Try.f118, Try.func118, by kernel_rfl, by kernel_rfl, fun x y h => ⟨ends_holds.G N, ends_holds.A, N, gamOf_ok (by simp only [List.forall_mem_cons, List.not_mem_nil, false_implies, implies_true, and_true]; exact ⟨⟨ends_row.ok N, ends_row.fit N⟩, ⟨moves_Cell.ok N, moves_Cell.fit N⟩, ⟨rules_Far.ok N, rules_Far.fit N⟩⟩), ?_⟩⟩ (ends_holds.fit N)
  rw [absFn_n (n0 := 0) rfl (by kernel_rfl)]
  refine (ends_holds.entry N (run tb (ends_holds.G N) ends_holds.A 0 (ends_holds.fin N) N) x).trans ?_
  have e0 : (fun (t31_ : Int) => run tb (ends_holds.G N) ends_holds.A 0 (ends_holds.fin N) N ends_holds.k0 (ends_holds.st0 x.1 x.2.1 x.2.2.1 t31_)) = ends_holds.l0 N x.1 x.2.1 x.2.2.1 N := by funext t31_; exact (ends_holds.runs N x.1 x.2.1 x.2.2.1 N).1 t31_
  have e1 : (fun (n_ : Int) (t52_ : Int) => run tb (ends_holds.G N) ends_holds.A 0 (ends_holds.fin N) N ends_holds.k1 (ends_holds.st1 x.1 x.2.1 x.2.2.1 n_ t52_)) = ends_holds.l1 N x.1 x.2.1 x.2.2.1 N := by funext n_ t52_; exact (ends_holds.runs N x.1 x.2.1 x.2.2.1 N).2 n_ t52_
  have h' : (ends_holds.D N).f x = ends_holds.e N (ends_holds.l0 N x.1 x.2.1 x.2.2.1 N) (ends_holds.l1 N x.1 x.2.1 x.2.2.1 N) x.1 x.2.1 x.2.2.1 := by kernel_rfl
  exact (congr (congrArg (fun r0 r1 => ends_holds.e N r0 r1 x.1 x.2.1 x.2.2.1) e0) e1).trans (h'.symm.trans h)
/-! ### f119: gamehall/ends.wins -/
def ends_wins.as : List MK := [.d false (.int .i64)]
def ends_wins.rs : List (Bool × HT) := [(false, (.d (.int .i64)))]
def ends_wins.lc : List AC := []
def ends_wins.D (N : Nat) : DFn := ⟨ends_wins.as, ends_wins.rs, Int, fun x => ends_wins N x.1, fun r o => r.1, fun b => (b, ()), fun b => ()⟩
theorem ends_wins.fit (N : Nat) : (ends_wins.D N).Fit := ⟨fun _ _ => rfl, fun _ _ => rfl, by kernel_rfl⟩
noncomputable def ends_wins.G (N : Nat) : Gam := gamOf []
def ends_wins.A : Nat → Option LoopAnn := fun _ => none
noncomputable def ends_wins.fin (N : Nat) : St → Option Int := resK tb Try.f119.results.toList (decRes (ends_wins.D N) ends_wins.lc)
theorem ends_wins.entry (N : Nat) (rec : List Item → St → Option Int) (x : (argH ends_wins.as).den) : seg tb (ends_wins.G N) ends_wins.A 0 rec (ends_wins.fin N) segFuel [.code (bodyOf Try.f119)] (initSt Try.f119 (encArgs ends_wins.as x) (encMem ends_wins.as x)) = ends_wins.e N x.1 := by kernel_rfl
theorem ends_wins.ok (N : Nat) : FnOk Try.prog 119 (ends_wins.D N) := by
  refine FnOk_of tb_ok (Checked.mixed Try.checked) ⟨Try.f119, Try.func119, by kernel_rfl, by kernel_rfl, fun x y h => ⟨ends_wins.G N, ends_wins.A, N, gamOf_ok (fun p hp => nomatch hp), ?_⟩⟩ (ends_wins.fit N)
  rw [absFn_n (n0 := 0) rfl (by kernel_rfl)]
  exact (ends_wins.entry N _ x).trans h
/-! ### f83: gamehall/ends.Result -/
def ends_Result.as : List MK := [.d true (.prod .str (.prod (.int .i64) (.prod (.int .i64) (.prod (.slice 108 (.prod (.int .u8) (.prod (.int .i64) (.prod (.int .i64) (.slice 169 (.prod (.int .i64) (.prod (.int .i64) (.prod (.int .i64) (.int .i64))))))))) (.prod (.slice 3 (.int .i64)) (.prod .bool (.prod .bool (.prod (.slice 110 (.prod (.int .i64) (.prod (.int .i64) (.prod (.int .i64) .bool)))) (.prod (.int .i64) (.prod (.int .i64) (.int .i64))))))))))), .d true (.prod (.slice 3 (.int .i64)) (.prod (.prod (.slice 3 (.int .i64)) (.slice 3 (.int .i64))) (.prod (.int .i64) (.int .i64))))]
def ends_Result.rs : List (Bool × HT) := [(false, (.d (.int .i64)))]
def ends_Result.lc : List AC := []
def ends_Result.D (N : Nat) : DFn := ⟨ends_Result.as, ends_Result.rs, Int, fun x => ends_Result N x.1 x.2.1, fun r o => r.1, fun b => (b, ()), fun b => ()⟩
theorem ends_Result.fit (N : Nat) : (ends_Result.D N).Fit := ⟨fun _ _ => rfl, fun _ _ => rfl, by kernel_rfl⟩
noncomputable def ends_Result.G (N : Nat) : Gam := gamOf [(118, ends_holds.D N), (119, ends_wins.D N), (80, moves_Gen.D N)]
def ends_Result.A : Nat → Option LoopAnn := fun k => bif Nat.beq k 0 then some ⟨[2, 3, 5, 12, 13, 14], [], [], [], [], 2, false⟩ else none
noncomputable def ends_Result.fin (N : Nat) : St → Option Int := resK tb Try.f83.results.toList (decRes (ends_Result.D N) ends_Result.lc)
noncomputable def ends_Result.k0 : List Item := stackAt [.r, .r, .l, .r, .b] (bodyOf Try.f83) []
def ends_Result.st0 (r_ : (ByteArray × (Int × (Int × ((List (Int × (Int × (Int × (List (Int × (Int × (Int × Int)))))))) × ((List Int) × (Bool × (Bool × ((List (Int × (Int × (Int × Bool)))) × (Int × (Int × Int))))))))))) (p_ : ((List Int) × (((List Int) × (List Int)) × (Int × Int)))) (t13_ : Int) (t14_ : Int) : St := ⟨[.one .any, .one .any, .one (.ptr 0 0), .one (.ptr 1 0), .one .any, .one (.int .i64 (w64 (1 - p_.2.2.1)))] ++ List.replicate 6 (.one .any) ++ [.one (.fro 110 (.prod (.int .i64) (.prod (.int .i64) (.prod (.int .i64) .bool))) r_.2.2.2.2.2.2.2.1), .one (.int .i64 t13_), .one (.int .i64 t14_)] ++ List.replicate 43 (.one .any), [.var 36 [.str r_.1, .int .i64 r_.2.1, .int .i64 r_.2.2.1, .fro 108 (.prod (.int .u8) (.prod (.int .i64) (.prod (.int .i64) (.slice 169 (.prod (.int .i64) (.prod (.int .i64) (.prod (.int .i64) (.int .i64)))))))) r_.2.2.2.1, .fro 3 (.int .i64) r_.2.2.2.2.1, .bool r_.2.2.2.2.2.1, .bool r_.2.2.2.2.2.2.1, .fro 110 (.prod (.int .i64) (.prod (.int .i64) (.prod (.int .i64) .bool))) r_.2.2.2.2.2.2.2.1, .int .i64 r_.2.2.2.2.2.2.2.2.1, .int .i64 r_.2.2.2.2.2.2.2.2.2.1, .int .i64 r_.2.2.2.2.2.2.2.2.2.2], .var 39 [.fro 3 (.int .i64) p_.1, .fro 3 (.int .i64) p_.2.1.1, .fro 3 (.int .i64) p_.2.1.2, .int .i64 p_.2.2.1, .int .i64 p_.2.2.2]]⟩
theorem ends_Result.step0 (N : Nat) (rec : List Item → St → Option Int) (r_ : (ByteArray × (Int × (Int × ((List (Int × (Int × (Int × (List (Int × (Int × (Int × Int)))))))) × ((List Int) × (Bool × (Bool × ((List (Int × (Int × (Int × Bool)))) × (Int × (Int × Int))))))))))) (p_ : ((List Int) × (((List Int) × (List Int)) × (Int × Int)))) (t13_ : Int) (t14_ : Int) : seg tb (ends_Result.G N) ends_Result.A 0 rec (ends_Result.fin N) segFuel (loopBody ends_Result.k0) (ends_Result.st0 r_ p_ t13_ t14_) = ends_Result.s0 N r_ p_ (fun t13_ t14_ => rec ends_Result.k0 (ends_Result.st0 r_ p_ t13_ t14_)) t13_ t14_ := by kernel_rfl
theorem ends_Result.entry (N : Nat) (rec : List Item → St → Option Int) (x : (argH ends_Result.as).den) : seg tb (ends_Result.G N) ends_Result.A 0 rec (ends_Result.fin N) segFuel [.code (bodyOf Try.f83)] (initSt Try.f83 (encArgs ends_Result.as x) (encMem ends_Result.as x)) = ends_Result.e N (fun t13_ t14_ => rec ends_Result.k0 (ends_Result.st0 x.1 x.2.1 t13_ t14_)) x.1 x.2.1 := by kernel_rfl
theorem ends_Result.runs (N : Nat) (r_ : (ByteArray × (Int × (Int × ((List (Int × (Int × (Int × (List (Int × (Int × (Int × Int)))))))) × ((List Int) × (Bool × (Bool × ((List (Int × (Int × (Int × Bool)))) × (Int × (Int × Int))))))))))) (p_ : ((List Int) × (((List Int) × (List Int)) × (Int × Int)))) : ∀ n, (∀ (t13_ : Int) (t14_ : Int), run tb (ends_Result.G N) ends_Result.A 0 (ends_Result.fin N) n ends_Result.k0 (ends_Result.st0 r_ p_ t13_ t14_) = ends_Result.l0 N r_ p_ n t13_ t14_)
  | 0 => fun _ _ => rfl
  | n + 1 => by
    have h0 := ends_Result.runs N r_ p_ n
    have e0 : (fun (t13_ : Int) (t14_ : Int) => run tb (ends_Result.G N) ends_Result.A 0 (ends_Result.fin N) n ends_Result.k0 (ends_Result.st0 r_ p_ t13_ t14_)) = ends_Result.l0 N r_ p_ n := by funext t13_ t14_; exact h0 t13_ t14_
    have g0 : (∀ (t13_ : Int) (t14_ : Int), run tb (ends_Result.G N) ends_Result.A 0 (ends_Result.fin N) (n + 1) ends_Result.k0 (ends_Result.st0 r_ p_ t13_ t14_) = ends_Result.l0 N r_ p_ (n + 1) t13_ t14_) := by
      intro t13_ t14_
      exact (run_succ (by kernel_rfl)).trans ((ends_Result.step0 N _ r_ p_ t13_ t14_).trans ((congrArg (fun r0 => ends_Result.s0 N r_ p_ r0 t13_ t14_) e0).trans (ends_Result.l0_s N r_ p_ n t13_ t14_).symm))
    exact g0
theorem ends_Result.ok (N : Nat) : FnOk Try.prog 83 (ends_Result.D N) := by
  refine FnOk_of tb_ok (Checked.mixed Try.checked) ⟨Try.f83, Try.func83, by kernel_rfl, by kernel_rfl, fun x y h => ⟨ends_Result.G N, ends_Result.A, N, gamOf_ok (by simp only [List.forall_mem_cons, List.not_mem_nil, false_implies, implies_true, and_true]; exact ⟨⟨ends_holds.ok N, ends_holds.fit N⟩, ⟨ends_wins.ok N, ends_wins.fit N⟩, ⟨moves_Gen.ok N, moves_Gen.fit N⟩⟩), ?_⟩⟩ (ends_Result.fit N)
  rw [absFn_n (n0 := 0) rfl (by kernel_rfl)]
  refine (ends_Result.entry N (run tb (ends_Result.G N) ends_Result.A 0 (ends_Result.fin N) N) x).trans ?_
  have e0 : (fun (t13_ : Int) (t14_ : Int) => run tb (ends_Result.G N) ends_Result.A 0 (ends_Result.fin N) N ends_Result.k0 (ends_Result.st0 x.1 x.2.1 t13_ t14_)) = ends_Result.l0 N x.1 x.2.1 N := by funext t13_ t14_; exact (ends_Result.runs N x.1 x.2.1 N) t13_ t14_
  have h' : (ends_Result.D N).f x = ends_Result.e N (ends_Result.l0 N x.1 x.2.1 N) x.1 x.2.1 := by kernel_rfl
  exact (congrArg (fun r0 => ends_Result.e N r0 x.1 x.2.1) e0).trans (h'.symm.trans h)
/-! ### f46: gamehall/ends.Of -/
def ends_Of.as : List MK := [.d true (.prod .str (.prod (.int .i64) (.prod (.int .i64) (.prod (.slice 108 (.prod (.int .u8) (.prod (.int .i64) (.prod (.int .i64) (.slice 169 (.prod (.int .i64) (.prod (.int .i64) (.prod (.int .i64) (.int .i64))))))))) (.prod (.slice 3 (.int .i64)) (.prod .bool (.prod .bool (.prod (.slice 110 (.prod (.int .i64) (.prod (.int .i64) (.prod (.int .i64) .bool)))) (.prod (.int .i64) (.prod (.int .i64) (.int .i64))))))))))), .d true (.prod (.slice 3 (.int .i64)) (.prod (.prod (.slice 3 (.int .i64)) (.slice 3 (.int .i64))) (.prod (.int .i64) (.int .i64))))]
def ends_Of.rs : List (Bool × HT) := [(false, (.d (.int .i64))), (false, (.d (.int .i64)))]
def ends_Of.lc : List AC := []
def ends_Of.D (N : Nat) : DFn := ⟨ends_Of.as, ends_Of.rs, (Int × Int), fun x => ends_Of N x.1 x.2.1, fun r o => (r.1, r.2.1), fun b => (b.1, (b.2, ())), fun b => ()⟩
theorem ends_Of.fit (N : Nat) : (ends_Of.D N).Fit := ⟨fun _ _ => rfl, fun _ _ => rfl, by kernel_rfl⟩
noncomputable def ends_Of.G (N : Nat) : Gam := gamOf [(27, place_Check.D N), (83, ends_Result.D N)]
def ends_Of.A : Nat → Option LoopAnn := fun _ => none
noncomputable def ends_Of.fin (N : Nat) : St → Option (Int × Int) := resK tb Try.f46.results.toList (decRes (ends_Of.D N) ends_Of.lc)
theorem ends_Of.entry (N : Nat) (rec : List Item → St → Option (Int × Int)) (x : (argH ends_Of.as).den) : seg tb (ends_Of.G N) ends_Of.A 0 rec (ends_Of.fin N) segFuel [.code (bodyOf Try.f46)] (initSt Try.f46 (encArgs ends_Of.as x) (encMem ends_Of.as x)) = ends_Of.e N x.1 x.2.1 := by kernel_rfl
theorem ends_Of.ok (N : Nat) : FnOk Try.prog 46 (ends_Of.D N) := by
  refine FnOk_of tb_ok (Checked.mixed Try.checked) ⟨Try.f46, Try.func46, by kernel_rfl, by kernel_rfl, fun x y h => ⟨ends_Of.G N, ends_Of.A, N, gamOf_ok (by simp only [List.forall_mem_cons, List.not_mem_nil, false_implies, implies_true, and_true]; exact ⟨⟨place_Check.ok N, place_Check.fit N⟩, ⟨ends_Result.ok N, ends_Result.fit N⟩⟩), ?_⟩⟩ (ends_Of.fit N)
  rw [absFn_n (n0 := 0) rfl (by kernel_rfl)]
  exact (ends_Of.entry N _ x).trans h
/-! ### f65: gamehall/rules.Turned -/
def rules_Turned.as : List MK := [.d true (.prod .str (.prod (.int .i64) (.prod (.int .i64) (.prod (.slice 108 (.prod (.int .u8) (.prod (.int .i64) (.prod (.int .i64) (.slice 169 (.prod (.int .i64) (.prod (.int .i64) (.prod (.int .i64) (.int .i64))))))))) (.prod (.slice 3 (.int .i64)) (.prod .bool (.prod .bool (.prod (.slice 110 (.prod (.int .i64) (.prod (.int .i64) (.prod (.int .i64) .bool)))) (.prod (.int .i64) (.prod (.int .i64) (.int .i64))))))))))), .d false (.int .i64)]
def rules_Turned.rs : List (Bool × HT) := [(false, (.d (.int .i64)))]
def rules_Turned.lc : List AC := []
def rules_Turned.D (N : Nat) : DFn := ⟨rules_Turned.as, rules_Turned.rs, Int, fun x => rules_Turned N x.1 x.2.1, fun r o => r.1, fun b => (b, ()), fun b => ()⟩
theorem rules_Turned.fit (N : Nat) : (rules_Turned.D N).Fit := ⟨fun _ _ => rfl, fun _ _ => rfl, by kernel_rfl⟩
noncomputable def rules_Turned.G (N : Nat) : Gam := gamOf []
def rules_Turned.A : Nat → Option LoopAnn := fun _ => none
noncomputable def rules_Turned.fin (N : Nat) : St → Option Int := resK tb Try.f65.results.toList (decRes (rules_Turned.D N) rules_Turned.lc)
theorem rules_Turned.entry (N : Nat) (rec : List Item → St → Option Int) (x : (argH rules_Turned.as).den) : seg tb (rules_Turned.G N) rules_Turned.A 0 rec (rules_Turned.fin N) segFuel [.code (bodyOf Try.f65)] (initSt Try.f65 (encArgs rules_Turned.as x) (encMem rules_Turned.as x)) = rules_Turned.e N x.1 x.2.1 := by kernel_rfl
theorem rules_Turned.ok (N : Nat) : FnOk Try.prog 65 (rules_Turned.D N) := by
  refine FnOk_of tb_ok (Checked.mixed Try.checked) ⟨Try.f65, Try.func65, by kernel_rfl, by kernel_rfl, fun x y h => ⟨rules_Turned.G N, rules_Turned.A, N, gamOf_ok (fun p hp => nomatch hp), ?_⟩⟩ (rules_Turned.fit N)
  rw [absFn_n (n0 := 0) rfl (by kernel_rfl)]
  exact (rules_Turned.entry N _ x).trans h
/-! ### f64: gamehall/rules.Swapped -/
def rules_Swapped.as : List MK := [.d false (.int .i64)]
def rules_Swapped.rs : List (Bool × HT) := [(false, (.d (.int .i64)))]
def rules_Swapped.lc : List AC := []
def rules_Swapped.D (N : Nat) : DFn := ⟨rules_Swapped.as, rules_Swapped.rs, Int, fun x => rules_Swapped N x.1, fun r o => r.1, fun b => (b, ()), fun b => ()⟩
theorem rules_Swapped.fit (N : Nat) : (rules_Swapped.D N).Fit := ⟨fun _ _ => rfl, fun _ _ => rfl, by kernel_rfl⟩
noncomputable def rules_Swapped.G (N : Nat) : Gam := gamOf []
def rules_Swapped.A : Nat → Option LoopAnn := fun _ => none
noncomputable def rules_Swapped.fin (N : Nat) : St → Option Int := resK tb Try.f64.results.toList (decRes (rules_Swapped.D N) rules_Swapped.lc)
theorem rules_Swapped.entry (N : Nat) (rec : List Item → St → Option Int) (x : (argH rules_Swapped.as).den) : seg tb (rules_Swapped.G N) rules_Swapped.A 0 rec (rules_Swapped.fin N) segFuel [.code (bodyOf Try.f64)] (initSt Try.f64 (encArgs rules_Swapped.as x) (encMem rules_Swapped.as x)) = rules_Swapped.e N x.1 := by kernel_rfl
theorem rules_Swapped.ok (N : Nat) : FnOk Try.prog 64 (rules_Swapped.D N) := by
  refine FnOk_of tb_ok (Checked.mixed Try.checked) ⟨Try.f64, Try.func64, by kernel_rfl, by kernel_rfl, fun x y h => ⟨rules_Swapped.G N, rules_Swapped.A, N, gamOf_ok (fun p hp => nomatch hp), ?_⟩⟩ (rules_Swapped.fit N)
  rw [absFn_n (n0 := 0) rfl (by kernel_rfl)]
  exact (rules_Swapped.entry N _ x).trans h
/-! ### f21: gamehall/place.Other -/
def place_Other.as : List MK := [.d true (.prod .str (.prod (.int .i64) (.prod (.int .i64) (.prod (.slice 108 (.prod (.int .u8) (.prod (.int .i64) (.prod (.int .i64) (.slice 169 (.prod (.int .i64) (.prod (.int .i64) (.prod (.int .i64) (.int .i64))))))))) (.prod (.slice 3 (.int .i64)) (.prod .bool (.prod .bool (.prod (.slice 110 (.prod (.int .i64) (.prod (.int .i64) (.prod (.int .i64) .bool)))) (.prod (.int .i64) (.prod (.int .i64) (.int .i64))))))))))), .d true (.prod (.slice 3 (.int .i64)) (.prod (.prod (.slice 3 (.int .i64)) (.slice 3 (.int .i64))) (.prod (.int .i64) (.int .i64))))]
def place_Other.rs : List (Bool × HT) := [(true, (.prod (.own 3 (.int .i64)) (.prod (.prod (.own 3 (.int .i64)) (.own 3 (.int .i64))) (.d (.prod (.int .i64) (.int .i64)))))), (false, (.d (.int .i64)))]
def place_Other.lc : List AC := []
def place_Other.D (N : Nat) : DFn := ⟨place_Other.as, place_Other.rs, (((List Int) × (((List Int) × (List Int)) × (Int × Int))) × Int), fun x => place_Other N x.1 x.2.1, fun r o => (r.1, r.2.1), fun b => (b.1, (b.2, ())), fun b => ()⟩
theorem place_Other.fit (N : Nat) : (place_Other.D N).Fit := ⟨fun _ _ => rfl, fun _ _ => rfl, by kernel_rfl⟩
noncomputable def place_Other.G (N : Nat) : Gam := gamOf [(27, place_Check.D N), (63, place_Copy.D N), (65, rules_Turned.D N), (64, rules_Swapped.D N)]
def place_Other.A : Nat → Option LoopAnn := fun k => bif Nat.beq k 0 then some ⟨[2, 3, 4, 7, 20, 21, 22], [], [], [], [], 7, false⟩ else none
noncomputable def place_Other.fin (N : Nat) : St → Option (((List Int) × (((List Int) × (List Int)) × (Int × Int))) × Int) := resK tb Try.f21.results.toList (decRes (place_Other.D N) place_Other.lc)
noncomputable def place_Other.k0 : List Item := stackAt [.r, .r, .r, .l, .r, .b] (bodyOf Try.f21) []
def place_Other.st0 (r_ : (ByteArray × (Int × (Int × ((List (Int × (Int × (Int × (List (Int × (Int × (Int × Int)))))))) × ((List Int) × (Bool × (Bool × ((List (Int × (Int × (Int × Bool)))) × (Int × (Int × Int))))))))))) (p_ : ((List Int) × (((List Int) × (List Int)) × (Int × Int)))) (t22_ : Int) (m3_ : (List Int)) (m4_ : (List Int)) (m5_ : (List Int)) (out : Int) (out2 : Int) : St := ⟨[.one .any, .one .any, .one (.ptr 0 0), .one (.ptr 1 0), .one (.ptr 2 0), .one .any, .one .any, .one (.ptr 6 0)] ++ List.replicate 12 (.one .any) ++ [.one (.fro 3 (.int .i64) p_.1), .one (.int .i64 (p_.1.length : Int)), .one (.int .i64 t22_)] ++ List.replicate 28 (.one .any), [.var 36 [.str r_.1, .int .i64 r_.2.1, .int .i64 r_.2.2.1, .fro 108 (.prod (.int .u8) (.prod (.int .i64) (.prod (.int .i64) (.slice 169 (.prod (.int .i64) (.prod (.int .i64) (.prod (.int .i64) (.int .i64)))))))) r_.2.2.2.1, .fro 3 (.int .i64) r_.2.2.2.2.1, .bool r_.2.2.2.2.2.1, .bool r_.2.2.2.2.2.2.1, .fro 110 (.prod (.int .i64) (.prod (.int .i64) (.prod (.int .i64) .bool))) r_.2.2.2.2.2.2.2.1, .int .i64 r_.2.2.2.2.2.2.2.2.1, .int .i64 r_.2.2.2.2.2.2.2.2.2.1, .int .i64 r_.2.2.2.2.2.2.2.2.2.2], .var 39 [.fro 3 (.int .i64) p_.1, .fro 3 (.int .i64) p_.2.1.1, .fro 3 (.int .i64) p_.2.1.2, .int .i64 p_.2.2.1, .int .i64 p_.2.2.2], .var 39 [.nilS, .nilS, .nilS, .int .i64 0, .int .i64 0], .row 3 (.int .i64) m3_, .row 3 (.int .i64) m4_, .row 3 (.int .i64) m5_, .var 39 [.own 3, .own 4, .own 5, .int .i64 out, .int .i64 out2]]⟩
theorem place_Other.step0 (N : Nat) (rec : List Item → St → Option (((List Int) × (((List Int) × (List Int)) × (Int × Int))) × Int)) (r_ : (ByteArray × (Int × (Int × ((List (Int × (Int × (Int × (List (Int × (Int × (Int × Int)))))))) × ((List Int) × (Bool × (Bool × ((List (Int × (Int × (Int × Bool)))) × (Int × (Int × Int))))))))))) (p_ : ((List Int) × (((List Int) × (List Int)) × (Int × Int)))) (t22_ : Int) (m3_ : (List Int)) (m4_ : (List Int)) (m5_ : (List Int)) (out : Int) (out2 : Int) : seg tb (place_Other.G N) place_Other.A 0 rec (place_Other.fin N) segFuel (loopBody place_Other.k0) (place_Other.st0 r_ p_ t22_ m3_ m4_ m5_ out out2) = place_Other.s0 N r_ p_ (fun t22_ m3_ m4_ m5_ out out2 => rec place_Other.k0 (place_Other.st0 r_ p_ t22_ m3_ m4_ m5_ out out2)) t22_ m3_ m4_ m5_ out out2 := by kernel_rfl
theorem place_Other.entry (N : Nat) (rec : List Item → St → Option (((List Int) × (((List Int) × (List Int)) × (Int × Int))) × Int)) (x : (argH place_Other.as).den) : seg tb (place_Other.G N) place_Other.A 0 rec (place_Other.fin N) segFuel [.code (bodyOf Try.f21)] (initSt Try.f21 (encArgs place_Other.as x) (encMem place_Other.as x)) = place_Other.e N (fun t22_ m3_ m4_ m5_ out out2 => rec place_Other.k0 (place_Other.st0 x.1 x.2.1 t22_ m3_ m4_ m5_ out out2)) x.1 x.2.1 := by kernel_rfl
theorem place_Other.runs (N : Nat) (r_ : (ByteArray × (Int × (Int × ((List (Int × (Int × (Int × (List (Int × (Int × (Int × Int)))))))) × ((List Int) × (Bool × (Bool × ((List (Int × (Int × (Int × Bool)))) × (Int × (Int × Int))))))))))) (p_ : ((List Int) × (((List Int) × (List Int)) × (Int × Int)))) : ∀ n, (∀ (t22_ : Int) (m3_ : (List Int)) (m4_ : (List Int)) (m5_ : (List Int)) (out : Int) (out2 : Int), run tb (place_Other.G N) place_Other.A 0 (place_Other.fin N) n place_Other.k0 (place_Other.st0 r_ p_ t22_ m3_ m4_ m5_ out out2) = place_Other.l0 N r_ p_ n t22_ m3_ m4_ m5_ out out2)
  | 0 => fun _ _ _ _ _ _ => rfl
  | n + 1 => by
    have h0 := place_Other.runs N r_ p_ n
    have e0 : (fun (t22_ : Int) (m3_ : (List Int)) (m4_ : (List Int)) (m5_ : (List Int)) (out : Int) (out2 : Int) => run tb (place_Other.G N) place_Other.A 0 (place_Other.fin N) n place_Other.k0 (place_Other.st0 r_ p_ t22_ m3_ m4_ m5_ out out2)) = place_Other.l0 N r_ p_ n := by funext t22_ m3_ m4_ m5_ out out2; exact h0 t22_ m3_ m4_ m5_ out out2
    have g0 : (∀ (t22_ : Int) (m3_ : (List Int)) (m4_ : (List Int)) (m5_ : (List Int)) (out : Int) (out2 : Int), run tb (place_Other.G N) place_Other.A 0 (place_Other.fin N) (n + 1) place_Other.k0 (place_Other.st0 r_ p_ t22_ m3_ m4_ m5_ out out2) = place_Other.l0 N r_ p_ (n + 1) t22_ m3_ m4_ m5_ out out2) := by
      intro t22_ m3_ m4_ m5_ out out2
      exact (run_succ (by kernel_rfl)).trans ((place_Other.step0 N _ r_ p_ t22_ m3_ m4_ m5_ out out2).trans ((congrArg (fun r0 => place_Other.s0 N r_ p_ r0 t22_ m3_ m4_ m5_ out out2) e0).trans (place_Other.l0_s N r_ p_ n t22_ m3_ m4_ m5_ out out2).symm))
    exact g0
theorem place_Other.ok (N : Nat) : FnOk Try.prog 21 (place_Other.D N) := by
  refine FnOk_of tb_ok (Checked.mixed Try.checked) ⟨Try.f21, Try.func21, by kernel_rfl, by kernel_rfl, fun x y h => ⟨place_Other.G N, place_Other.A, N, gamOf_ok (by simp only [List.forall_mem_cons, List.not_mem_nil, false_implies, implies_true, and_true]; exact ⟨⟨place_Check.ok N, place_Check.fit N⟩, ⟨place_Copy.ok N, place_Copy.fit N⟩, ⟨rules_Turned.ok N, rules_Turned.fit N⟩, ⟨rules_Swapped.ok N, rules_Swapped.fit N⟩⟩), ?_⟩⟩ (place_Other.fit N)
  rw [absFn_n (n0 := 0) rfl (by kernel_rfl)]
  refine (place_Other.entry N (run tb (place_Other.G N) place_Other.A 0 (place_Other.fin N) N) x).trans ?_
  have e0 : (fun (t22_ : Int) (m3_ : (List Int)) (m4_ : (List Int)) (m5_ : (List Int)) (out : Int) (out2 : Int) => run tb (place_Other.G N) place_Other.A 0 (place_Other.fin N) N place_Other.k0 (place_Other.st0 x.1 x.2.1 t22_ m3_ m4_ m5_ out out2)) = place_Other.l0 N x.1 x.2.1 N := by funext t22_ m3_ m4_ m5_ out out2; exact (place_Other.runs N x.1 x.2.1 N) t22_ m3_ m4_ m5_ out out2
  have h' : (place_Other.D N).f x = place_Other.e N (place_Other.l0 N x.1 x.2.1 N) x.1 x.2.1 := by kernel_rfl
  exact (congrArg (fun r0 => place_Other.e N r0 x.1 x.2.1) e0).trans (h'.symm.trans h)
/-! ### f10: gamehall/gamehallkeep1.EndsExchanged -/
def gamehallkeep1_EndsExchanged.as : List MK := [.d true (.prod .str (.prod (.int .i64) (.prod (.int .i64) (.prod (.slice 108 (.prod (.int .u8) (.prod (.int .i64) (.prod (.int .i64) (.slice 169 (.prod (.int .i64) (.prod (.int .i64) (.prod (.int .i64) (.int .i64))))))))) (.prod (.slice 3 (.int .i64)) (.prod .bool (.prod .bool (.prod (.slice 110 (.prod (.int .i64) (.prod (.int .i64) (.prod (.int .i64) .bool)))) (.prod (.int .i64) (.prod (.int .i64) (.int .i64))))))))))), .d true (.prod (.slice 3 (.int .i64)) (.prod (.prod (.slice 3 (.int .i64)) (.slice 3 (.int .i64))) (.prod (.int .i64) (.int .i64))))]
def gamehallkeep1_EndsExchanged.rs : List (Bool × HT) := [(false, (.d .bool))]
def gamehallkeep1_EndsExchanged.lc : List AC := []
def gamehallkeep1_EndsExchanged.D (N : Nat) : DFn := ⟨gamehallkeep1_EndsExchanged.as, gamehallkeep1_EndsExchanged.rs, Bool, fun x => gamehallkeep1_EndsExchanged N x.1 x.2.1, fun r o => r.1, fun b => (b, ()), fun b => ()⟩
theorem gamehallkeep1_EndsExchanged.fit (N : Nat) : (gamehallkeep1_EndsExchanged.D N).Fit := ⟨fun _ _ => rfl, fun _ _ => rfl, by kernel_rfl⟩
noncomputable def gamehallkeep1_EndsExchanged.G (N : Nat) : Gam := gamOf [(23, gamehallkeep1_near.D N), (22, gamehallkeep1_three.D N), (46, ends_Of.D N), (21, place_Other.D N), (18, gamehallkeep1_fine.D N)]
def gamehallkeep1_EndsExchanged.A : Nat → Option LoopAnn := fun _ => none
noncomputable def gamehallkeep1_EndsExchanged.fin (N : Nat) : St → Option Bool := resK tb Try.f10.results.toList (decRes (gamehallkeep1_EndsExchanged.D N) gamehallkeep1_EndsExchanged.lc)
theorem gamehallkeep1_EndsExchanged.entry (N : Nat) (rec : List Item → St → Option Bool) (x : (argH gamehallkeep1_EndsExchanged.as).den) : seg tb (gamehallkeep1_EndsExchanged.G N) gamehallkeep1_EndsExchanged.A 0 rec (gamehallkeep1_EndsExchanged.fin N) segFuel [.code (bodyOf Try.f10)] (initSt Try.f10 (encArgs gamehallkeep1_EndsExchanged.as x) (encMem gamehallkeep1_EndsExchanged.as x)) = gamehallkeep1_EndsExchanged.e N x.1 x.2.1 := by kernel_rfl
theorem gamehallkeep1_EndsExchanged.ok (N : Nat) : FnOk Try.prog 10 (gamehallkeep1_EndsExchanged.D N) := by
  refine FnOk_of tb_ok (Checked.mixed Try.checked) ⟨Try.f10, Try.func10, by kernel_rfl, by kernel_rfl, fun x y h => ⟨gamehallkeep1_EndsExchanged.G N, gamehallkeep1_EndsExchanged.A, N, gamOf_ok (by simp only [List.forall_mem_cons, List.not_mem_nil, false_implies, implies_true, and_true]; exact ⟨⟨gamehallkeep1_near.ok N, gamehallkeep1_near.fit N⟩, ⟨gamehallkeep1_three.ok N, gamehallkeep1_three.fit N⟩, ⟨ends_Of.ok N, ends_Of.fit N⟩, ⟨place_Other.ok N, place_Other.fit N⟩, ⟨gamehallkeep1_fine.ok N, gamehallkeep1_fine.fit N⟩⟩), ?_⟩⟩ (gamehallkeep1_EndsExchanged.fit N)
  rw [absFn_n (n0 := 0) rfl (by kernel_rfl)]
  exact (gamehallkeep1_EndsExchanged.entry N _ x).trans h
/-! ### f38: gamehall/zob.Mix -/
def zob_Mix.as : List MK := [.d false (.int .i64)]
def zob_Mix.rs : List (Bool × HT) := [(false, (.d (.int .u64)))]
def zob_Mix.lc : List AC := []
def zob_Mix.D (N : Nat) : DFn := ⟨zob_Mix.as, zob_Mix.rs, Int, fun x => zob_Mix N x.1, fun r o => r.1, fun b => (b, ()), fun b => ()⟩
theorem zob_Mix.fit (N : Nat) : (zob_Mix.D N).Fit := ⟨fun _ _ => rfl, fun _ _ => rfl, by kernel_rfl⟩
noncomputable def zob_Mix.G (N : Nat) : Gam := gamOf []
def zob_Mix.A : Nat → Option LoopAnn := fun _ => none
noncomputable def zob_Mix.fin (N : Nat) : St → Option Int := resK tb Try.f38.results.toList (decRes (zob_Mix.D N) zob_Mix.lc)
theorem zob_Mix.entry (N : Nat) (rec : List Item → St → Option Int) (x : (argH zob_Mix.as).den) : seg tb (zob_Mix.G N) zob_Mix.A 0 rec (zob_Mix.fin N) segFuel [.code (bodyOf Try.f38)] (initSt Try.f38 (encArgs zob_Mix.as x) (encMem zob_Mix.as x)) = zob_Mix.e N x.1 := by kernel_rfl
theorem zob_Mix.ok (N : Nat) : FnOk Try.prog 38 (zob_Mix.D N) := by
  refine FnOk_of tb_ok (Checked.mixed Try.checked) ⟨Try.f38, Try.func38, by kernel_rfl, by kernel_rfl, fun x y h => ⟨zob_Mix.G N, zob_Mix.A, N, gamOf_ok (fun p hp => nomatch hp), ?_⟩⟩ (zob_Mix.fit N)
  rw [absFn_n (n0 := 0) rfl (by kernel_rfl)]
  exact (zob_Mix.entry N _ x).trans h
/-! ### f107: gamehall/zob.turn -/
def zob_turn.as : List MK := [.d false (.int .i64)]
def zob_turn.rs : List (Bool × HT) := [(false, (.d (.int .u64)))]
def zob_turn.lc : List AC := []
def zob_turn.D (N : Nat) : DFn := ⟨zob_turn.as, zob_turn.rs, Int, fun x => zob_turn N x.1, fun r o => r.1, fun b => (b, ()), fun b => ()⟩
theorem zob_turn.fit (N : Nat) : (zob_turn.D N).Fit := ⟨fun _ _ => rfl, fun _ _ => rfl, by kernel_rfl⟩
noncomputable def zob_turn.G (N : Nat) : Gam := gamOf [(38, zob_Mix.D N)]
def zob_turn.A : Nat → Option LoopAnn := fun _ => none
noncomputable def zob_turn.fin (N : Nat) : St → Option Int := resK tb Try.f107.results.toList (decRes (zob_turn.D N) zob_turn.lc)
theorem zob_turn.entry (N : Nat) (rec : List Item → St → Option Int) (x : (argH zob_turn.as).den) : seg tb (zob_turn.G N) zob_turn.A 0 rec (zob_turn.fin N) segFuel [.code (bodyOf Try.f107)] (initSt Try.f107 (encArgs zob_turn.as x) (encMem zob_turn.as x)) = zob_turn.e N x.1 := by kernel_rfl
theorem zob_turn.ok (N : Nat) : FnOk Try.prog 107 (zob_turn.D N) := by
  refine FnOk_of tb_ok (Checked.mixed Try.checked) ⟨Try.f107, Try.func107, by kernel_rfl, by kernel_rfl, fun x y h => ⟨zob_turn.G N, zob_turn.A, N, gamOf_ok (by simp only [List.forall_mem_cons, List.not_mem_nil, false_implies, implies_true, and_true]; exact ⟨zob_Mix.ok N, zob_Mix.fit N⟩), ?_⟩⟩ (zob_turn.fit N)
  rw [absFn_n (n0 := 0) rfl (by kernel_rfl)]
  exact (zob_turn.entry N _ x).trans h
/-! ### f108: gamehall/zob.square -/
def zob_square.as : List MK := [.d false (.int .i64), .d false (.int .i64)]
def zob_square.rs : List (Bool × HT) := [(false, (.d (.int .u64)))]
def zob_square.lc : List AC := []
def zob_square.D (N : Nat) : DFn := ⟨zob_square.as, zob_square.rs, Int, fun x => zob_square N x.1 x.2.1, fun r o => r.1, fun b => (b, ()), fun b => ()⟩
theorem zob_square.fit (N : Nat) : (zob_square.D N).Fit := ⟨fun _ _ => rfl, fun _ _ => rfl, by kernel_rfl⟩
noncomputable def zob_square.G (N : Nat) : Gam := gamOf [(38, zob_Mix.D N)]
def zob_square.A : Nat → Option LoopAnn := fun _ => none
noncomputable def zob_square.fin (N : Nat) : St → Option Int := resK tb Try.f108.results.toList (decRes (zob_square.D N) zob_square.lc)
theorem zob_square.entry (N : Nat) (rec : List Item → St → Option Int) (x : (argH zob_square.as).den) : seg tb (zob_square.G N) zob_square.A 0 rec (zob_square.fin N) segFuel [.code (bodyOf Try.f108)] (initSt Try.f108 (encArgs zob_square.as x) (encMem zob_square.as x)) = zob_square.e N x.1 x.2.1 := by kernel_rfl
theorem zob_square.ok (N : Nat) : FnOk Try.prog 108 (zob_square.D N) := by
  refine FnOk_of tb_ok (Checked.mixed Try.checked) ⟨Try.f108, Try.func108, by kernel_rfl, by kernel_rfl, fun x y h => ⟨zob_square.G N, zob_square.A, N, gamOf_ok (by simp only [List.forall_mem_cons, List.not_mem_nil, false_implies, implies_true, and_true]; exact ⟨zob_Mix.ok N, zob_Mix.fit N⟩), ?_⟩⟩ (zob_square.fit N)
  rw [absFn_n (n0 := 0) rfl (by kernel_rfl)]
  exact (zob_square.entry N _ x).trans h
/-! ### f109: gamehall/zob.held -/
def zob_held.as : List MK := [.d false (.int .i64), .d false (.int .i64), .d false (.int .i64)]
def zob_held.rs : List (Bool × HT) := [(false, (.d (.int .u64)))]
def zob_held.lc : List AC := []
def zob_held.D (N : Nat) : DFn := ⟨zob_held.as, zob_held.rs, Int, fun x => zob_held N x.1 x.2.1 x.2.2.1, fun r o => r.1, fun b => (b, ()), fun b => ()⟩
theorem zob_held.fit (N : Nat) : (zob_held.D N).Fit := ⟨fun _ _ => rfl, fun _ _ => rfl, by kernel_rfl⟩
noncomputable def zob_held.G (N : Nat) : Gam := gamOf [(38, zob_Mix.D N)]
def zob_held.A : Nat → Option LoopAnn := fun _ => none
noncomputable def zob_held.fin (N : Nat) : St → Option Int := resK tb Try.f109.results.toList (decRes (zob_held.D N) zob_held.lc)
theorem zob_held.entry (N : Nat) (rec : List Item → St → Option Int) (x : (argH zob_held.as).den) : seg tb (zob_held.G N) zob_held.A 0 rec (zob_held.fin N) segFuel [.code (bodyOf Try.f109)] (initSt Try.f109 (encArgs zob_held.as x) (encMem zob_held.as x)) = zob_held.e N x.1 x.2.1 x.2.2.1 := by kernel_rfl
theorem zob_held.ok (N : Nat) : FnOk Try.prog 109 (zob_held.D N) := by
  refine FnOk_of tb_ok (Checked.mixed Try.checked) ⟨Try.f109, Try.func109, by kernel_rfl, by kernel_rfl, fun x y h => ⟨zob_held.G N, zob_held.A, N, gamOf_ok (by simp only [List.forall_mem_cons, List.not_mem_nil, false_implies, implies_true, and_true]; exact ⟨zob_Mix.ok N, zob_Mix.fit N⟩), ?_⟩⟩ (zob_held.fit N)
  rw [absFn_n (n0 := 0) rfl (by kernel_rfl)]
  exact (zob_held.entry N _ x).trans h
/-! ### f78: gamehall/zob.Of -/
def zob_Of.as : List MK := [.d true (.prod (.slice 3 (.int .i64)) (.prod (.prod (.slice 3 (.int .i64)) (.slice 3 (.int .i64))) (.prod (.int .i64) (.int .i64))))]
def zob_Of.rs : List (Bool × HT) := [(false, (.d (.int .u64)))]
def zob_Of.lc : List AC := []
def zob_Of.D (N : Nat) : DFn := ⟨zob_Of.as, zob_Of.rs, Int, fun x => zob_Of N x.1, fun r o => r.1, fun b => (b, ()), fun b => ()⟩
theorem zob_Of.fit (N : Nat) : (zob_Of.D N).Fit := ⟨fun _ _ => rfl, fun _ _ => rfl, by kernel_rfl⟩
noncomputable def zob_Of.G (N : Nat) : Gam := gamOf [(107, zob_turn.D N), (108, zob_square.D N), (109, zob_held.D N)]
def zob_Of.A : Nat → Option LoopAnn := fun k => bif Nat.beq k 0 then some ⟨[1, 3, 14, 15, 16], [], [], [], [], 1, false⟩ else bif Nat.beq k 2 then some ⟨[3, 28, 29], [], [], [], [], 0, false⟩ else bif Nat.beq k 4 then some ⟨[3, 6, 28, 29, 33, 34, 35], [], [], [], [], 0, false⟩ else none
noncomputable def zob_Of.fin (N : Nat) : St → Option Int := resK tb Try.f78.results.toList (decRes (zob_Of.D N) zob_Of.lc)
noncomputable def zob_Of.k0 : List Item := stackAt [.r, .r, .l, .r, .b] (bodyOf Try.f78) []
def zob_Of.st0 (p_ : ((List Int) × (((List Int) × (List Int)) × (Int × Int)))) (k_ : Int) (t16_ : Int) : St := ⟨[.one .any, .one (.ptr 0 0), .one .any, .one (.int .u64 k_)] ++ List.replicate 10 (.one .any) ++ [.one (.fro 3 (.int .i64) p_.1), .one (.int .i64 (p_.1.length : Int)), .one (.int .i64 t16_)] ++ List.replicate 32 (.one .any), [.var 39 [.fro 3 (.int .i64) p_.1, .fro 3 (.int .i64) p_.2.1.1, .fro 3 (.int .i64) p_.2.1.2, .int .i64 p_.2.2.1, .int .i64 p_.2.2.2]]⟩
noncomputable def zob_Of.k1 : List Item := stackAt [.r, .r, .r, .l, .r, .b] (bodyOf Try.f78) []
def zob_Of.st1 (p_ : ((List Int) × (((List Int) × (List Int)) × (Int × Int)))) (k_ : Int) (t29_ : Int) : St := ⟨List.replicate 3 (.one .any) ++ [.one (.int .u64 k_)] ++ List.replicate 24 (.one .any) ++ [.agg [.fro 3 (.int .i64) p_.2.1.1, .fro 3 (.int .i64) p_.2.1.2], .one (.int .i64 t29_)] ++ List.replicate 19 (.one .any), []⟩
noncomputable def zob_Of.k2 : List Item := stackAt [.r, .r, .r, .l, .r, .b, .w, .r, .r, .l, .b, .r, .r, .b] (bodyOf Try.f78) []
def zob_Of.st2 (p_ : ((List Int) × (((List Int) × (List Int)) × (Int × Int)))) (k_ : Int) (o_ : Int) (t29_ : Int) (t33_ : (List Int)) (t34_ : Int) (t35_ : Int) : St := ⟨List.replicate 3 (.one .any) ++ [.one (.int .u64 k_), .one .any, .one .any, .one (.int .i64 o_)] ++ List.replicate 21 (.one .any) ++ [.agg [.fro 3 (.int .i64) p_.2.1.1, .fro 3 (.int .i64) p_.2.1.2], .one (.int .i64 t29_)] ++ List.replicate 3 (.one .any) ++ [.one (.fro 3 (.int .i64) t33_), .one (.int .i64 t34_), .one (.int .i64 t35_)] ++ List.replicate 13 (.one .any), []⟩
theorem zob_Of.step0 (N : Nat) (rec : List Item → St → Option Int) (p_ : ((List Int) × (((List Int) × (List Int)) × (Int × Int)))) (k_ : Int) (t16_ : Int) : seg tb (zob_Of.G N) zob_Of.A 0 rec (zob_Of.fin N) segFuel (loopBody zob_Of.k0) (zob_Of.st0 p_ k_ t16_) = zob_Of.s0 N p_ (fun k_ t16_ => rec zob_Of.k0 (zob_Of.st0 p_ k_ t16_)) (fun k_ t29_ => rec zob_Of.k1 (zob_Of.st1 p_ k_ t29_)) (fun k_ o_ t29_ t33_ t34_ t35_ => rec zob_Of.k2 (zob_Of.st2 p_ k_ o_ t29_ t33_ t34_ t35_)) k_ t16_ := by kernel_rfl
theorem zob_Of.step1 (N : Nat) (rec : List Item → St → Option Int) (p_ : ((List Int) × (((List Int) × (List Int)) × (Int × Int)))) (k_ : Int) (t29_ : Int) : seg tb (zob_Of.G N) zob_Of.A 0 rec (zob_Of.fin N) segFuel (loopBody zob_Of.k1) (zob_Of.st1 p_ k_ t29_) = zob_Of.s1 N p_ (fun k_ t16_ => rec zob_Of.k0 (zob_Of.st0 p_ k_ t16_)) (fun k_ t29_ => rec zob_Of.k1 (zob_Of.st1 p_ k_ t29_)) (fun k_ o_ t29_ t33_ t34_ t35_ => rec zob_Of.k2 (zob_Of.st2 p_ k_ o_ t29_ t33_ t34_ t35_)) k_ t29_ := by kernel_rfl
theorem zob_Of.step2 (N : Nat) (rec : List Item → St → Option Int) (p_ : ((List Int) × (((List Int) × (List Int)) × (Int × Int)))) (k_ : Int) (o_ : Int) (t29_ : Int) (t33_ : (List Int)) (t34_ : Int) (t35_ : Int) : seg tb (zob_Of.G N) zob_Of.A 0 rec (zob_Of.fin N) segFuel (loopBody zob_Of.k2) (zob_Of.st2 p_ k_ o_ t29_ t33_ t34_ t35_) = zob_Of.s2 N p_ (fun k_ t16_ => rec zob_Of.k0 (zob_Of.st0 p_ k_ t16_)) (fun k_ t29_ => rec zob_Of.k1 (zob_Of.st1 p_ k_ t29_)) (fun k_ o_ t29_ t33_ t34_ t35_ => rec zob_Of.k2 (zob_Of.st2 p_ k_ o_ t29_ t33_ t34_ t35_)) k_ o_ t29_ t33_ t34_ t35_ := by kernel_rfl
theorem zob_Of.entry (N : Nat) (rec : List Item → St → Option Int) (x : (argH zob_Of.as).den) : seg tb (zob_Of.G N) zob_Of.A 0 rec (zob_Of.fin N) segFuel [.code (bodyOf Try.f78)] (initSt Try.f78 (encArgs zob_Of.as x) (encMem zob_Of.as x)) = zob_Of.e N (fun k_ t16_ => rec zob_Of.k0 (zob_Of.st0 x.1 k_ t16_)) (fun k_ t29_ => rec zob_Of.k1 (zob_Of.st1 x.1 k_ t29_)) (fun k_ o_ t29_ t33_ t34_ t35_ => rec zob_Of.k2 (zob_Of.st2 x.1 k_ o_ t29_ t33_ t34_ t35_)) x.1 := by kernel_rfl
theorem zob_Of.runs (N : Nat) (p_ : ((List Int) × (((List Int) × (List Int)) × (Int × Int)))) : ∀ n, (∀ (k_ : Int) (t16_ : Int), run tb (zob_Of.G N) zob_Of.A 0 (zob_Of.fin N) n zob_Of.k0 (zob_Of.st0 p_ k_ t16_) = zob_Of.l0 N p_ n k_ t16_) ∧ (∀ (k_ : Int) (t29_ : Int), run tb (zob_Of.G N) zob_Of.A 0 (zob_Of.fin N) n zob_Of.k1 (zob_Of.st1 p_ k_ t29_) = zob_Of.l1 N p_ n k_ t29_) ∧ (∀ (k_ : Int) (o_ : Int) (t29_ : Int) (t33_ : (List Int)) (t34_ : Int) (t35_ : Int), run tb (zob_Of.G N) zob_Of.A 0 (zob_Of.fin N) n zob_Of.k2 (zob_Of.st2 p_ k_ o_ t29_ t33_ t34_ t35_) = zob_Of.l2 N p_ n k_ o_ t29_ t33_ t34_ t35_)
  | 0 => ⟨fun _ _ => rfl, fun _ _ => rfl, fun _ _ _ _ _ _ => rfl⟩
  | n + 1 => by
    obtain ⟨h0, h1, h2⟩ := zob_Of.runs N p_ n
    have e0 : (fun (k_ : Int) (t16_ : Int) => run tb (zob_Of.G N) zob_Of.A 0 (zob_Of.fin N) n zob_Of.k0 (zob_Of.st0 p_ k_ t16_)) = zob_Of.l0 N p_ n := by funext k_ t16_; exact h0 k_ t16_
    have e1 : (fun (k_ : Int) (t29_ : Int) => run tb (zob_Of.G N) zob_Of.A 0 (zob_Of.fin N) n zob_Of.k1 (zob_Of.st1 p_ k_ t29_)) = zob_Of.l1 N p_ n := by funext k_ t29_; exact h1 k_ t29_
    have e2 : (fun (k_ : Int) (o_ : Int) (t29_ : Int) (t33_ : (List Int)) (t34_ : Int) (t35_ : Int) => run tb (zob_Of.G N) zob_Of.A 0 (zob_Of.fin N) n zob_Of.k2 (zob_Of.st2 p_ k_ o_ t29_ t33_ t34_ t35_)) = zob_Of.l2 N p_ n := by funext k_ o_ t29_ t33_ t34_ t35_; exact h2 k_ o_ t29_ t33_ t34_ t35_
    have g0 : (∀ (k_ : Int) (t16_ : Int), run tb (zob_Of.G N) zob_Of.A 0 (zob_Of.fin N) (n + 1) zob_Of.k0 (zob_Of.st0 p_ k_ t16_) = zob_Of.l0 N p_ (n + 1) k_ t16_) := by
      intro k_ t16_
      exact (run_succ (by kernel_rfl)).trans ((zob_Of.step0 N _ p_ k_ t16_).trans ((congr (congr (congrArg (fun r0 r1 r2 => zob_Of.s0 N p_ r0 r1 r2 k_ t16_) e0) e1) e2).trans (zob_Of.l0_s N p_ n k_ t16_).symm))
    have g1 : (∀ (k_ : Int) (t29_ : Int), run tb (zob_Of.G N) zob_Of.A 0 (zob_Of.fin N) (n + 1) zob_Of.k1 (zob_Of.st1 p_ k_ t29_) = zob_Of.l1 N p_ (n + 1) k_ t29_) := by
      intro k_ t29_
      exact (run_succ (by kernel_rfl)).trans ((zob_Of.step1 N _ p_ k_ t29_).trans ((congr (congr (congrArg (fun r0 r1 r2 => zob_Of.s1 N p_ r0 r1 r2 k_ t29_) e0) e1) e2).trans (zob_Of.l1_s N p_ n k_ t29_).symm))
    have g2 : (∀ (k_ : Int) (o_ : Int) (t29_ : Int) (t33_ : (List Int)) (t34_ : Int) (t35_ : Int), run tb (zob_Of.G N) zob_Of.A 0 (zob_Of.fin N) (n + 1) zob_Of.k2 (zob_Of.st2 p_ k_ o_ t29_ t33_ t34_ t35_) = zob_Of.l2 N p_ (n + 1) k_ o_ t29_ t33_ t34_ t35_) := by
      intro k_ o_ t29_ t33_ t34_ t35_
      exact (run_succ (by kernel_rfl)).trans ((zob_Of.step2 N _ p_ k_ o_ t29_ t33_ t34_ t35_).trans ((congr (congr (congrArg (fun r0 r1 r2 => zob_Of.s2 N p_ r0 r1 r2 k_ o_ t29_ t33_ t34_ t35_) e0) e1) e2).trans (zob_Of.l2_s N p_ n k_ o_ t29_ t33_ t34_ t35_).symm))
    exact ⟨g0, g1, g2⟩
theorem zob_Of.ok (N : Nat) : FnOk Try.prog 78 (zob_Of.D N) := by
  refine FnOk_of tb_ok (Checked.mixed Try.checked) ⟨Try.f78, Try.func78, by kernel_rfl, by kernel_rfl, fun x y h => ⟨zob_Of.G N, zob_Of.A, N, gamOf_ok (by simp only [List.forall_mem_cons, List.not_mem_nil, false_implies, implies_true, and_true]; exact ⟨⟨zob_turn.ok N, zob_turn.fit N⟩, ⟨zob_square.ok N, zob_square.fit N⟩, ⟨zob_held.ok N, zob_held.fit N⟩⟩), ?_⟩⟩ (zob_Of.fit N)
  rw [absFn_n (n0 := 0) rfl (by kernel_rfl)]
  refine (zob_Of.entry N (run tb (zob_Of.G N) zob_Of.A 0 (zob_Of.fin N) N) x).trans ?_
  have e0 : (fun (k_ : Int) (t16_ : Int) => run tb (zob_Of.G N) zob_Of.A 0 (zob_Of.fin N) N zob_Of.k0 (zob_Of.st0 x.1 k_ t16_)) = zob_Of.l0 N x.1 N := by funext k_ t16_; exact (zob_Of.runs N x.1 N).1 k_ t16_
  have e1 : (fun (k_ : Int) (t29_ : Int) => run tb (zob_Of.G N) zob_Of.A 0 (zob_Of.fin N) N zob_Of.k1 (zob_Of.st1 x.1 k_ t29_)) = zob_Of.l1 N x.1 N := by funext k_ t29_; exact (zob_Of.runs N x.1 N).2.1 k_ t29_
  have e2 : (fun (k_ : Int) (o_ : Int) (t29_ : Int) (t33_ : (List Int)) (t34_ : Int) (t35_ : Int) => run tb (zob_Of.G N) zob_Of.A 0 (zob_Of.fin N) N zob_Of.k2 (zob_Of.st2 x.1 k_ o_ t29_ t33_ t34_ t35_)) = zob_Of.l2 N x.1 N := by funext k_ o_ t29_ t33_ t34_ t35_; exact (zob_Of.runs N x.1 N).2.2 k_ o_ t29_ t33_ t34_ t35_
  have h' : (zob_Of.D N).f x = zob_Of.e N (zob_Of.l0 N x.1 N) (zob_Of.l1 N x.1 N) (zob_Of.l2 N x.1 N) x.1 := by kernel_rfl
  exact (congr (congr (congrArg (fun r0 r1 r2 => zob_Of.e N r0 r1 r2 x.1) e0) e1) e2).trans (h'.symm.trans h)
/-! ### f37: gamehall/zob.Key -/
def zob_Key.as : List MK := [.d true (.prod .str (.prod (.int .i64) (.prod (.int .i64) (.prod (.slice 108 (.prod (.int .u8) (.prod (.int .i64) (.prod (.int .i64) (.slice 169 (.prod (.int .i64) (.prod (.int .i64) (.prod (.int .i64) (.int .i64))))))))) (.prod (.slice 3 (.int .i64)) (.prod .bool (.prod .bool (.prod (.slice 110 (.prod (.int .i64) (.prod (.int .i64) (.prod (.int .i64) .bool)))) (.prod (.int .i64) (.prod (.int .i64) (.int .i64))))))))))), .d true (.prod (.slice 3 (.int .i64)) (.prod (.prod (.slice 3 (.int .i64)) (.slice 3 (.int .i64))) (.prod (.int .i64) (.int .i64))))]
def zob_Key.rs : List (Bool × HT) := [(false, (.d (.int .u64))), (false, (.d (.int .i64)))]
def zob_Key.lc : List AC := []
def zob_Key.D (N : Nat) : DFn := ⟨zob_Key.as, zob_Key.rs, (Int × Int), fun x => zob_Key N x.1 x.2.1, fun r o => (r.1, r.2.1), fun b => (b.1, (b.2, ())), fun b => ()⟩
theorem zob_Key.fit (N : Nat) : (zob_Key.D N).Fit := ⟨fun _ _ => rfl, fun _ _ => rfl, by kernel_rfl⟩
noncomputable def zob_Key.G (N : Nat) : Gam := gamOf [(27, place_Check.D N), (78, zob_Of.D N)]
def zob_Key.A : Nat → Option LoopAnn := fun _ => none
noncomputable def zob_Key.fin (N : Nat) : St → Option (Int × Int) := resK tb Try.f37.results.toList (decRes (zob_Key.D N) zob_Key.lc)
theorem zob_Key.entry (N : Nat) (rec : List Item → St → Option (Int × Int)) (x : (argH zob_Key.as).den) : seg tb (zob_Key.G N) zob_Key.A 0 rec (zob_Key.fin N) segFuel [.code (bodyOf Try.f37)] (initSt Try.f37 (encArgs zob_Key.as x) (encMem zob_Key.as x)) = zob_Key.e N x.1 x.2.1 := by kernel_rfl
theorem zob_Key.ok (N : Nat) : FnOk Try.prog 37 (zob_Key.D N) := by
  refine FnOk_of tb_ok (Checked.mixed Try.checked) ⟨Try.f37, Try.func37, by kernel_rfl, by kernel_rfl, fun x y h => ⟨zob_Key.G N, zob_Key.A, N, gamOf_ok (by simp only [List.forall_mem_cons, List.not_mem_nil, false_implies, implies_true, and_true]; exact ⟨⟨place_Check.ok N, place_Check.fit N⟩, ⟨zob_Of.ok N, zob_Of.fit N⟩⟩), ?_⟩⟩ (zob_Key.fit N)
  rw [absFn_n (n0 := 0) rfl (by kernel_rfl)]
  exact (zob_Key.entry N _ x).trans h
/-! ### f84: gamehall/zob.Next -/
def zob_Next.as : List MK := [.d true (.prod .str (.prod (.int .i64) (.prod (.int .i64) (.prod (.slice 108 (.prod (.int .u8) (.prod (.int .i64) (.prod (.int .i64) (.slice 169 (.prod (.int .i64) (.prod (.int .i64) (.prod (.int .i64) (.int .i64))))))))) (.prod (.slice 3 (.int .i64)) (.prod .bool (.prod .bool (.prod (.slice 110 (.prod (.int .i64) (.prod (.int .i64) (.prod (.int .i64) .bool)))) (.prod (.int .i64) (.prod (.int .i64) (.int .i64))))))))))), .d true (.prod (.slice 3 (.int .i64)) (.prod (.prod (.slice 3 (.int .i64)) (.slice 3 (.int .i64))) (.prod (.int .i64) (.int .i64)))), .d true (.prod (.int .i64) (.prod (.int .i64) (.int .i64))), .d false (.int .u64)]
def zob_Next.rs : List (Bool × HT) := [(false, (.d (.int .u64)))]
def zob_Next.lc : List AC := []
def zob_Next.D (N : Nat) : DFn := ⟨zob_Next.as, zob_Next.rs, Int, fun x => zob_Next N x.1 x.2.1 x.2.2.1 x.2.2.2.1, fun r o => r.1, fun b => (b, ()), fun b => ()⟩
theorem zob_Next.fit (N : Nat) : (zob_Next.D N).Fit := ⟨fun _ _ => rfl, fun _ _ => rfl, by kernel_rfl⟩
noncomputable def zob_Next.G (N : Nat) : Gam := gamOf [(107, zob_turn.D N), (109, zob_held.D N), (108, zob_square.D N), (88, moves_Kind.D N), (117, moves_Cell.D N)]
def zob_Next.A : Nat → Option LoopAnn := fun _ => none
noncomputable def zob_Next.fin (N : Nat) : St → Option Int := resK tb Try.f84.results.toList (decRes (zob_Next.D N) zob_Next.lc)
theorem zob_Next.entry (N : Nat) (rec : List Item → St → Option Int) (x : (argH zob_Next.as).den) : seg tb (zob_Next.G N) zob_Next.A 0 rec (zob_Next.fin N) segFuel [.code (bodyOf Try.f84)] (initSt Try.f84 (encArgs zob_Next.as x) (encMem zob_Next.as x)) = zob_Next.e N x.1 x.2.1 x.2.2.1 x.2.2.2.1 := by kernel_rfl
theorem zob_Next.ok (N : Nat) : FnOk Try.prog 84 (zob_Next.D N) := by
  refine FnOk_of tb_ok (Checked.mixed Try.checked) ⟨Try.f84, Try.func84, by kernel_rfl, by kernel_rfl, fun x y h => ⟨zob_Next.G N, zob_Next.A, N, gamOf_ok (by simp only [List.forall_mem_cons, List.not_mem_nil, false_implies, implies_true, and_true]; exact ⟨⟨zob_turn.ok N, zob_turn.fit N⟩, ⟨zob_held.ok N, zob_held.fit N⟩, ⟨zob_square.ok N, zob_square.fit N⟩, ⟨moves_Kind.ok N, moves_Kind.fit N⟩, ⟨moves_Cell.ok N, moves_Cell.fit N⟩⟩), ?_⟩⟩ (zob_Next.fit N)
  rw [absFn_n (n0 := 0) rfl (by kernel_rfl)]
  exact (zob_Next.entry N _ x).trans h
/-! ### f49: gamehall/zob.Change -/
def zob_Change.as : List MK := [.d true (.prod .str (.prod (.int .i64) (.prod (.int .i64) (.prod (.slice 108 (.prod (.int .u8) (.prod (.int .i64) (.prod (.int .i64) (.slice 169 (.prod (.int .i64) (.prod (.int .i64) (.prod (.int .i64) (.int .i64))))))))) (.prod (.slice 3 (.int .i64)) (.prod .bool (.prod .bool (.prod (.slice 110 (.prod (.int .i64) (.prod (.int .i64) (.prod (.int .i64) .bool)))) (.prod (.int .i64) (.prod (.int .i64) (.int .i64))))))))))), .d true (.prod (.slice 3 (.int .i64)) (.prod (.prod (.slice 3 (.int .i64)) (.slice 3 (.int .i64))) (.prod (.int .i64) (.int .i64)))), .d true (.prod (.int .i64) (.prod (.int .i64) (.int .i64)))]
def zob_Change.rs : List (Bool × HT) := [(false, (.d (.int .u64))), (false, (.d (.int .i64)))]
def zob_Change.lc : List AC := []
def zob_Change.D (N : Nat) : DFn := ⟨zob_Change.as, zob_Change.rs, (Int × Int), fun x => zob_Change N x.1 x.2.1 x.2.2.1, fun r o => (r.1, r.2.1), fun b => (b.1, (b.2, ())), fun b => ()⟩
theorem zob_Change.fit (N : Nat) : (zob_Change.D N).Fit := ⟨fun _ _ => rfl, fun _ _ => rfl, by kernel_rfl⟩
noncomputable def zob_Change.G (N : Nat) : Gam := gamOf [(27, place_Check.D N), (80, moves_Gen.D N), (43, slices_Contains_api_Move_api_Move.D N), (78, zob_Of.D N), (84, zob_Next.D N)]
def zob_Change.A : Nat → Option LoopAnn := fun _ => none
noncomputable def zob_Change.fin (N : Nat) : St → Option (Int × Int) := resK tb Try.f49.results.toList (decRes (zob_Change.D N) zob_Change.lc)
theorem zob_Change.entry (N : Nat) (rec : List Item → St → Option (Int × Int)) (x : (argH zob_Change.as).den) : seg tb (zob_Change.G N) zob_Change.A 0 rec (zob_Change.fin N) segFuel [.code (bodyOf Try.f49)] (initSt Try.f49 (encArgs zob_Change.as x) (encMem zob_Change.as x)) = zob_Change.e N x.1 x.2.1 x.2.2.1 := by kernel_rfl
theorem zob_Change.ok (N : Nat) : FnOk Try.prog 49 (zob_Change.D N) := by
  refine FnOk_of tb_ok (Checked.mixed Try.checked) ⟨Try.f49, Try.func49, by kernel_rfl, by kernel_rfl, fun x y h => ⟨zob_Change.G N, zob_Change.A, N, gamOf_ok (by simp only [List.forall_mem_cons, List.not_mem_nil, false_implies, implies_true, and_true]; exact ⟨⟨place_Check.ok N, place_Check.fit N⟩, ⟨moves_Gen.ok N, moves_Gen.fit N⟩, ⟨slices_Contains_api_Move_api_Move.ok N, slices_Contains_api_Move_api_Move.fit N⟩, ⟨zob_Of.ok N, zob_Of.fit N⟩, ⟨zob_Next.ok N, zob_Next.fit N⟩⟩), ?_⟩⟩ (zob_Change.fit N)
  rw [absFn_n (n0 := 0) rfl (by kernel_rfl)]
  exact (zob_Change.entry N _ x).trans h
/-! ### f36: gamehall/gamehallkeep1.keyed -/
def gamehallkeep1_keyed.as : List MK := []
def gamehallkeep1_keyed.rs : List (Bool × HT) := [(false, (.d .bool))]
def gamehallkeep1_keyed.lc : List AC := []
def gamehallkeep1_keyed.D (N : Nat) : DFn := ⟨gamehallkeep1_keyed.as, gamehallkeep1_keyed.rs, Bool, fun x => gamehallkeep1_keyed N, fun r o => r.1, fun b => (b, ()), fun b => ()⟩
theorem gamehallkeep1_keyed.fit (N : Nat) : (gamehallkeep1_keyed.D N).Fit := ⟨fun _ _ => rfl, fun _ _ => rfl, by kernel_rfl⟩
noncomputable def gamehallkeep1_keyed.G (N : Nat) : Gam := gamOf [(22, gamehallkeep1_three.D N), (23, gamehallkeep1_near.D N), (37, zob_Key.D N), (77, gamehallkeep1_put.D N), (49, zob_Change.D N), (18, gamehallkeep1_fine.D N), (38, zob_Mix.D N)]
def gamehallkeep1_keyed.A : Nat → Option LoopAnn := fun _ => none
noncomputable def gamehallkeep1_keyed.fin (N : Nat) : St → Option Bool := resK tb Try.f36.results.toList (decRes (gamehallkeep1_keyed.D N) gamehallkeep1_keyed.lc)
theorem gamehallkeep1_keyed.entry (N : Nat) (rec : List Item → St → Option Bool) (x : (argH gamehallkeep1_keyed.as).den) : seg tb (gamehallkeep1_keyed.G N) gamehallkeep1_keyed.A 0 rec (gamehallkeep1_keyed.fin N) segFuel [.code (bodyOf Try.f36)] (initSt Try.f36 (encArgs gamehallkeep1_keyed.as x) (encMem gamehallkeep1_keyed.as x)) = gamehallkeep1_keyed.e N := by kernel_rfl
theorem gamehallkeep1_keyed.ok (N : Nat) : FnOk Try.prog 36 (gamehallkeep1_keyed.D N) := by
  refine FnOk_of tb_ok (Checked.mixed Try.checked) ⟨Try.f36, Try.func36, by kernel_rfl, by kernel_rfl, fun x y h => ⟨gamehallkeep1_keyed.G N, gamehallkeep1_keyed.A, N, gamOf_ok (by simp only [List.forall_mem_cons, List.not_mem_nil, false_implies, implies_true, and_true]; exact ⟨⟨gamehallkeep1_three.ok N, gamehallkeep1_three.fit N⟩, ⟨gamehallkeep1_near.ok N, gamehallkeep1_near.fit N⟩, ⟨zob_Key.ok N, zob_Key.fit N⟩, ⟨gamehallkeep1_put.ok N, gamehallkeep1_put.fit N⟩, ⟨zob_Change.ok N, zob_Change.fit N⟩, ⟨gamehallkeep1_fine.ok N, gamehallkeep1_fine.fit N⟩, ⟨zob_Mix.ok N, zob_Mix.fit N⟩⟩), ?_⟩⟩ (gamehallkeep1_keyed.fit N)
  rw [absFn_n (n0 := 0) rfl (by kernel_rfl)]
  exact (gamehallkeep1_keyed.entry N _ x).trans h
/-! ### f48: gamehall/gamehallkeep1.some[gamehall/api.Move] -/
def gamehallkeep1_some_api_Move.as : List MK := [.d false (.slice 68 (.prod (.int .i64) (.prod (.int .i64) (.int .i64)))), .d false (.int .i64)]
def gamehallkeep1_some_api_Move.rs : List (Bool × HT) := [(true, (.d (.prod (.int .i64) (.prod (.int .i64) (.int .i64)))))]
def gamehallkeep1_some_api_Move.lc : List AC := []
def gamehallkeep1_some_api_Move.D (N : Nat) : DFn := ⟨gamehallkeep1_some_api_Move.as, gamehallkeep1_some_api_Move.rs, (Int × (Int × Int)), fun x => gamehallkeep1_some_api_Move N x.1 x.2.1, fun r o => r.1, fun b => (b, ()), fun b => ()⟩
theorem gamehallkeep1_some_api_Move.fit (N : Nat) : (gamehallkeep1_some_api_Move.D N).Fit := ⟨fun _ _ => rfl, fun _ _ => rfl, by kernel_rfl⟩
noncomputable def gamehallkeep1_some_api_Move.G (N : Nat) : Gam := gamOf []
def gamehallkeep1_some_api_Move.A : Nat → Option LoopAnn := fun _ => none
noncomputable def gamehallkeep1_some_api_Move.fin (N : Nat) : St → Option (Int × (Int × Int)) := resK tb Try.f48.results.toList (decRes (gamehallkeep1_some_api_Move.D N) gamehallkeep1_some_api_Move.lc)
theorem gamehallkeep1_some_api_Move.entry (N : Nat) (rec : List Item → St → Option (Int × (Int × Int))) (x : (argH gamehallkeep1_some_api_Move.as).den) : seg tb (gamehallkeep1_some_api_Move.G N) gamehallkeep1_some_api_Move.A 0 rec (gamehallkeep1_some_api_Move.fin N) segFuel [.code (bodyOf Try.f48)] (initSt Try.f48 (encArgs gamehallkeep1_some_api_Move.as x) (encMem gamehallkeep1_some_api_Move.as x)) = gamehallkeep1_some_api_Move.e N x.1 x.2.1 := by kernel_rfl
theorem gamehallkeep1_some_api_Move.ok (N : Nat) : FnOk Try.prog 48 (gamehallkeep1_some_api_Move.D N) := by
  refine FnOk_of tb_ok (Checked.mixed Try.checked) ⟨Try.f48, Try.func48, by kernel_rfl, by kernel_rfl, fun x y h => ⟨gamehallkeep1_some_api_Move.G N, gamehallkeep1_some_api_Move.A, N, gamOf_ok (fun p hp => nomatch hp), ?_⟩⟩ (gamehallkeep1_some_api_Move.fit N)
  rw [absFn_n (n0 := 0) rfl (by kernel_rfl)]
  exact (gamehallkeep1_some_api_Move.entry N _ x).trans h
/-! ### f12: gamehall/gamehallkeep1.ZobChanges -/
def gamehallkeep1_ZobChanges.as : List MK := [.d true (.prod .str (.prod (.int .i64) (.prod (.int .i64) (.prod (.slice 108 (.prod (.int .u8) (.prod (.int .i64) (.prod (.int .i64) (.slice 169 (.prod (.int .i64) (.prod (.int .i64) (.prod (.int .i64) (.int .i64))))))))) (.prod (.slice 3 (.int .i64)) (.prod .bool (.prod .bool (.prod (.slice 110 (.prod (.int .i64) (.prod (.int .i64) (.prod (.int .i64) .bool)))) (.prod (.int .i64) (.prod (.int .i64) (.int .i64))))))))))), .d true (.prod (.slice 3 (.int .i64)) (.prod (.prod (.slice 3 (.int .i64)) (.slice 3 (.int .i64))) (.prod (.int .i64) (.int .i64)))), .d false (.int .i64)]
def gamehallkeep1_ZobChanges.rs : List (Bool × HT) := [(false, (.d .bool))]
def gamehallkeep1_ZobChanges.lc : List AC := []
def gamehallkeep1_ZobChanges.D (N : Nat) : DFn := ⟨gamehallkeep1_ZobChanges.as, gamehallkeep1_ZobChanges.rs, Bool, fun x => gamehallkeep1_ZobChanges N x.1 x.2.1 x.2.2.1, fun r o => r.1, fun b => (b, ()), fun b => ()⟩
theorem gamehallkeep1_ZobChanges.fit (N : Nat) : (gamehallkeep1_ZobChanges.D N).Fit := ⟨fun _ _ => rfl, fun _ _ => rfl, by kernel_rfl⟩
noncomputable def gamehallkeep1_ZobChanges.G (N : Nat) : Gam := gamOf [(36, gamehallkeep1_keyed.D N), (39, gamehallkeep1_plays.D N), (40, moves_All.D N), (48, gamehallkeep1_some_api_Move.D N), (41, moves_After.D N), (37, zob_Key.D N), (49, zob_Change.D N), (18, gamehallkeep1_fine.D N)]
def gamehallkeep1_ZobChanges.A : Nat → Option LoopAnn := fun _ => none
noncomputable def gamehallkeep1_ZobChanges.fin (N : Nat) : St → Option Bool := resK tb Try.f12.results.toList (decRes (gamehallkeep1_ZobChanges.D N) gamehallkeep1_ZobChanges.lc)
theorem gamehallkeep1_ZobChanges.entry (N : Nat) (rec : List Item → St → Option Bool) (x : (argH gamehallkeep1_ZobChanges.as).den) : seg tb (gamehallkeep1_ZobChanges.G N) gamehallkeep1_ZobChanges.A 0 rec (gamehallkeep1_ZobChanges.fin N) segFuel [.code (bodyOf Try.f12)] (initSt Try.f12 (encArgs gamehallkeep1_ZobChanges.as x) (encMem gamehallkeep1_ZobChanges.as x)) = gamehallkeep1_ZobChanges.e N x.1 x.2.1 x.2.2.1 := by kernel_rfl
theorem gamehallkeep1_ZobChanges.ok (N : Nat) : FnOk Try.prog 12 (gamehallkeep1_ZobChanges.D N) := by
  refine FnOk_of tb_ok (Checked.mixed Try.checked) ⟨Try.f12, Try.func12, by kernel_rfl, by kernel_rfl, fun x y h => ⟨gamehallkeep1_ZobChanges.G N, gamehallkeep1_ZobChanges.A, N, gamOf_ok (by simp only [List.forall_mem_cons, List.not_mem_nil, false_implies, implies_true, and_true]; exact ⟨⟨gamehallkeep1_keyed.ok N, gamehallkeep1_keyed.fit N⟩, ⟨gamehallkeep1_plays.ok N, gamehallkeep1_plays.fit N⟩, ⟨moves_All.ok N, moves_All.fit N⟩, ⟨gamehallkeep1_some_api_Move.ok N, gamehallkeep1_some_api_Move.fit N⟩, ⟨moves_After.ok N, moves_After.fit N⟩, ⟨zob_Key.ok N, zob_Key.fit N⟩, ⟨zob_Change.ok N, zob_Change.fit N⟩, ⟨gamehallkeep1_fine.ok N, gamehallkeep1_fine.fit N⟩⟩), ?_⟩⟩ (gamehallkeep1_ZobChanges.fit N)
  rw [absFn_n (n0 := 0) rfl (by kernel_rfl)]
  exact (gamehallkeep1_ZobChanges.entry N _ x).trans h
/-! ### f13: gamehall/gamehallkeep1.EndsOpen -/
def gamehallkeep1_EndsOpen.as : List MK := [.d true (.prod .str (.prod (.int .i64) (.prod (.int .i64) (.prod (.slice 108 (.prod (.int .u8) (.prod (.int .i64) (.prod (.int .i64) (.slice 169 (.prod (.int .i64) (.prod (.int .i64) (.prod (.int .i64) (.int .i64))))))))) (.prod (.slice 3 (.int .i64)) (.prod .bool (.prod .bool (.prod (.slice 110 (.prod (.int .i64) (.prod (.int .i64) (.prod (.int .i64) .bool)))) (.prod (.int .i64) (.prod (.int .i64) (.int .i64))))))))))), .d true (.prod (.slice 3 (.int .i64)) (.prod (.prod (.slice 3 (.int .i64)) (.slice 3 (.int .i64))) (.prod (.int .i64) (.int .i64))))]
def gamehallkeep1_EndsOpen.rs : List (Bool × HT) := [(false, (.d .bool))]
def gamehallkeep1_EndsOpen.lc : List AC := []
def gamehallkeep1_EndsOpen.D (N : Nat) : DFn := ⟨gamehallkeep1_EndsOpen.as, gamehallkeep1_EndsOpen.rs, Bool, fun x => gamehallkeep1_EndsOpen N x.1 x.2.1, fun r o => r.1, fun b => (b, ()), fun b => ()⟩
theorem gamehallkeep1_EndsOpen.fit (N : Nat) : (gamehallkeep1_EndsOpen.D N).Fit := ⟨fun _ _ => rfl, fun _ _ => rfl, by kernel_rfl⟩
noncomputable def gamehallkeep1_EndsOpen.G (N : Nat) : Gam := gamOf [(22, gamehallkeep1_three.D N), (23, gamehallkeep1_near.D N), (46, ends_Of.D N), (39, gamehallkeep1_plays.D N), (40, moves_All.D N)]
def gamehallkeep1_EndsOpen.A : Nat → Option LoopAnn := fun _ => none
noncomputable def gamehallkeep1_EndsOpen.fin (N : Nat) : St → Option Bool := resK tb Try.f13.results.toList (decRes (gamehallkeep1_EndsOpen.D N) gamehallkeep1_EndsOpen.lc)
theorem gamehallkeep1_EndsOpen.entry (N : Nat) (rec : List Item → St → Option Bool) (x : (argH gamehallkeep1_EndsOpen.as).den) : seg tb (gamehallkeep1_EndsOpen.G N) gamehallkeep1_EndsOpen.A 0 rec (gamehallkeep1_EndsOpen.fin N) segFuel [.code (bodyOf Try.f13)] (initSt Try.f13 (encArgs gamehallkeep1_EndsOpen.as x) (encMem gamehallkeep1_EndsOpen.as x)) = gamehallkeep1_EndsOpen.e N x.1 x.2.1 := by kernel_rfl
theorem gamehallkeep1_EndsOpen.ok (N : Nat) : FnOk Try.prog 13 (gamehallkeep1_EndsOpen.D N) := by
  refine FnOk_of tb_ok (Checked.mixed Try.checked) ⟨Try.f13, Try.func13, by kernel_rfl, by kernel_rfl, fun x y h => ⟨gamehallkeep1_EndsOpen.G N, gamehallkeep1_EndsOpen.A, N, gamOf_ok (by simp only [List.forall_mem_cons, List.not_mem_nil, false_implies, implies_true, and_true]; exact ⟨⟨gamehallkeep1_three.ok N, gamehallkeep1_three.fit N⟩, ⟨gamehallkeep1_near.ok N, gamehallkeep1_near.fit N⟩, ⟨ends_Of.ok N, ends_Of.fit N⟩, ⟨gamehallkeep1_plays.ok N, gamehallkeep1_plays.fit N⟩, ⟨moves_All.ok N, moves_All.fit N⟩⟩), ?_⟩⟩ (gamehallkeep1_EndsOpen.fit N)
  rw [absFn_n (n0 := 0) rfl (by kernel_rfl)]
  exact (gamehallkeep1_EndsOpen.entry N _ x).trans h
end Go.Proofs.Ytjmcjiklfhmdlaa.Am
