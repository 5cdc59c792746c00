/- PRINTED by gen.py: the abstract machine evaluates the loaded code to these functions. -/
import Derived.Test.YtfihdjjilofklaaGreatFnp2
import Derived.Test.YtfihdjjilofklaaGreatChecked
import Derived.Eval
set_option linter.unusedVariables false
set_option linter.unusedSimpArgs false
namespace Go.Proofs.YtfihdjjilofklaaGreat.Am
open Go
variable (N : Nat)
abbrev tI : Ty := .int .i64
abbrev qa : Ty := .prod .str (.prod tI (.prod tI (.prod (.slice 89 (.prod (.int .u8) (.prod tI (.prod tI (.slice 122 (.prod tI (.prod tI (.prod tI tI)))))))) (.prod (.slice 3 tI) (.prod .bool (.prod .bool (.prod (.slice 91 (.prod tI (.prod tI (.prod tI .bool)))) (.prod tI (.prod tI tI)))))))))
abbrev qb : Ty := .prod (.int .u8) (.prod tI (.prod tI (.slice 122 (.prod tI (.prod tI (.prod tI tI))))))
abbrev qc : Ty := .prod (.slice 3 tI) (.prod (.prod (.slice 3 tI) (.slice 3 tI)) (.prod tI tI))
abbrev qd : Ty := .prod tI (.prod tI tI)
abbrev qe : Ty := .prod tI (.prod tI (.prod tI .bool))
abbrev qf : Ty := .prod qd (.prod tI (.prod tI (.prod .bool (.prod tI (.int .u64)))))
abbrev oi (x : Int) : AV := .one (.int .i64 x)
abbrev oA : AV := .one .any
abbrev rA (n : Nat) : List AV := List.replicate n (.one .any)
abbrev vR (x : TRules) : AO := .var 26 [.str x.1, .int .i64 x.2.1, .int .i64 x.2.2.1, .fro 89 qb x.2.2.2.1, .fro 3 tI x.2.2.2.2.1, .bool x.2.2.2.2.2.1, .bool x.2.2.2.2.2.2.1, .fro 91 qe x.2.2.2.2.2.2.2.1, .int .i64 x.2.2.2.2.2.2.2.2.1, .int .i64 x.2.2.2.2.2.2.2.2.2.1, .int .i64 x.2.2.2.2.2.2.2.2.2.2]
abbrev vP (x : TPos) : AO := .var 33 [.fro 3 tI x.1, .fro 3 tI x.2.1.1, .fro 3 tI x.2.1.2, .int .i64 x.2.2.1, .int .i64 x.2.2.2]
theorem gc {P : Program} {k : Nat} {D : DFn} {l : List (Nat × DFn)} (h : FnOk P k D ∧ D.Fit) (t : ∀ p ∈ l, FnOk P p.1 p.2 ∧ p.2.Fit) : ∀ p ∈ (k, D) :: l, FnOk P p.1 p.2 ∧ p.2.Fit := List.forall_mem_cons.2 ⟨h, t⟩
theorem gn {P : Program} : ∀ p ∈ ([] : List (Nat × DFn)), FnOk P p.1 p.2 ∧ p.2.Fit := fun _ h => nomatch h
abbrev RK (R : Type) := List Item → St → Option R
abbrev LA := Nat → Option LoopAnn
set_option maxRecDepth 100000
def ti2 : TI := ⟨.int .i64, 1, 8, some tI, [.int .i64 0], false, none, none⟩
def ti3 : TI := ⟨.int .i64, 1, 8, some tI, [.int .i64 0], false, some (false, tI), none⟩
def ti4 : TI := ⟨.bool, 1, 1, some .bool, [.bool false], false, none, none⟩
def ti5 : TI := ⟨.int .u8, 1, 1, some (.int .u8), [.int .u8 0], false, none, none⟩
def ti9 : TI := ⟨.str, 1, 16, some .str, [.str (⟨#[]⟩ : ByteArray)], false, some (false, .str), none⟩
def ti22 : TI := ⟨.slice 89, 1, 24, some (.slice 89 qb), [.nilS], false, none, none⟩
def ti23 : TI := ⟨.slice 3, 1, 24, some (.slice 3 tI), [.nilS], false, none, none⟩
def ti24 : TI := ⟨.slice 91, 1, 24, some (.slice 91 qe), [.nilS], false, none, none⟩
def ti26 : TI := ⟨.struct [(0, 9), (1, 3), (2, 3), (3, 22), (4, 23), (5, 4), (6, 4), (7, 24), (8, 3), (9, 3), (10, 3)], 11, 136, some qa, [.str (⟨#[]⟩ : ByteArray), .int .i64 0, .int .i64 0, .nilS, .nilS, .bool false, .bool false, .nilS, .int .i64 0, .int .i64 0, .int .i64 0], false, none, none⟩
def ti28 : TI := ⟨.ptr 63, 1, 8, none, [.nilP], false, none, none⟩
def ti31 : TI := ⟨.array 2 23, 2, 48, some (.prod (.slice 3 tI) (.slice 3 tI)), [.nilS, .nilS], false, none, none⟩
def ti33 : TI := ⟨.struct [(0, 23), (1, 31), (3, 3), (4, 3)], 5, 88, some qc, [.nilS, .nilS, .nilS, .int .i64 0, .int .i64 0], false, none, none⟩
def ti35 : TI := ⟨.struct [(0, 3), (1, 3)], 2, 16, some (.prod tI tI), [.int .i64 0, .int .i64 0], true, none, none⟩
def ti36 : TI := ⟨.int .i64, 1, 8, some tI, [.int .i64 0], false, none, none⟩
def ti39 : TI := ⟨.ptr 72, 1, 8, none, [.nilP], false, none, none⟩
def ti43 : TI := ⟨.slice 80, 1, 24, some (.slice 80 qd), [.nilS], false, none, none⟩
def ti57 : TI := ⟨.slice 33, 1, 24, some (.slice 33 qc), [.nilS], false, none, none⟩
def ti58 : TI := ⟨.slice 23, 1, 24, some (.slice 23 (.slice 3 tI)), [.nilS], false, none, none⟩
def ti59 : TI := ⟨.slice 43, 1, 24, some (.slice 43 (.slice 80 qd)), [.nilS], false, none, none⟩
def ti60 : TI := ⟨.slice 35, 1, 24, some (.slice 35 (.prod tI tI)), [.nilS], false, none, none⟩
def ti61 : TI := ⟨.map 9 3, 1, 8, none, [.nilM], false, none, none⟩
def ti63 : TI := ⟨.struct [(0, 26), (11, 57), (12, 58), (13, 59), (14, 60), (15, 61)], 16, 240, none, [.str (⟨#[]⟩ : ByteArray), .int .i64 0, .int .i64 0, .nilS, .nilS, .bool false, .bool false, .nilS, .int .i64 0, .int .i64 0, .int .i64 0, .nilS, .nilS, .nilS, .nilS, .nilM], false, none, none⟩
def ti67 : TI := ⟨.struct [], 0, 0, some .unit, [], false, none, none⟩
def ti68 : TI := ⟨.struct [], 0, 0, some .unit, [], false, none, none⟩
def ti70 : TI := ⟨.struct [(0, 67), (0, 68), (0, 2)], 1, 8, some (.prod .unit (.prod .unit tI)), [.int .i64 0], false, none, none⟩
def ti72 : TI := ⟨.struct [(0, 26), (11, 28), (12, 70)], 13, 152, none, [.str (⟨#[]⟩ : ByteArray), .int .i64 0, .int .i64 0, .nilS, .nilS, .bool false, .bool false, .nilS, .int .i64 0, .int .i64 0, .int .i64 0, .nilP, .int .i64 0], false, none, none⟩
def ti73 : TI := ⟨.slice 36, 1, 24, some (.slice 36 tI), [.nilS], false, none, none⟩
def ti75 : TI := ⟨.other, 1, 8, none, [.nilF], false, none, none⟩
def ti80 : TI := ⟨.struct [(0, 3), (1, 3), (2, 3)], 3, 24, some qd, [.int .i64 0, .int .i64 0, .int .i64 0], true, none, none⟩
def ti82 : TI := ⟨.ptr 113, 1, 8, none, [.nilP], false, none, none⟩
def ti87 : TI := ⟨.slice 122, 1, 24, some (.slice 122 (.prod tI qd)), [.nilS], false, none, none⟩
def ti89 : TI := ⟨.struct [(0, 5), (1, 3), (2, 3), (3, 87)], 4, 48, some qb, [.int .u8 0, .int .i64 0, .int .i64 0, .nilS], false, none, none⟩
def ti91 : TI := ⟨.struct [(0, 3), (1, 3), (2, 3), (3, 4)], 4, 32, some qe, [.int .i64 0, .int .i64 0, .int .i64 0, .bool false], false, none, none⟩
def ti99 : TI := ⟨.ptr 131, 1, 8, none, [.nilP], false, none, none⟩
def ti113 : TI := ⟨.struct [(0, 26), (11, 57), (12, 43)], 13, 184, some (.prod qa (.prod (.slice 33 qc) (.slice 80 qd))), [.str (⟨#[]⟩ : ByteArray), .int .i64 0, .int .i64 0, .nilS, .nilS, .bool false, .bool false, .nilS, .int .i64 0, .int .i64 0, .int .i64 0, .nilS, .nilS], false, none, none⟩
def ti122 : TI := ⟨.struct [(0, 3), (1, 3), (2, 3), (3, 3)], 4, 32, some (.prod tI qd), [.int .i64 0, .int .i64 0, .int .i64 0, .int .i64 0], false, none, none⟩
def ti125 : TI := ⟨.other, 1, 8, none, [.nilF], false, none, none⟩
def ti127 : TI := ⟨.int .u64, 1, 8, some (.int .u64), [.int .u64 0], false, none, none⟩
def ti129 : TI := ⟨.slice 157, 1, 24, some (.slice 157 qf), [.nilS], false, none, none⟩
def ti131 : TI := ⟨.struct [(0, 26), (11, 33), (16, 127), (17, 129)], 18, 256, some (.prod qa (.prod qc (.prod (.int .u64) (.slice 157 qf)))), [.str (⟨#[]⟩ : ByteArray), .int .i64 0, .int .i64 0, .nilS, .nilS, .bool false, .bool false, .nilS, .int .i64 0, .int .i64 0, .int .i64 0, .nilS, .nilS, .nilS, .int .i64 0, .int .i64 0, .int .u64 0, .nilS], false, none, none⟩
def ti140 : TI := ⟨.slice 5, 1, 24, some (.slice 5 (.int .u8)), [.nilS], false, none, none⟩
def ti141 : TI := ⟨.int .u64, 1, 8, some (.int .u64), [.int .u64 0], false, none, none⟩
def ti149 : TI := ⟨.ptr 151, 1, 8, none, [.nilP], false, none, none⟩
def ti151 : TI := ⟨.struct [(0, 3)], 1, 8, some tI, [.int .i64 0], false, none, none⟩
def ti157 : TI := ⟨.struct [(0, 80), (3, 3), (4, 3), (5, 4), (6, 3), (7, 127)], 8, 64, some qf, [.int .i64 0, .int .i64 0, .int .i64 0, .int .i64 0, .int .i64 0, .bool false, .int .i64 0, .int .u64 0], false, none, none⟩
def ti161 : TI := ⟨.array 2 3, 2, 16, some (.prod tI tI), [.int .i64 0, .int .i64 0], false, none, none⟩
def ti162 : TI := ⟨.array 4 161, 8, 64, some (.prod (.prod tI tI) (.prod (.prod tI tI) (.prod (.prod tI tI) (.prod tI tI)))), [.int .i64 0, .int .i64 0, .int .i64 0, .int .i64 0, .int .i64 0, .int .i64 0, .int .i64 0, .int .i64 0], false, none, none⟩
def ti164 : TI := ⟨.int .i64, 1, 8, some tI, [.int .i64 0], false, none, none⟩
def ti174 : TI := ⟨.int .u64, 1, 8, some (.int .u64), [.int .u64 0], false, none, none⟩
def ti178 : TI := ⟨.ptr 3, 1, 8, none, [.nilP], false, none, none⟩
def ti180 : TI := ⟨.ptr 174, 1, 8, none, [.nilP], false, none, none⟩
def tbt : TT := (.node 72 ti72 (.node 35 ti35 (.node 23 ti23 (.node 5 ti5 (.node 3 ti3 (.node 2 ti2 .nil .nil) (.node 4 ti4 .nil .nil)) (.node 22 ti22 (.node 9 ti9 .nil .nil) .nil)) (.node 28 ti28 (.node 26 ti26 (.node 24 ti24 .nil .nil) .nil) (.node 33 ti33 (.node 31 ti31 .nil .nil) .nil))) (.node 60 ti60 (.node 57 ti57 (.node 39 ti39 (.node 36 ti36 .nil .nil) (.node 43 ti43 .nil .nil)) (.node 59 ti59 (.node 58 ti58 .nil .nil) .nil)) (.node 67 ti67 (.node 63 ti63 (.node 61 ti61 .nil .nil) .nil) (.node 70 ti70 (.node 68 ti68 .nil .nil) .nil)))) (.node 129 ti129 (.node 91 ti91 (.node 82 ti82 (.node 75 ti75 (.node 73 ti73 .nil .nil) (.node 80 ti80 .nil .nil)) (.node 89 ti89 (.node 87 ti87 .nil .nil) .nil)) (.node 122 ti122 (.node 113 ti113 (.node 99 ti99 .nil .nil) .nil) (.node 127 ti127 (.node 125 ti125 .nil .nil) .nil))) (.node 161 ti161 (.node 149 ti149 (.node 140 ti140 (.node 131 ti131 .nil .nil) (.node 141 ti141 .nil .nil)) (.node 157 ti157 (.node 151 ti151 .nil .nil) .nil)) (.node 174 ti174 (.node 164 ti164 (.node 162 ti162 .nil .nil) .nil) (.node 180 ti180 (.node 178 ti178 .nil .nil) .nil)))))
def tb : Tab := tbt.get
theorem ti2_ok : TIok Tryz.prog tb 2 ti2 := TIok_mk (by kernel_rfl) (by kernel_rfl) ⟨rfl, rfl⟩ (by kernel_rfl) rfl trivial trivial (by kernel_rfl)
theorem ti3_ok : TIok Tryz.prog tb 3 ti3 := TIok_mk (by kernel_rfl) (by kernel_rfl) ⟨rfl, rfl⟩ (by kernel_rfl) rfl ⟨rfl, rfl, Maps.int_keyed (by kernel_rfl : Tryz.prog.underlying 3 = some (TypeDesc.int .i64)), fun x hx => ⟨_, Maps.keyOf_int_mk (by kernel_rfl : Tryz.prog.underlying 3 = some (TypeDesc.int .i64)) hx⟩, by kernel_rfl⟩ trivial (by kernel_rfl)
theorem ti4_ok : TIok Tryz.prog tb 4 ti4 := TIok_mk (by kernel_rfl) (by kernel_rfl) ⟨rfl, rfl⟩ (by kernel_rfl) rfl trivial trivial (by kernel_rfl)
theorem ti5_ok : TIok Tryz.prog tb 5 ti5 := TIok_mk (by kernel_rfl) (by kernel_rfl) ⟨rfl, rfl⟩ (by kernel_rfl) rfl trivial trivial (by kernel_rfl)
theorem ti9_ok : TIok Tryz.prog tb 9 ti9 := TIok_mk (by kernel_rfl) (by kernel_rfl) ⟨rfl, rfl⟩ (by kernel_rfl) rfl ⟨rfl, rfl, Maps.string_keyed (by kernel_rfl : Tryz.prog.underlying 9 = some TypeDesc.string), fun x hx => ⟨_, WideMaps.keyOf_string_mk (by kernel_rfl : Tryz.prog.underlying 9 = some TypeDesc.string) (of_decide_eq_true hx)⟩, by kernel_rfl⟩ trivial (by kernel_rfl)
theorem ti22_ok : TIok Tryz.prog tb 22 ti22 := TIok_mk (by kernel_rfl) (by kernel_rfl) ⟨rfl, rfl⟩ (by kernel_rfl) rfl trivial trivial (by kernel_rfl)
theorem ti23_ok : TIok Tryz.prog tb 23 ti23 := TIok_mk (by kernel_rfl) (by kernel_rfl) ⟨rfl, rfl⟩ (by kernel_rfl) rfl trivial trivial (by kernel_rfl)
theorem ti24_ok : TIok Tryz.prog tb 24 ti24 := TIok_mk (by kernel_rfl) (by kernel_rfl) ⟨rfl, rfl⟩ (by kernel_rfl) rfl trivial trivial (by kernel_rfl)
theorem ti26_ok : TIok Tryz.prog tb 26 ti26 := TIok_mk (by kernel_rfl) (by kernel_rfl) ⟨rfl, rfl⟩ (by kernel_rfl) rfl trivial trivial (by kernel_rfl)
theorem ti28_ok : TIok Tryz.prog tb 28 ti28 := TIok_mk (by kernel_rfl) (by kernel_rfl) trivial (by kernel_rfl) rfl trivial trivial (by kernel_rfl)
theorem ti31_ok : TIok Tryz.prog tb 31 ti31 := TIok_mk (by kernel_rfl) (by kernel_rfl) ⟨rfl, rfl⟩ (by kernel_rfl) rfl trivial trivial (by kernel_rfl)
theorem ti33_ok : TIok Tryz.prog tb 33 ti33 := TIok_mk (by kernel_rfl) (by kernel_rfl) ⟨rfl, rfl⟩ (by kernel_rfl) rfl trivial trivial (by kernel_rfl)
theorem ti35_ok : TIok Tryz.prog tb 35 ti35 := TIok_mk (by kernel_rfl) (by kernel_rfl) ⟨rfl, rfl⟩ (by kernel_rfl) rfl trivial trivial (by kernel_rfl)
theorem ti36_ok : TIok Tryz.prog tb 36 ti36 := TIok_mk (by kernel_rfl) (by kernel_rfl) ⟨rfl, rfl⟩ (by kernel_rfl) rfl trivial trivial (by kernel_rfl)
theorem ti39_ok : TIok Tryz.prog tb 39 ti39 := TIok_mk (by kernel_rfl) (by kernel_rfl) trivial (by kernel_rfl) rfl trivial trivial (by kernel_rfl)
theorem ti43_ok : TIok Tryz.prog tb 43 ti43 := TIok_mk (by kernel_rfl) (by kernel_rfl) ⟨rfl, rfl⟩ (by kernel_rfl) rfl trivial trivial (by kernel_rfl)
theorem ti57_ok : TIok Tryz.prog tb 57 ti57 := TIok_mk (by kernel_rfl) (by kernel_rfl) ⟨rfl, rfl⟩ (by kernel_rfl) rfl trivial trivial (by kernel_rfl)
theorem ti58_ok : TIok Tryz.prog tb 58 ti58 := TIok_mk (by kernel_rfl) (by kernel_rfl) ⟨rfl, rfl⟩ (by kernel_rfl) rfl trivial trivial (by kernel_rfl)
theorem ti59_ok : TIok Tryz.prog tb 59 ti59 := TIok_mk (by kernel_rfl) (by kernel_rfl) ⟨rfl, rfl⟩ (by kernel_rfl) rfl trivial trivial (by kernel_rfl)
theorem ti60_ok : TIok Tryz.prog tb 60 ti60 := TIok_mk (by kernel_rfl) (by kernel_rfl) ⟨rfl, rfl⟩ (by kernel_rfl) rfl trivial trivial (by kernel_rfl)
theorem ti61_ok : TIok Tryz.prog tb 61 ti61 := TIok_mk (by kernel_rfl) (by kernel_rfl) trivial (by kernel_rfl) rfl trivial trivial (by kernel_rfl)
theorem ti63_ok : TIok Tryz.prog tb 63 ti63 := TIok_mk (by kernel_rfl) (by kernel_rfl) trivial (by kernel_rfl) rfl trivial trivial (by kernel_rfl)
theorem ti67_ok : TIok Tryz.prog tb 67 ti67 := TIok_mk (by kernel_rfl) (by kernel_rfl) ⟨rfl, rfl⟩ (by kernel_rfl) rfl trivial trivial (by kernel_rfl)
theorem ti68_ok : TIok Tryz.prog tb 68 ti68 := TIok_mk (by kernel_rfl) (by kernel_rfl) ⟨rfl, rfl⟩ (by kernel_rfl) rfl trivial trivial (by kernel_rfl)
theorem ti70_ok : TIok Tryz.prog tb 70 ti70 := TIok_mk (by kernel_rfl) (by kernel_rfl) ⟨rfl, rfl⟩ (by kernel_rfl) rfl trivial trivial (by kernel_rfl)
theorem ti72_ok : TIok Tryz.prog tb 72 ti72 := TIok_mk (by kernel_rfl) (by kernel_rfl) trivial (by kernel_rfl) rfl trivial trivial (by kernel_rfl)
theorem ti73_ok : TIok Tryz.prog tb 73 ti73 := TIok_mk (by kernel_rfl) (by kernel_rfl) ⟨rfl, rfl⟩ (by kernel_rfl) rfl trivial trivial (by kernel_rfl)
theorem ti75_ok : TIok Tryz.prog tb 75 ti75 := TIok_mk (by kernel_rfl) (by kernel_rfl) trivial (by kernel_rfl) rfl trivial trivial (by kernel_rfl)
theorem ti80_ok : TIok Tryz.prog tb 80 ti80 := TIok_mk (by kernel_rfl) (by kernel_rfl) ⟨rfl, rfl⟩ (by kernel_rfl) rfl trivial trivial (by kernel_rfl)
theorem ti82_ok : TIok Tryz.prog tb 82 ti82 := TIok_mk (by kernel_rfl) (by kernel_rfl) trivial (by kernel_rfl) rfl trivial trivial (by kernel_rfl)
theorem ti87_ok : TIok Tryz.prog tb 87 ti87 := TIok_mk (by kernel_rfl) (by kernel_rfl) ⟨rfl, rfl⟩ (by kernel_rfl) rfl trivial trivial (by kernel_rfl)
theorem ti89_ok : TIok Tryz.prog tb 89 ti89 := TIok_mk (by kernel_rfl) (by kernel_rfl) ⟨rfl, rfl⟩ (by kernel_rfl) rfl trivial trivial (by kernel_rfl)
theorem ti91_ok : TIok Tryz.prog tb 91 ti91 := TIok_mk (by kernel_rfl) (by kernel_rfl) ⟨rfl, rfl⟩ (by kernel_rfl) rfl trivial trivial (by kernel_rfl)
theorem ti99_ok : TIok Tryz.prog tb 99 ti99 := TIok_mk (by kernel_rfl) (by kernel_rfl) trivial (by kernel_rfl) rfl trivial trivial (by kernel_rfl)
theorem ti113_ok : TIok Tryz.prog tb 113 ti113 := TIok_mk (by kernel_rfl) (by kernel_rfl) ⟨rfl, rfl⟩ (by kernel_rfl) rfl trivial trivial (by kernel_rfl)
theorem ti122_ok : TIok Tryz.prog tb 122 ti122 := TIok_mk (by kernel_rfl) (by kernel_rfl) ⟨rfl, rfl⟩ (by kernel_rfl) rfl trivial trivial (by kernel_rfl)
theorem ti125_ok : TIok Tryz.prog tb 125 ti125 := TIok_mk (by kernel_rfl) (by kernel_rfl) trivial (by kernel_rfl) rfl trivial trivial (by kernel_rfl)
theorem ti127_ok : TIok Tryz.prog tb 127 ti127 := TIok_mk (by kernel_rfl) (by kernel_rfl) ⟨rfl, rfl⟩ (by kernel_rfl) rfl trivial trivial (by kernel_rfl)
theorem ti129_ok : TIok Tryz.prog tb 129 ti129 := TIok_mk (by kernel_rfl) (by kernel_rfl) ⟨rfl, rfl⟩ (by kernel_rfl) rfl trivial trivial (by kernel_rfl)
theorem ti131_ok : TIok Tryz.prog tb 131 ti131 := TIok_mk (by kernel_rfl) (by kernel_rfl) ⟨rfl, rfl⟩ (by kernel_rfl) rfl trivial trivial (by kernel_rfl)
theorem ti140_ok : TIok Tryz.prog tb 140 ti140 := TIok_mk (by kernel_rfl) (by kernel_rfl) ⟨rfl, rfl⟩ (by kernel_rfl) rfl trivial trivial (by kernel_rfl)
theorem ti141_ok : TIok Tryz.prog tb 141 ti141 := TIok_mk (by kernel_rfl) (by kernel_rfl) ⟨rfl, rfl⟩ (by kernel_rfl) rfl trivial trivial (by kernel_rfl)
theorem ti149_ok : TIok Tryz.prog tb 149 ti149 := TIok_mk (by kernel_rfl) (by kernel_rfl) trivial (by kernel_rfl) rfl trivial trivial (by kernel_rfl)
theorem ti151_ok : TIok Tryz.prog tb 151 ti151 := TIok_mk (by kernel_rfl) (by kernel_rfl) ⟨rfl, rfl⟩ (by kernel_rfl) rfl trivial trivial (by kernel_rfl)
theorem ti157_ok : TIok Tryz.prog tb 157 ti157 := TIok_mk (by kernel_rfl) (by kernel_rfl) ⟨rfl, rfl⟩ (by kernel_rfl) rfl trivial trivial (by kernel_rfl)
theorem ti161_ok : TIok Tryz.prog tb 161 ti161 := TIok_mk (by kernel_rfl) (by kernel_rfl) ⟨rfl, rfl⟩ (by kernel_rfl) rfl trivial trivial (by kernel_rfl)
theorem ti162_ok : TIok Tryz.prog tb 162 ti162 := TIok_mk (by kernel_rfl) (by kernel_rfl) ⟨rfl, rfl⟩ (by kernel_rfl) rfl trivial trivial (by kernel_rfl)
theorem ti164_ok : TIok Tryz.prog tb 164 ti164 := TIok_mk (by kernel_rfl) (by kernel_rfl) ⟨rfl, rfl⟩ (by kernel_rfl) rfl trivial trivial (by kernel_rfl)
theorem ti174_ok : TIok Tryz.prog tb 174 ti174 := TIok_mk (by kernel_rfl) (by kernel_rfl) ⟨rfl, rfl⟩ (by kernel_rfl) rfl trivial trivial (by kernel_rfl)
theorem ti178_ok : TIok Tryz.prog tb 178 ti178 := TIok_mk (by kernel_rfl) (by kernel_rfl) trivial (by kernel_rfl) rfl trivial trivial (by kernel_rfl)
theorem ti180_ok : TIok Tryz.prog tb 180 ti180 := TIok_mk (by kernel_rfl) (by kernel_rfl) trivial (by kernel_rfl) rfl trivial trivial (by kernel_rfl)
theorem tb_ok : TabOk Tryz.prog tb := TT.ok ⟨ti72_ok, ⟨ti35_ok, ⟨ti23_ok, ⟨ti5_ok, ⟨ti3_ok, ⟨ti2_ok, trivial, trivial⟩, ⟨ti4_ok, trivial, trivial⟩⟩, ⟨ti22_ok, ⟨ti9_ok, trivial, trivial⟩, trivial⟩⟩, ⟨ti28_ok, ⟨ti26_ok, ⟨ti24_ok, trivial, trivial⟩, trivial⟩, ⟨ti33_ok, ⟨ti31_ok, trivial, trivial⟩, trivial⟩⟩⟩, ⟨ti60_ok, ⟨ti57_ok, ⟨ti39_ok, ⟨ti36_ok, trivial, trivial⟩, ⟨ti43_ok, trivial, trivial⟩⟩, ⟨ti59_ok, ⟨ti58_ok, trivial, trivial⟩, trivial⟩⟩, ⟨ti67_ok, ⟨ti63_ok, ⟨ti61_ok, trivial, trivial⟩, trivial⟩, ⟨ti70_ok, ⟨ti68_ok, trivial, trivial⟩, trivial⟩⟩⟩⟩, ⟨ti129_ok, ⟨ti91_ok, ⟨ti82_ok, ⟨ti75_ok, ⟨ti73_ok, trivial, trivial⟩, ⟨ti80_ok, trivial, trivial⟩⟩, ⟨ti89_ok, ⟨ti87_ok, trivial, trivial⟩, trivial⟩⟩, ⟨ti122_ok, ⟨ti113_ok, ⟨ti99_ok, trivial, trivial⟩, trivial⟩, ⟨ti127_ok, ⟨ti125_ok, trivial, trivial⟩, trivial⟩⟩⟩, ⟨ti161_ok, ⟨ti149_ok, ⟨ti140_ok, ⟨ti131_ok, trivial, trivial⟩, ⟨ti141_ok, trivial, trivial⟩⟩, ⟨ti157_ok, ⟨ti151_ok, trivial, trivial⟩, trivial⟩⟩, ⟨ti174_ok, ⟨ti164_ok, ⟨ti162_ok, trivial, trivial⟩, trivial⟩, ⟨ti180_ok, ⟨ti178_ok, trivial, trivial⟩, trivial⟩⟩⟩⟩⟩
def Q11.as : List MK := []
def Q11.rs : List (Bool × HT) := [(true, (.prod (.d .str) (.prod (.d tI) (.prod (.d tI) (.prod (.own 89 qb) (.prod (.own 3 tI) (.prod (.d .bool) (.prod (.d .bool) (.prod (.own 91 qe) (.d qd))))))))))]
def Q11.lc : List AC := []
def Q11.D : DFn := ⟨Q11.as, Q11.rs, TRules, fun x => Q11 N, fun r o => r.1, fun b => (b, ()), fun b => (), none⟩
theorem Q11.fit : (Q11.D N).Fit := ⟨fun _ _ => rfl, fun _ _ => rfl, by kernel_rfl, (fun _ _ h => nomatch h), by kernel_rfl⟩
noncomputable def Q11.G (N : Nat) : Gam := gamOf []
def Q11.A : LA := fun _ => none
noncomputable def Q11.fin : St → Option TRules := resK tb Tryz.f11.results.toList (decRes (Q11.D N) Q11.lc)
theorem Q11.entry (rec : RK TRules) (x : (argH Q11.as).den) : seg tb (Q11.G N) Q11.A 0 rec (Q11.fin N) segFuel [.code (bodyOf Tryz.f11)] (initSt Tryz.f11 (encArgs Q11.as x) (encMem Q11.as x)) = Q11.e N := by kernel_rfl
theorem Q11.ok : FnOk Tryz.prog 11 (Q11.D N) := by
 refine FnOk_of tb_ok (Checked.mixed Tryz.checked) ⟨Tryz.f11, Tryz.func11, by kernel_rfl, by kernel_rfl, fun x y h => ⟨Q11.G N, Q11.A, N, gamOf_ok (fun p hp => nomatch hp), ?_⟩⟩ (Q11.fit N)
 rw [absFn_n (n0 := 0) rfl (by kernel_rfl)]
 exact (Q11.entry N _ x).trans h
def Q50.as : List MK := [.d false .str]
def Q50.rs : List (Bool × HT) := [(false, (.d .bool))]
def Q50.lc : List AC := []
def Q50.D : DFn := ⟨Q50.as, Q50.rs, Bool, fun x => Q50 N x.1, fun r o => r.1, fun b => (b, ()), fun b => (), none⟩
theorem Q50.fit : (Q50.D N).Fit := ⟨fun _ _ => rfl, fun _ _ => rfl, by kernel_rfl, (fun _ _ h => nomatch h), by kernel_rfl⟩
noncomputable def Q50.G (N : Nat) : Gam := gamOf []
def Q50.A : LA := fun k => bif Nat.beq k 0 then some ⟨[0, 22, 23], [], [], [], [], 0, false⟩ else none
noncomputable def Q50.fin : St → Option Bool := resK tb Tryz.f50.results.toList (decRes (Q50.D N) Q50.lc)
noncomputable def Q50.k0 : List Item := stackAt [.r, .r, .l, .r, .b] (bodyOf Tryz.f50) []
def Q50.st0 (s_ : ByteArray) (t23_ : Int) : St := ⟨[.one (.str s_)] ++ rA 21 ++ [oi (s_.size : Int), oi t23_] ++ rA 25, []⟩
theorem Q50.step0 (rec : RK Bool) (s_ : ByteArray) (t23_ : Int) : seg tb (Q50.G N) Q50.A 0 rec (Q50.fin N) segFuel (loopBody Q50.k0) (Q50.st0 s_ t23_) = Q50.s0 N s_ (fun t23_ => rec Q50.k0 (Q50.st0 s_ t23_)) t23_ := by kernel_rfl
theorem Q50.entry (rec : RK Bool) (x : (argH Q50.as).den) : seg tb (Q50.G N) Q50.A 0 rec (Q50.fin N) segFuel [.code (bodyOf Tryz.f50)] (initSt Tryz.f50 (encArgs Q50.as x) (encMem Q50.as x)) = Q50.e N (fun t23_ => rec Q50.k0 (Q50.st0 x.1 t23_)) x.1 := by kernel_rfl
theorem Q50.runs (N : Nat) (s_ : ByteArray) : ∀ n, (∀ (t23_ : Int), run tb (Q50.G N) Q50.A 0 (Q50.fin N) n Q50.k0 (Q50.st0 s_ t23_) = Q50.l0 N s_ n t23_)
 | 0 => fun _ => rfl
 | n + 1 => by
  have h0 := Q50.runs N s_ n
  have e0 : (fun (t23_ : Int) => run tb (Q50.G N) Q50.A 0 (Q50.fin N) n Q50.k0 (Q50.st0 s_ t23_)) = Q50.l0 N s_ n := by funext t23_; exact h0 t23_
  have g0 : (∀ (t23_ : Int), run tb (Q50.G N) Q50.A 0 (Q50.fin N) (n + 1) Q50.k0 (Q50.st0 s_ t23_) = Q50.l0 N s_ (n + 1) t23_) := by
   intro t23_
   exact (run_succ (by kernel_rfl)).trans ((Q50.step0 N _ s_ t23_).trans ((congrArg (fun r0 => Q50.s0 N s_ r0 t23_) e0).trans (Q50.l0_s N s_ n t23_).symm))
  exact g0
theorem Q50.ok : FnOk Tryz.prog 50 (Q50.D N) := by
 refine FnOk_of tb_ok (Checked.mixed Tryz.checked) ⟨Tryz.f50, Tryz.func50, by kernel_rfl, by kernel_rfl, fun x y h => ⟨Q50.G N, Q50.A, N, gamOf_ok (fun p hp => nomatch hp), ?_⟩⟩ (Q50.fit N)
 rw [absFn_n (n0 := 0) rfl (by kernel_rfl)]
 refine (Q50.entry N (run tb (Q50.G N) Q50.A 0 (Q50.fin N) N) x).trans ?_
 have e0 : (fun (t23_ : Int) => run tb (Q50.G N) Q50.A 0 (Q50.fin N) N Q50.k0 (Q50.st0 x.1 t23_)) = Q50.l0 N x.1 N := by funext t23_; exact (Q50.runs N x.1 N) t23_
 have h' : (Q50.D N).f x = Q50.e N (Q50.l0 N x.1 N) x.1 := by kernel_rfl
 exact (congrArg (fun r0 => Q50.e N r0 x.1) e0).trans (h'.symm.trans h)
def Q75.as : List MK := [.d true (.prod tI qd)]
def Q75.rs : List (Bool × HT) := [(false, (.d tI))]
def Q75.lc : List AC := []
def Q75.D : DFn := ⟨Q75.as, Q75.rs, Int, fun x => Q75 N x.1, fun r o => r.1, fun b => (b, ()), fun b => (), none⟩
theorem Q75.fit : (Q75.D N).Fit := ⟨fun _ _ => rfl, fun _ _ => rfl, by kernel_rfl, (fun _ _ h => nomatch h), by kernel_rfl⟩
noncomputable def Q75.G (N : Nat) : Gam := gamOf []
def Q75.A : LA := fun _ => none
noncomputable def Q75.fin : St → Option Int := resK tb Tryz.f75.results.toList (decRes (Q75.D N) Q75.lc)
theorem Q75.entry (rec : RK Int) (x : (argH Q75.as).den) : seg tb (Q75.G N) Q75.A 0 rec (Q75.fin N) segFuel [.code (bodyOf Tryz.f75)] (initSt Tryz.f75 (encArgs Q75.as x) (encMem Q75.as x)) = Q75.e N x.1 := by kernel_rfl
theorem Q75.ok : FnOk Tryz.prog 75 (Q75.D N) := by
 refine FnOk_of tb_ok (Checked.mixed Tryz.checked) ⟨Tryz.f75, Tryz.func75, by kernel_rfl, by kernel_rfl, fun x y h => ⟨Q75.G N, Q75.A, N, gamOf_ok (fun p hp => nomatch hp), ?_⟩⟩ (Q75.fit N)
 rw [absFn_n (n0 := 0) rfl (by kernel_rfl)]
 exact (Q75.entry N _ x).trans h
def Q51.as : List MK := [.d false (.slice 89 qb)]
def Q51.rs : List (Bool × HT) := [(false, (.d tI))]
def Q51.lc : List AC := []
def Q51.D : DFn := ⟨Q51.as, Q51.rs, Int, fun x => Q51 N x.1, fun r o => r.1, fun b => (b, ()), fun b => (), none⟩
theorem Q51.fit : (Q51.D N).Fit := ⟨fun _ _ => rfl, fun _ _ => rfl, by kernel_rfl, (fun _ _ h => nomatch h), by kernel_rfl⟩
noncomputable def Q51.G : Gam := gamOf [(75, Q75.D N)]
def Q51.A : LA := fun k => bif Nat.beq k 1 then some ⟨[0, 18, 19, 20], [], [], [], [], 0, false⟩ else bif Nat.beq k 3 then some ⟨[0, 4, 18, 19, 20, 35, 36, 37], [], [], [], [], 1, false⟩ else bif Nat.beq k 5 then some ⟨[0, 18, 19, 20, 72, 73, 74], [], [], [], [], 0, false⟩ else none
noncomputable def Q51.fin : St → Option Int := resK tb Tryz.f51.results.toList (decRes (Q51.D N) Q51.lc)
noncomputable def Q51.k0 : List Item := stackAt [.r, .r, .l, .r, .b] (bodyOf Tryz.f51) []
def Q51.st0 (l_ : (List TPiece)) (t20_ : Int) : St := ⟨[.one (.fro 89 qb l_)] ++ rA 17 ++ [.one (.fro 89 qb l_), oi (l_.length : Int), oi t20_] ++ rA 64, []⟩
noncomputable def Q51.k1 : List Item := stackAt [.r, .r, .l, .r, .b, .w, .r, .r, .l, .b, .r, .r, .l, .r, .b] (bodyOf Tryz.f51) []
def Q51.st1 (l_ : (List TPiece)) (t20_ : Int) (t35_ : (List TPiece)) (t36_ t37_ p_ p_2 p_3 : Int) (p_4 : (List TWay)) : St := ⟨[.one (.fro 89 qb l_)] ++ rA 3 ++ [.one (.ptr 0 0)] ++ rA 13 ++ [.one (.fro 89 qb l_), oi (l_.length : Int), oi t20_] ++ rA 14 ++ [.one (.fro 89 qb t35_), oi t36_, oi t37_] ++ rA 47, [.var 89 [.int .u8 p_, .int .i64 p_2, .int .i64 p_3, .fro 122 (.prod tI qd) p_4]]⟩
noncomputable def Q51.k2 : List Item := stackAt [.r, .r, .l, .r, .b, .w, .r, .r, .l, .b, .r, .r, .r, .r, .r, .r, .b] (bodyOf Tryz.f51) []
def Q51.st2 (l_ : (List TPiece)) (t20_ : Int) (t72_ : (List TWay)) (t73_ t74_ : Int) : St := ⟨[.one (.fro 89 qb l_)] ++ rA 17 ++ [.one (.fro 89 qb l_), oi (l_.length : Int), oi t20_] ++ rA 51 ++ [.one (.fro 122 (.prod tI qd) t72_), oi t73_, oi t74_] ++ rA 10, []⟩
theorem Q51.step0 (rec : RK Int) (l_ : (List TPiece)) (t20_ : Int) : seg tb (Q51.G N) Q51.A 0 rec (Q51.fin N) segFuel (loopBody Q51.k0) (Q51.st0 l_ t20_) = Q51.s0 N l_ (fun t20_ => rec Q51.k0 (Q51.st0 l_ t20_)) (fun t20_ t35_ t36_ t37_ p_ p_2 p_3 p_4 => rec Q51.k1 (Q51.st1 l_ t20_ t35_ t36_ t37_ p_ p_2 p_3 p_4)) (fun t20_ t72_ t73_ t74_ => rec Q51.k2 (Q51.st2 l_ t20_ t72_ t73_ t74_)) t20_ := by kernel_rfl
theorem Q51.step1 (rec : RK Int) (l_ : (List TPiece)) (t20_ : Int) (t35_ : (List TPiece)) (t36_ t37_ p_ p_2 p_3 : Int) (p_4 : (List TWay)) : seg tb (Q51.G N) Q51.A 0 rec (Q51.fin N) segFuel (loopBody Q51.k1) (Q51.st1 l_ t20_ t35_ t36_ t37_ p_ p_2 p_3 p_4) = Q51.s1 N l_ (fun t20_ => rec Q51.k0 (Q51.st0 l_ t20_)) (fun t20_ t35_ t36_ t37_ p_ p_2 p_3 p_4 => rec Q51.k1 (Q51.st1 l_ t20_ t35_ t36_ t37_ p_ p_2 p_3 p_4)) (fun t20_ t72_ t73_ t74_ => rec Q51.k2 (Q51.st2 l_ t20_ t72_ t73_ t74_)) t20_ t35_ t36_ t37_ p_ p_2 p_3 p_4 := by kernel_rfl
theorem Q51.step2 (rec : RK Int) (l_ : (List TPiece)) (t20_ : Int) (t72_ : (List TWay)) (t73_ t74_ : Int) : seg tb (Q51.G N) Q51.A 0 rec (Q51.fin N) segFuel (loopBody Q51.k2) (Q51.st2 l_ t20_ t72_ t73_ t74_) = Q51.s2 N l_ (fun t20_ => rec Q51.k0 (Q51.st0 l_ t20_)) (fun t20_ t35_ t36_ t37_ p_ p_2 p_3 p_4 => rec Q51.k1 (Q51.st1 l_ t20_ t35_ t36_ t37_ p_ p_2 p_3 p_4)) (fun t20_ t72_ t73_ t74_ => rec Q51.k2 (Q51.st2 l_ t20_ t72_ t73_ t74_)) t20_ t72_ t73_ t74_ := by kernel_rfl
theorem Q51.entry (rec : RK Int) (x : (argH Q51.as).den) : seg tb (Q51.G N) Q51.A 0 rec (Q51.fin N) segFuel [.code (bodyOf Tryz.f51)] (initSt Tryz.f51 (encArgs Q51.as x) (encMem Q51.as x)) = Q51.e N (fun t20_ => rec Q51.k0 (Q51.st0 x.1 t20_)) (fun t20_ t35_ t36_ t37_ p_ p_2 p_3 p_4 => rec Q51.k1 (Q51.st1 x.1 t20_ t35_ t36_ t37_ p_ p_2 p_3 p_4)) (fun t20_ t72_ t73_ t74_ => rec Q51.k2 (Q51.st2 x.1 t20_ t72_ t73_ t74_)) x.1 := by kernel_rfl
theorem Q51.runs (N : Nat) (l_ : (List TPiece)) : ∀ n, (∀ (t20_ : Int), run tb (Q51.G N) Q51.A 0 (Q51.fin N) n Q51.k0 (Q51.st0 l_ t20_) = Q51.l0 N l_ n t20_) ∧ (∀ (t20_ : Int) (t35_ : (List TPiece)) (t36_ t37_ p_ p_2 p_3 : Int) (p_4 : (List TWay)), run tb (Q51.G N) Q51.A 0 (Q51.fin N) n Q51.k1 (Q51.st1 l_ t20_ t35_ t36_ t37_ p_ p_2 p_3 p_4) = Q51.l1 N l_ n t20_ t35_ t36_ t37_ p_ p_2 p_3 p_4) ∧ (∀ (t20_ : Int) (t72_ : (List TWay)) (t73_ t74_ : Int), run tb (Q51.G N) Q51.A 0 (Q51.fin N) n Q51.k2 (Q51.st2 l_ t20_ t72_ t73_ t74_) = Q51.l2 N l_ n t20_ t72_ t73_ t74_)
 | 0 => ⟨fun _ => rfl, fun _ _ _ _ _ _ _ _ => rfl, fun _ _ _ _ => rfl⟩
 | n + 1 => by
  obtain ⟨h0, h1, h2⟩ := Q51.runs N l_ n
  have e0 : (fun (t20_ : Int) => run tb (Q51.G N) Q51.A 0 (Q51.fin N) n Q51.k0 (Q51.st0 l_ t20_)) = Q51.l0 N l_ n := by funext t20_; exact h0 t20_
  have e1 : (fun (t20_ : Int) (t35_ : (List TPiece)) (t36_ t37_ p_ p_2 p_3 : Int) (p_4 : (List TWay)) => run tb (Q51.G N) Q51.A 0 (Q51.fin N) n Q51.k1 (Q51.st1 l_ t20_ t35_ t36_ t37_ p_ p_2 p_3 p_4)) = Q51.l1 N l_ n := by funext t20_ t35_ t36_ t37_ p_ p_2 p_3 p_4; exact h1 t20_ t35_ t36_ t37_ p_ p_2 p_3 p_4
  have e2 : (fun (t20_ : Int) (t72_ : (List TWay)) (t73_ t74_ : Int) => run tb (Q51.G N) Q51.A 0 (Q51.fin N) n Q51.k2 (Q51.st2 l_ t20_ t72_ t73_ t74_)) = Q51.l2 N l_ n := by funext t20_ t72_ t73_ t74_; exact h2 t20_ t72_ t73_ t74_
  have g0 : (∀ (t20_ : Int), run tb (Q51.G N) Q51.A 0 (Q51.fin N) (n + 1) Q51.k0 (Q51.st0 l_ t20_) = Q51.l0 N l_ (n + 1) t20_) := by
   intro t20_
   exact (run_succ (by kernel_rfl)).trans ((Q51.step0 N _ l_ t20_).trans ((congr (congr (congrArg (fun r0 r1 r2 => Q51.s0 N l_ r0 r1 r2 t20_) e0) e1) e2).trans (Q51.l0_s N l_ n t20_).symm))
  have g1 : (∀ (t20_ : Int) (t35_ : (List TPiece)) (t36_ t37_ p_ p_2 p_3 : Int) (p_4 : (List TWay)), run tb (Q51.G N) Q51.A 0 (Q51.fin N) (n + 1) Q51.k1 (Q51.st1 l_ t20_ t35_ t36_ t37_ p_ p_2 p_3 p_4) = Q51.l1 N l_ (n + 1) t20_ t35_ t36_ t37_ p_ p_2 p_3 p_4) := by
   intro t20_ t35_ t36_ t37_ p_ p_2 p_3 p_4
   exact (run_succ (by kernel_rfl)).trans ((Q51.step1 N _ l_ t20_ t35_ t36_ t37_ p_ p_2 p_3 p_4).trans ((congr (congr (congrArg (fun r0 r1 r2 => Q51.s1 N l_ r0 r1 r2 t20_ t35_ t36_ t37_ p_ p_2 p_3 p_4) e0) e1) e2).trans (Q51.l1_s N l_ n t20_ t35_ t36_ t37_ p_ p_2 p_3 p_4).symm))
  have g2 : (∀ (t20_ : Int) (t72_ : (List TWay)) (t73_ t74_ : Int), run tb (Q51.G N) Q51.A 0 (Q51.fin N) (n + 1) Q51.k2 (Q51.st2 l_ t20_ t72_ t73_ t74_) = Q51.l2 N l_ (n + 1) t20_ t72_ t73_ t74_) := by
   intro t20_ t72_ t73_ t74_
   exact (run_succ (by kernel_rfl)).trans ((Q51.step2 N _ l_ t20_ t72_ t73_ t74_).trans ((congr (congr (congrArg (fun r0 r1 r2 => Q51.s2 N l_ r0 r1 r2 t20_ t72_ t73_ t74_) e0) e1) e2).trans (Q51.l2_s N l_ n t20_ t72_ t73_ t74_).symm))
  exact ⟨g0, g1, g2⟩
theorem Q51.ok : FnOk Tryz.prog 51 (Q51.D N) := by
 refine FnOk_of tb_ok (Checked.mixed Tryz.checked) ⟨Tryz.f51, Tryz.func51, by kernel_rfl, by kernel_rfl, fun x y h => ⟨Q51.G N, Q51.A, N, gamOf_ok (gc ⟨Q75.ok N, Q75.fit N⟩ gn), ?_⟩⟩ (Q51.fit N)
 rw [absFn_n (n0 := 0) rfl (by kernel_rfl)]
 refine (Q51.entry N (run tb (Q51.G N) Q51.A 0 (Q51.fin N) N) x).trans ?_
 have e0 : (fun (t20_ : Int) => run tb (Q51.G N) Q51.A 0 (Q51.fin N) N Q51.k0 (Q51.st0 x.1 t20_)) = Q51.l0 N x.1 N := by funext t20_; exact (Q51.runs N x.1 N).1 t20_
 have e1 : (fun (t20_ : Int) (t35_ : (List TPiece)) (t36_ t37_ p_ p_2 p_3 : Int) (p_4 : (List TWay)) => run tb (Q51.G N) Q51.A 0 (Q51.fin N) N Q51.k1 (Q51.st1 x.1 t20_ t35_ t36_ t37_ p_ p_2 p_3 p_4)) = Q51.l1 N x.1 N := by funext t20_ t35_ t36_ t37_ p_ p_2 p_3 p_4; exact (Q51.runs N x.1 N).2.1 t20_ t35_ t36_ t37_ p_ p_2 p_3 p_4
 have e2 : (fun (t20_ : Int) (t72_ : (List TWay)) (t73_ t74_ : Int) => run tb (Q51.G N) Q51.A 0 (Q51.fin N) N Q51.k2 (Q51.st2 x.1 t20_ t72_ t73_ t74_)) = Q51.l2 N x.1 N := by funext t20_ t72_ t73_ t74_; exact (Q51.runs N x.1 N).2.2 t20_ t72_ t73_ t74_
 have h' : (Q51.D N).f x = Q51.e N (Q51.l0 N x.1 N) (Q51.l1 N x.1 N) (Q51.l2 N x.1 N) x.1 := by kernel_rfl
 exact (congr (congr (congrArg (fun r0 r1 r2 => Q51.e N r0 r1 r2 x.1) e0) e1) e2).trans (h'.symm.trans h)
def Q52.as : List MK := [.d true qe, .d false tI]
def Q52.rs : List (Bool × HT) := [(false, (.d tI))]
def Q52.lc : List AC := []
def Q52.D : DFn := ⟨Q52.as, Q52.rs, Int, fun x => Q52 N x.1 x.2.1, fun r o => r.1, fun b => (b, ()), fun b => (), none⟩
theorem Q52.fit : (Q52.D N).Fit := ⟨fun _ _ => rfl, fun _ _ => rfl, by kernel_rfl, (fun _ _ h => nomatch h), by kernel_rfl⟩
noncomputable def Q52.G (N : Nat) : Gam := gamOf []
def Q52.A : LA := fun _ => none
noncomputable def Q52.fin : St → Option Int := resK tb Tryz.f52.results.toList (decRes (Q52.D N) Q52.lc)
theorem Q52.entry (rec : RK Int) (x : (argH Q52.as).den) : seg tb (Q52.G N) Q52.A 0 rec (Q52.fin N) segFuel [.code (bodyOf Tryz.f52)] (initSt Tryz.f52 (encArgs Q52.as x) (encMem Q52.as x)) = Q52.e N x.1 x.2.1 := by kernel_rfl
theorem Q52.ok : FnOk Tryz.prog 52 (Q52.D N) := by
 refine FnOk_of tb_ok (Checked.mixed Tryz.checked) ⟨Tryz.f52, Tryz.func52, by kernel_rfl, by kernel_rfl, fun x y h => ⟨Q52.G N, Q52.A, N, gamOf_ok (fun p hp => nomatch hp), ?_⟩⟩ (Q52.fit N)
 rw [absFn_n (n0 := 0) rfl (by kernel_rfl)]
 exact (Q52.entry N _ x).trans h
def Q29.as : List MK := [.d true qa]
def Q29.rs : List (Bool × HT) := [(false, (.d tI))]
def Q29.lc : List AC := []
def Q29.D : DFn := ⟨Q29.as, Q29.rs, Int, fun x => Q29 N x.1, fun r o => r.1, fun b => (b, ()), fun b => (), none⟩
theorem Q29.fit : (Q29.D N).Fit := ⟨fun _ _ => rfl, fun _ _ => rfl, by kernel_rfl, (fun _ _ h => nomatch h), by kernel_rfl⟩
noncomputable def Q29.G : Gam := gamOf [(50, Q50.D N), (51, Q51.D N), (52, Q52.D N)]
def Q29.A : LA := fun k => bif Nat.beq k 1 then some ⟨[1, 49, 50, 51], [], [], [], [], 1, false⟩ else bif Nat.beq k 3 then some ⟨[1, 71, 72, 73], [], [], [], [], 1, false⟩ else none
noncomputable def Q29.fin : St → Option Int := resK tb Tryz.f29.results.toList (decRes (Q29.D N) Q29.lc)
noncomputable def Q29.k0 : List Item := stackAt [.r, .r, .r, .r, .l, .r, .b] (bodyOf Tryz.f29) []
def Q29.st0 (r_ : TRules) (t50_ t51_ : Int) : St := ⟨[oA, .one (.ptr 0 0)] ++ rA 47 ++ [.one (.fro 3 tI r_.2.2.2.2.1), oi t50_, oi t51_] ++ rA 67, [vR r_]⟩
noncomputable def Q29.k1 : List Item := stackAt [.r, .r, .r, .r, .r, .r, .l, .r, .b] (bodyOf Tryz.f29) []
def Q29.st1 (r_ : TRules) (t72_ t73_ : Int) : St := ⟨[oA, .one (.ptr 0 0)] ++ rA 69 ++ [.one (.fro 91 qe r_.2.2.2.2.2.2.2.1), oi t72_, oi t73_] ++ rA 45, [vR r_]⟩
theorem Q29.step0 (rec : RK Int) (r_ : TRules) (t50_ t51_ : Int) : seg tb (Q29.G N) Q29.A 0 rec (Q29.fin N) segFuel (loopBody Q29.k0) (Q29.st0 r_ t50_ t51_) = Q29.s0 N r_ (fun t50_ t51_ => rec Q29.k0 (Q29.st0 r_ t50_ t51_)) (fun t72_ t73_ => rec Q29.k1 (Q29.st1 r_ t72_ t73_)) t50_ t51_ := by kernel_rfl
theorem Q29.step1 (rec : RK Int) (r_ : TRules) (t72_ t73_ : Int) : seg tb (Q29.G N) Q29.A 0 rec (Q29.fin N) segFuel (loopBody Q29.k1) (Q29.st1 r_ t72_ t73_) = Q29.s1 N r_ (fun t50_ t51_ => rec Q29.k0 (Q29.st0 r_ t50_ t51_)) (fun t72_ t73_ => rec Q29.k1 (Q29.st1 r_ t72_ t73_)) t72_ t73_ := by kernel_rfl
theorem Q29.entry (rec : RK Int) (x : (argH Q29.as).den) : seg tb (Q29.G N) Q29.A 0 rec (Q29.fin N) segFuel [.code (bodyOf Tryz.f29)] (initSt Tryz.f29 (encArgs Q29.as x) (encMem Q29.as x)) = Q29.e N (fun t50_ t51_ => rec Q29.k0 (Q29.st0 x.1 t50_ t51_)) (fun t72_ t73_ => rec Q29.k1 (Q29.st1 x.1 t72_ t73_)) x.1 := by kernel_rfl
theorem Q29.runs (N : Nat) (r_ : TRules) : ∀ n, (∀ (t50_ t51_ : Int), run tb (Q29.G N) Q29.A 0 (Q29.fin N) n Q29.k0 (Q29.st0 r_ t50_ t51_) = Q29.l0 N r_ n t50_ t51_) ∧ (∀ (t72_ t73_ : Int), run tb (Q29.G N) Q29.A 0 (Q29.fin N) n Q29.k1 (Q29.st1 r_ t72_ t73_) = Q29.l1 N r_ n t72_ t73_)
 | 0 => ⟨fun _ _ => rfl, fun _ _ => rfl⟩
 | n + 1 => by
  obtain ⟨h0, h1⟩ := Q29.runs N r_ n
  have e0 : (fun (t50_ t51_ : Int) => run tb (Q29.G N) Q29.A 0 (Q29.fin N) n Q29.k0 (Q29.st0 r_ t50_ t51_)) = Q29.l0 N r_ n := by funext t50_ t51_; exact h0 t50_ t51_
  have e1 : (fun (t72_ t73_ : Int) => run tb (Q29.G N) Q29.A 0 (Q29.fin N) n Q29.k1 (Q29.st1 r_ t72_ t73_)) = Q29.l1 N r_ n := by funext t72_ t73_; exact h1 t72_ t73_
  have g0 : (∀ (t50_ t51_ : Int), run tb (Q29.G N) Q29.A 0 (Q29.fin N) (n + 1) Q29.k0 (Q29.st0 r_ t50_ t51_) = Q29.l0 N r_ (n + 1) t50_ t51_) := by
   intro t50_ t51_
   exact (run_succ (by kernel_rfl)).trans ((Q29.step0 N _ r_ t50_ t51_).trans ((congr (congrArg (fun r0 r1 => Q29.s0 N r_ r0 r1 t50_ t51_) e0) e1).trans (Q29.l0_s N r_ n t50_ t51_).symm))
  have g1 : (∀ (t72_ t73_ : Int), run tb (Q29.G N) Q29.A 0 (Q29.fin N) (n + 1) Q29.k1 (Q29.st1 r_ t72_ t73_) = Q29.l1 N r_ (n + 1) t72_ t73_) := by
   intro t72_ t73_
   exact (run_succ (by kernel_rfl)).trans ((Q29.step1 N _ r_ t72_ t73_).trans ((congr (congrArg (fun r0 r1 => Q29.s1 N r_ r0 r1 t72_ t73_) e0) e1).trans (Q29.l1_s N r_ n t72_ t73_).symm))
  exact ⟨g0, g1⟩
theorem Q29.ok : FnOk Tryz.prog 29 (Q29.D N) := by
 refine FnOk_of tb_ok (Checked.mixed Tryz.checked) ⟨Tryz.f29, Tryz.func29, by kernel_rfl, by kernel_rfl, fun x y h => ⟨Q29.G N, Q29.A, N, gamOf_ok (gc ⟨Q50.ok N, Q50.fit N⟩ (gc ⟨Q51.ok N, Q51.fit N⟩ (gc ⟨Q52.ok N, Q52.fit N⟩ gn))), ?_⟩⟩ (Q29.fit N)
 rw [absFn_n (n0 := 0) rfl (by kernel_rfl)]
 refine (Q29.entry N (run tb (Q29.G N) Q29.A 0 (Q29.fin N) N) x).trans ?_
 have e0 : (fun (t50_ t51_ : Int) => run tb (Q29.G N) Q29.A 0 (Q29.fin N) N Q29.k0 (Q29.st0 x.1 t50_ t51_)) = Q29.l0 N x.1 N := by funext t50_ t51_; exact (Q29.runs N x.1 N).1 t50_ t51_
 have e1 : (fun (t72_ t73_ : Int) => run tb (Q29.G N) Q29.A 0 (Q29.fin N) N Q29.k1 (Q29.st1 x.1 t72_ t73_)) = Q29.l1 N x.1 N := by funext t72_ t73_; exact (Q29.runs N x.1 N).2 t72_ t73_
 have h' : (Q29.D N).f x = Q29.e N (Q29.l0 N x.1 N) (Q29.l1 N x.1 N) x.1 := by kernel_rfl
 exact (congr (congrArg (fun r0 r1 => Q29.e N r0 r1 x.1) e0) e1).trans (h'.symm.trans h)
def Q19.as : List MK := [.d true qa]
def Q19.rs : List (Bool × HT) := [(true, (.prod (.d .str) (.prod (.d tI) (.prod (.d tI) (.prod (.own 89 qb) (.prod (.own 3 tI) (.prod (.d .bool) (.prod (.d .bool) (.prod (.own 91 qe) (.d qd))))))))))]
def Q19.lc : List AC := []
def Q19.D : DFn := ⟨Q19.as, Q19.rs, TRules, fun x => Q19 N x.1, fun r o => r.1, fun b => (b, ()), fun b => (), none⟩
theorem Q19.fit : (Q19.D N).Fit := ⟨fun _ _ => rfl, fun _ _ => rfl, by kernel_rfl, (fun _ _ h => nomatch h), by kernel_rfl⟩
noncomputable def Q19.G (N : Nat) : Gam := gamOf []
def Q19.A : LA := fun k => bif Nat.beq k 0 then some ⟨[1, 2, 3, 13, 14, 15], [], [], [], [], 4, false⟩ else none
noncomputable def Q19.fin : St → Option TRules := resK tb Tryz.f19.results.toList (decRes (Q19.D N) Q19.lc)
noncomputable def Q19.k0 : List Item := stackAt [.r, .r, .r, .l, .r, .b] (bodyOf Tryz.f19) []
def Q19.st0 (r_ : TRules) (t14_ t15_ : Int) (m3_ : (List TPiece)) : St := ⟨[oA, .one (.ptr 0 0), .one (.ptr 1 0), .one (.ptr 2 0)] ++ rA 9 ++ [.one (.fro 89 qb r_.2.2.2.1), oi t14_, oi t15_] ++ rA 23, [vR r_, .var 26 [.str (⟨#[]⟩ : ByteArray), .int .i64 0, .int .i64 0, .nilS, .nilS, .bool false, .bool false, .nilS, .int .i64 0, .int .i64 0, .int .i64 0], .var 26 [.str r_.1, .int .i64 r_.2.1, .int .i64 r_.2.2.1, .own 3, .fro 3 tI r_.2.2.2.2.1, .bool r_.2.2.2.2.2.1, .bool r_.2.2.2.2.2.2.1, .fro 91 qe r_.2.2.2.2.2.2.2.1, .int .i64 r_.2.2.2.2.2.2.2.2.1, .int .i64 r_.2.2.2.2.2.2.2.2.2.1, .int .i64 r_.2.2.2.2.2.2.2.2.2.2], .row 89 qb m3_]⟩
theorem Q19.step0 (rec : RK TRules) (r_ : TRules) (t14_ t15_ : Int) (m3_ : (List TPiece)) : seg tb (Q19.G N) Q19.A 0 rec (Q19.fin N) segFuel (loopBody Q19.k0) (Q19.st0 r_ t14_ t15_ m3_) = Q19.s0 N r_ (fun t14_ t15_ m3_ => rec Q19.k0 (Q19.st0 r_ t14_ t15_ m3_)) t14_ t15_ m3_ := by kernel_rfl
theorem Q19.entry (rec : RK TRules) (x : (argH Q19.as).den) : seg tb (Q19.G N) Q19.A 0 rec (Q19.fin N) segFuel [.code (bodyOf Tryz.f19)] (initSt Tryz.f19 (encArgs Q19.as x) (encMem Q19.as x)) = Q19.e N (fun t14_ t15_ m3_ => rec Q19.k0 (Q19.st0 x.1 t14_ t15_ m3_)) x.1 := by kernel_rfl
theorem Q19.runs (N : Nat) (r_ : TRules) : ∀ n, (∀ (t14_ t15_ : Int) (m3_ : (List TPiece)), run tb (Q19.G N) Q19.A 0 (Q19.fin N) n Q19.k0 (Q19.st0 r_ t14_ t15_ m3_) = Q19.l0 N r_ n t14_ t15_ m3_)
 | 0 => fun _ _ _ => rfl
 | n + 1 => by
  have h0 := Q19.runs N r_ n
  have e0 : (fun (t14_ t15_ : Int) (m3_ : (List TPiece)) => run tb (Q19.G N) Q19.A 0 (Q19.fin N) n Q19.k0 (Q19.st0 r_ t14_ t15_ m3_)) = Q19.l0 N r_ n := by funext t14_ t15_ m3_; exact h0 t14_ t15_ m3_
  have g0 : (∀ (t14_ t15_ : Int) (m3_ : (List TPiece)), run tb (Q19.G N) Q19.A 0 (Q19.fin N) (n + 1) Q19.k0 (Q19.st0 r_ t14_ t15_ m3_) = Q19.l0 N r_ (n + 1) t14_ t15_ m3_) := by
   intro t14_ t15_ m3_
   exact (run_succ (by kernel_rfl)).trans ((Q19.step0 N _ r_ t14_ t15_ m3_).trans ((congrArg (fun r0 => Q19.s0 N r_ r0 t14_ t15_ m3_) e0).trans (Q19.l0_s N r_ n t14_ t15_ m3_).symm))
  exact g0
theorem Q19.ok : FnOk Tryz.prog 19 (Q19.D N) := by
 refine FnOk_of tb_ok (Checked.mixed Tryz.checked) ⟨Tryz.f19, Tryz.func19, by kernel_rfl, by kernel_rfl, fun x y h => ⟨Q19.G N, Q19.A, N, gamOf_ok (fun p hp => nomatch hp), ?_⟩⟩ (Q19.fit N)
 rw [absFn_n (n0 := 0) rfl (by kernel_rfl)]
 refine (Q19.entry N (run tb (Q19.G N) Q19.A 0 (Q19.fin N) N) x).trans ?_
 have e0 : (fun (t14_ t15_ : Int) (m3_ : (List TPiece)) => run tb (Q19.G N) Q19.A 0 (Q19.fin N) N Q19.k0 (Q19.st0 x.1 t14_ t15_ m3_)) = Q19.l0 N x.1 N := by funext t14_ t15_ m3_; exact (Q19.runs N x.1 N) t14_ t15_ m3_
 have h' : (Q19.D N).f x = Q19.e N (Q19.l0 N x.1 N) x.1 := by kernel_rfl
 exact (congrArg (fun r0 => Q19.e N r0 x.1) e0).trans (h'.symm.trans h)
def Q41.as : List MK := [.d false (.slice 3 tI)]
def Q41.rs : List (Bool × HT) := [(false, (.own 3 tI))]
def Q41.lc : List AC := []
def Q41.D : DFn := ⟨Q41.as, Q41.rs, LInt, fun x => Q41 N x.1, fun r o => r.1, fun b => (b, ()), fun b => (), none⟩
theorem Q41.fit : (Q41.D N).Fit := ⟨fun _ _ => rfl, fun _ _ => rfl, by kernel_rfl, (fun _ _ h => nomatch h), by kernel_rfl⟩
noncomputable def Q41.G (N : Nat) : Gam := gamOf []
def Q41.A : LA := fun _ => none
noncomputable def Q41.fin : St → Option LInt := resK tb Tryz.f41.results.toList (decRes (Q41.D N) Q41.lc)
theorem Q41.entry0 (rec : RK LInt) : seg tb (Q41.G N) Q41.A 0 rec (Q41.fin N) segFuel [.code (bodyOf Tryz.f41)] (initSt Tryz.f41 [.one .nilS] []) = some [] := by kernel_rfl
theorem Q41.entry (rec : RK LInt) (x : LInt) : seg tb (Q41.G N) Q41.A 0 rec (Q41.fin N) segFuel [.code (bodyOf Tryz.f41)] (initSt Tryz.f41 [.one (.frn 3 tI x)] []) = Q41.e N x := by kernel_rfl
theorem Q41.ok : FnOk Tryz.prog 41 (Q41.D N) := by
 refine FnOk_ofN (e := 3) (t := tI) (h := rfl) tb_ok (Checked.mixed Tryz.checked) ⟨Tryz.f41, Tryz.func41, by kernel_rfl, by kernel_rfl, fun x y h => ⟨Q41.G N, Q41.A, N, gamOf_ok (fun p hp => nomatch hp), fun hx => ?_, ?_⟩⟩ (Q41.fit N)
 ·subst hx; rw [absFn_n (n0 := 0) rfl (by kernel_rfl)]; exact (Q41.entry0 N _).trans h
 ·rw [absFn_n (n0 := 0) rfl (by kernel_rfl)]; exact (Q41.entry N _ x).trans h
def Q31.as : List MK := [.d true qa]
def Q31.rs : List (Bool × HT) := [(true, (.prod (.own 3 tI) (.prod (.prod (.own 3 tI) (.own 3 tI)) (.d (.prod tI tI)))))]
def Q31.lc : List AC := []
def Q31.D : DFn := ⟨Q31.as, Q31.rs, TPos, fun x => Q31 N x.1, fun r o => r.1, fun b => (b, ()), fun b => (), none⟩
theorem Q31.fit : (Q31.D N).Fit := ⟨fun _ _ => rfl, fun _ _ => rfl, by kernel_rfl, (fun _ _ h => nomatch h), by kernel_rfl⟩
noncomputable def Q31.G : Gam := gamOf [(41, Q41.D N)]
def Q31.A : LA := fun k => bif Nat.beq k 0 then some ⟨[1, 2, 3, 11], [], [(3, 1, 3), (3, 2, 3)], [], [], 6, false⟩ else bif Nat.beq k 2 then some ⟨[1, 2, 3, 4, 11, 15, 16, 17], [], [(3, 1, 3), (3, 2, 3)], [(true, 3, 1, 4), (true, 3, 2, 5)], [], 6, false⟩ else bif Nat.beq k 1000008 then some ⟨[4], [], [], [], [], 2, false⟩ else none
noncomputable def Q31.fin : St → Option TPos := resK tb Tryz.f31.results.toList (decRes (Q31.D N) Q31.lc)
noncomputable def Q31.k0 : List Item := stackAt [.r, .r, .l, .r, .b] (bodyOf Tryz.f31) []
def Q31.st0 (r_ : TRules) (t11_ : Int) (m2_ m4_ m5_ : LInt) : St := ⟨[oA, .one (.ptr 0 0), .one (.ptr 1 0), .one (.ptr 3 0)] ++ rA 7 ++ [oi t11_] ++ rA 23, [vR r_, .var 33 [.nilS, .nilS, .nilS, .int .i64 0, .int .i64 0], .row 3 tI m2_, .var 33 [.own 2, .own 4, .own 5, .int .i64 0, .int .i64 0], .row 3 tI m4_, .row 3 tI m5_]⟩
noncomputable def Q31.k1 : List Item := stackAt [.r, .r, .l, .r, .b, .w, .r, .r, .l, .b, .r, .r, .b] (bodyOf Tryz.f31) []
def Q31.st1 (r_ : TRules) (o_ t11_ t16_ t17_ : Int) (m2_ m4_ m5_ : LInt) : St := ⟨[oA, .one (.ptr 0 0), .one (.ptr 1 0), .one (.ptr 3 0), oi o_] ++ rA 6 ++ [oi t11_] ++ rA 3 ++ [.one (.fro 89 qb r_.2.2.2.1), oi t16_, oi t17_] ++ rA 17, [vR r_, .var 33 [.nilS, .nilS, .nilS, .int .i64 0, .int .i64 0], .row 3 tI m2_, .var 33 [.own 2, .own 4, .own 5, .int .i64 0, .int .i64 0], .row 3 tI m4_, .row 3 tI m5_]⟩
theorem Q31.step0 (rec : RK TPos) (r_ : TRules) (t11_ : Int) (m2_ m4_ m5_ : LInt) : seg tb (Q31.G N) Q31.A 0 rec (Q31.fin N) segFuel (loopBody Q31.k0) (Q31.st0 r_ t11_ m2_ m4_ m5_) = Q31.s0 N r_ (fun t11_ m2_ m4_ m5_ => rec Q31.k0 (Q31.st0 r_ t11_ m2_ m4_ m5_)) (fun o_ t11_ t16_ t17_ m2_ m4_ m5_ => rec Q31.k1 (Q31.st1 r_ o_ t11_ t16_ t17_ m2_ m4_ m5_)) t11_ m2_ m4_ m5_ := by kernel_rfl
theorem Q31.step1 (rec : RK TPos) (r_ : TRules) (o_ t11_ t16_ t17_ : Int) (m2_ m4_ m5_ : LInt) : seg tb (Q31.G N) Q31.A 0 rec (Q31.fin N) segFuel (loopBody Q31.k1) (Q31.st1 r_ o_ t11_ t16_ t17_ m2_ m4_ m5_) = Q31.s1 N r_ (fun t11_ m2_ m4_ m5_ => rec Q31.k0 (Q31.st0 r_ t11_ m2_ m4_ m5_)) (fun o_ t11_ t16_ t17_ m2_ m4_ m5_ => rec Q31.k1 (Q31.st1 r_ o_ t11_ t16_ t17_ m2_ m4_ m5_)) o_ t11_ t16_ t17_ m2_ m4_ m5_ := by kernel_rfl
theorem Q31.entry (rec : RK TPos) (x : (argH Q31.as).den) : seg tb (Q31.G N) Q31.A 0 rec (Q31.fin N) segFuel [.code (bodyOf Tryz.f31)] (initSt Tryz.f31 (encArgs Q31.as x) (encMem Q31.as x)) = Q31.e N (fun t11_ m2_ m4_ m5_ => rec Q31.k0 (Q31.st0 x.1 t11_ m2_ m4_ m5_)) (fun o_ t11_ t16_ t17_ m2_ m4_ m5_ => rec Q31.k1 (Q31.st1 x.1 o_ t11_ t16_ t17_ m2_ m4_ m5_)) x.1 := by kernel_rfl
theorem Q31.runs (N : Nat) (r_ : TRules) : ∀ n, (∀ (t11_ : Int) (m2_ m4_ m5_ : LInt), run tb (Q31.G N) Q31.A 0 (Q31.fin N) n Q31.k0 (Q31.st0 r_ t11_ m2_ m4_ m5_) = Q31.l0 N r_ n t11_ m2_ m4_ m5_) ∧ (∀ (o_ t11_ t16_ t17_ : Int) (m2_ m4_ m5_ : LInt), run tb (Q31.G N) Q31.A 0 (Q31.fin N) n Q31.k1 (Q31.st1 r_ o_ t11_ t16_ t17_ m2_ m4_ m5_) = Q31.l1 N r_ n o_ t11_ t16_ t17_ m2_ m4_ m5_)
 | 0 => ⟨fun _ _ _ _ => rfl, fun _ _ _ _ _ _ _ => rfl⟩
 | n + 1 => by
  obtain ⟨h0, h1⟩ := Q31.runs N r_ n
  have e0 : (fun (t11_ : Int) (m2_ m4_ m5_ : LInt) => run tb (Q31.G N) Q31.A 0 (Q31.fin N) n Q31.k0 (Q31.st0 r_ t11_ m2_ m4_ m5_)) = Q31.l0 N r_ n := by funext t11_ m2_ m4_ m5_; exact h0 t11_ m2_ m4_ m5_
  have e1 : (fun (o_ t11_ t16_ t17_ : Int) (m2_ m4_ m5_ : LInt) => run tb (Q31.G N) Q31.A 0 (Q31.fin N) n Q31.k1 (Q31.st1 r_ o_ t11_ t16_ t17_ m2_ m4_ m5_)) = Q31.l1 N r_ n := by funext o_ t11_ t16_ t17_ m2_ m4_ m5_; exact h1 o_ t11_ t16_ t17_ m2_ m4_ m5_
  have g0 : (∀ (t11_ : Int) (m2_ m4_ m5_ : LInt), run tb (Q31.G N) Q31.A 0 (Q31.fin N) (n + 1) Q31.k0 (Q31.st0 r_ t11_ m2_ m4_ m5_) = Q31.l0 N r_ (n + 1) t11_ m2_ m4_ m5_) := by
   intro t11_ m2_ m4_ m5_
   exact (run_succ (by kernel_rfl)).trans ((Q31.step0 N _ r_ t11_ m2_ m4_ m5_).trans ((congr (congrArg (fun r0 r1 => Q31.s0 N r_ r0 r1 t11_ m2_ m4_ m5_) e0) e1).trans (Q31.l0_s N r_ n t11_ m2_ m4_ m5_).symm))
  have g1 : (∀ (o_ t11_ t16_ t17_ : Int) (m2_ m4_ m5_ : LInt), run tb (Q31.G N) Q31.A 0 (Q31.fin N) (n + 1) Q31.k1 (Q31.st1 r_ o_ t11_ t16_ t17_ m2_ m4_ m5_) = Q31.l1 N r_ (n + 1) o_ t11_ t16_ t17_ m2_ m4_ m5_) := by
   intro o_ t11_ t16_ t17_ m2_ m4_ m5_
   exact (run_succ (by kernel_rfl)).trans ((Q31.step1 N _ r_ o_ t11_ t16_ t17_ m2_ m4_ m5_).trans ((congr (congrArg (fun r0 r1 => Q31.s1 N r_ r0 r1 o_ t11_ t16_ t17_ m2_ m4_ m5_) e0) e1).trans (Q31.l1_s N r_ n o_ t11_ t16_ t17_ m2_ m4_ m5_).symm))
  exact ⟨g0, g1⟩
theorem Q31.ok : FnOk Tryz.prog 31 (Q31.D N) := by
 refine FnOk_of tb_ok (Checked.mixed Tryz.checked) ⟨Tryz.f31, Tryz.func31, by kernel_rfl, by kernel_rfl, fun x y h => ⟨Q31.G N, Q31.A, N, gamOf_ok (gc ⟨Q41.ok N, Q41.fit N⟩ gn), ?_⟩⟩ (Q31.fit N)
 rw [absFn_n (n0 := 0) rfl (by kernel_rfl)]
 refine (Q31.entry N (run tb (Q31.G N) Q31.A 0 (Q31.fin N) N) x).trans ?_
 have e0 : (fun (t11_ : Int) (m2_ m4_ m5_ : LInt) => run tb (Q31.G N) Q31.A 0 (Q31.fin N) N Q31.k0 (Q31.st0 x.1 t11_ m2_ m4_ m5_)) = Q31.l0 N x.1 N := by funext t11_ m2_ m4_ m5_; exact (Q31.runs N x.1 N).1 t11_ m2_ m4_ m5_
 have e1 : (fun (o_ t11_ t16_ t17_ : Int) (m2_ m4_ m5_ : LInt) => run tb (Q31.G N) Q31.A 0 (Q31.fin N) N Q31.k1 (Q31.st1 x.1 o_ t11_ t16_ t17_ m2_ m4_ m5_)) = Q31.l1 N x.1 N := by funext o_ t11_ t16_ t17_ m2_ m4_ m5_; exact (Q31.runs N x.1 N).2 o_ t11_ t16_ t17_ m2_ m4_ m5_
 have h' : (Q31.D N).f x = Q31.e N (Q31.l0 N x.1 N) (Q31.l1 N x.1 N) x.1 := by kernel_rfl
 exact (congr (congrArg (fun r0 r1 => Q31.e N r0 r1 x.1) e0) e1).trans (h'.symm.trans h)
def Q53.as : List MK := [.d true qc]
def Q53.rs : List (Bool × HT) := [(false, (.d .str))]
def Q53.lc : List AC := []
def Q53.D : DFn := ⟨Q53.as, Q53.rs, ByteArray, fun x => Q53 N x.1, fun r o => r.1, fun b => (b, ()), fun b => (), none⟩
theorem Q53.fit : (Q53.D N).Fit := ⟨fun _ _ => rfl, fun _ _ => rfl, by kernel_rfl, (fun _ _ h => nomatch h), by kernel_rfl⟩
noncomputable def Q53.G (N : Nat) : Gam := gamOf []
def Q53.A : LA := fun k => bif Nat.beq k 0 then some ⟨[1, 3, 16, 17, 18], [], [], [(false, 3, 0, 1)], [], 2, false⟩ else bif Nat.beq k 2 then some ⟨[1, 3, 29, 30], [], [], [], [], 2, false⟩ else bif Nat.beq k 4 then some ⟨[1, 3, 29, 30, 33, 34, 35], [], [], [(false, 3, 0, 1)], [], 2, false⟩ else none
noncomputable def Q53.fin : St → Option ByteArray := resK tb Tryz.f53.results.toList (decRes (Q53.D N) Q53.lc)
noncomputable def Q53.k0 : List Item := stackAt [.r, .r, .l, .r, .b] (bodyOf Tryz.f53) []
def Q53.st0 (p_ : TPos) (t18_ : Int) (b_ : LInt) : St := ⟨[oA, .one (.ptr 0 0), oA, .one (.own 1)] ++ rA 12 ++ [.one (.fro 3 tI p_.1), oi (p_.1.length : Int), oi t18_] ++ rA 37, [vP p_, .row 5 (.int .u8) b_]⟩
noncomputable def Q53.k1 : List Item := stackAt [.r, .r, .r, .l, .r, .b] (bodyOf Tryz.f53) []
def Q53.st1 (p_ : TPos) (t30_ : Int) (b_ : LInt) : St := ⟨[oA, .one (.ptr 0 0), oA, .one (.own 1)] ++ rA 25 ++ [.agg [.fro 3 tI p_.2.1.1, .fro 3 tI p_.2.1.2], oi t30_] ++ rA 25, [vP p_, .row 5 (.int .u8) b_]⟩
noncomputable def Q53.k2 : List Item := stackAt [.r, .r, .r, .l, .r, .b, .w, .r, .r, .l, .b, .r, .r, .b] (bodyOf Tryz.f53) []
def Q53.st2 (p_ : TPos) (t30_ : Int) (t33_ : LInt) (t34_ t35_ : Int) (b_ : LInt) : St := ⟨[oA, .one (.ptr 0 0), oA, .one (.own 1)] ++ rA 25 ++ [.agg [.fro 3 tI p_.2.1.1, .fro 3 tI p_.2.1.2], oi t30_, oA, oA, .one (.fro 3 tI t33_), oi t34_, oi t35_] ++ rA 20, [vP p_, .row 5 (.int .u8) b_]⟩
theorem Q53.step0 (rec : RK ByteArray) (p_ : TPos) (t18_ : Int) (b_ : LInt) : seg tb (Q53.G N) Q53.A 0 rec (Q53.fin N) segFuel (loopBody Q53.k0) (Q53.st0 p_ t18_ b_) = Q53.s0 N p_ (fun t18_ b_ => rec Q53.k0 (Q53.st0 p_ t18_ b_)) (fun t30_ b_ => rec Q53.k1 (Q53.st1 p_ t30_ b_)) (fun t30_ t33_ t34_ t35_ b_ => rec Q53.k2 (Q53.st2 p_ t30_ t33_ t34_ t35_ b_)) t18_ b_ := by kernel_rfl
theorem Q53.step1 (rec : RK ByteArray) (p_ : TPos) (t30_ : Int) (b_ : LInt) : seg tb (Q53.G N) Q53.A 0 rec (Q53.fin N) segFuel (loopBody Q53.k1) (Q53.st1 p_ t30_ b_) = Q53.s1 N p_ (fun t18_ b_ => rec Q53.k0 (Q53.st0 p_ t18_ b_)) (fun t30_ b_ => rec Q53.k1 (Q53.st1 p_ t30_ b_)) (fun t30_ t33_ t34_ t35_ b_ => rec Q53.k2 (Q53.st2 p_ t30_ t33_ t34_ t35_ b_)) t30_ b_ := by kernel_rfl
theorem Q53.step2 (rec : RK ByteArray) (p_ : TPos) (t30_ : Int) (t33_ : LInt) (t34_ t35_ : Int) (b_ : LInt) : seg tb (Q53.G N) Q53.A 0 rec (Q53.fin N) segFuel (loopBody Q53.k2) (Q53.st2 p_ t30_ t33_ t34_ t35_ b_) = Q53.s2 N p_ (fun t18_ b_ => rec Q53.k0 (Q53.st0 p_ t18_ b_)) (fun t30_ b_ => rec Q53.k1 (Q53.st1 p_ t30_ b_)) (fun t30_ t33_ t34_ t35_ b_ => rec Q53.k2 (Q53.st2 p_ t30_ t33_ t34_ t35_ b_)) t30_ t33_ t34_ t35_ b_ := by kernel_rfl
theorem Q53.entry (rec : RK ByteArray) (x : (argH Q53.as).den) : seg tb (Q53.G N) Q53.A 0 rec (Q53.fin N) segFuel [.code (bodyOf Tryz.f53)] (initSt Tryz.f53 (encArgs Q53.as x) (encMem Q53.as x)) = Q53.e N (fun t18_ b_ => rec Q53.k0 (Q53.st0 x.1 t18_ b_)) (fun t30_ b_ => rec Q53.k1 (Q53.st1 x.1 t30_ b_)) (fun t30_ t33_ t34_ t35_ b_ => rec Q53.k2 (Q53.st2 x.1 t30_ t33_ t34_ t35_ b_)) x.1 := by kernel_rfl
theorem Q53.runs (N : Nat) (p_ : TPos) : ∀ n, (∀ (t18_ : Int) (b_ : LInt), run tb (Q53.G N) Q53.A 0 (Q53.fin N) n Q53.k0 (Q53.st0 p_ t18_ b_) = Q53.l0 N p_ n t18_ b_) ∧ (∀ (t30_ : Int) (b_ : LInt), run tb (Q53.G N) Q53.A 0 (Q53.fin N) n Q53.k1 (Q53.st1 p_ t30_ b_) = Q53.l1 N p_ n t30_ b_) ∧ (∀ (t30_ : Int) (t33_ : LInt) (t34_ t35_ : Int) (b_ : LInt), run tb (Q53.G N) Q53.A 0 (Q53.fin N) n Q53.k2 (Q53.st2 p_ t30_ t33_ t34_ t35_ b_) = Q53.l2 N p_ n t30_ t33_ t34_ t35_ b_)
 | 0 => ⟨fun _ _ => rfl, fun _ _ => rfl, fun _ _ _ _ _ => rfl⟩
 | n + 1 => by
  obtain ⟨h0, h1, h2⟩ := Q53.runs N p_ n
  have e0 : (fun (t18_ : Int) (b_ : LInt) => run tb (Q53.G N) Q53.A 0 (Q53.fin N) n Q53.k0 (Q53.st0 p_ t18_ b_)) = Q53.l0 N p_ n := by funext t18_ b_; exact h0 t18_ b_
  have e1 : (fun (t30_ : Int) (b_ : LInt) => run tb (Q53.G N) Q53.A 0 (Q53.fin N) n Q53.k1 (Q53.st1 p_ t30_ b_)) = Q53.l1 N p_ n := by funext t30_ b_; exact h1 t30_ b_
  have e2 : (fun (t30_ : Int) (t33_ : LInt) (t34_ t35_ : Int) (b_ : LInt) => run tb (Q53.G N) Q53.A 0 (Q53.fin N) n Q53.k2 (Q53.st2 p_ t30_ t33_ t34_ t35_ b_)) = Q53.l2 N p_ n := by funext t30_ t33_ t34_ t35_ b_; exact h2 t30_ t33_ t34_ t35_ b_
  have g0 : (∀ (t18_ : Int) (b_ : LInt), run tb (Q53.G N) Q53.A 0 (Q53.fin N) (n + 1) Q53.k0 (Q53.st0 p_ t18_ b_) = Q53.l0 N p_ (n + 1) t18_ b_) := by
   intro t18_ b_
   exact (run_succ (by kernel_rfl)).trans ((Q53.step0 N _ p_ t18_ b_).trans ((congr (congr (congrArg (fun r0 r1 r2 => Q53.s0 N p_ r0 r1 r2 t18_ b_) e0) e1) e2).trans (Q53.l0_s N p_ n t18_ b_).symm))
  have g1 : (∀ (t30_ : Int) (b_ : LInt), run tb (Q53.G N) Q53.A 0 (Q53.fin N) (n + 1) Q53.k1 (Q53.st1 p_ t30_ b_) = Q53.l1 N p_ (n + 1) t30_ b_) := by
   intro t30_ b_
   exact (run_succ (by kernel_rfl)).trans ((Q53.step1 N _ p_ t30_ b_).trans ((congr (congr (congrArg (fun r0 r1 r2 => Q53.s1 N p_ r0 r1 r2 t30_ b_) e0) e1) e2).trans (Q53.l1_s N p_ n t30_ b_).symm))
  have g2 : (∀ (t30_ : Int) (t33_ : LInt) (t34_ t35_ : Int) (b_ : LInt), run tb (Q53.G N) Q53.A 0 (Q53.fin N) (n + 1) Q53.k2 (Q53.st2 p_ t30_ t33_ t34_ t35_ b_) = Q53.l2 N p_ (n + 1) t30_ t33_ t34_ t35_ b_) := by
   intro t30_ t33_ t34_ t35_ b_
   exact (run_succ (by kernel_rfl)).trans ((Q53.step2 N _ p_ t30_ t33_ t34_ t35_ b_).trans ((congr (congr (congrArg (fun r0 r1 r2 => Q53.s2 N p_ r0 r1 r2 t30_ t33_ t34_ t35_ b_) e0) e1) e2).trans (Q53.l2_s N p_ n t30_ t33_ t34_ t35_ b_).symm))
  exact ⟨g0, g1, g2⟩
theorem Q53.ok : FnOk Tryz.prog 53 (Q53.D N) := by
 refine FnOk_of tb_ok (Checked.mixed Tryz.checked) ⟨Tryz.f53, Tryz.func53, by kernel_rfl, by kernel_rfl, fun x y h => ⟨Q53.G N, Q53.A, N, gamOf_ok (fun p hp => nomatch hp), ?_⟩⟩ (Q53.fit N)
 rw [absFn_n (n0 := 0) rfl (by kernel_rfl)]
 refine (Q53.entry N (run tb (Q53.G N) Q53.A 0 (Q53.fin N) N) x).trans ?_
 have e0 : (fun (t18_ : Int) (b_ : LInt) => run tb (Q53.G N) Q53.A 0 (Q53.fin N) N Q53.k0 (Q53.st0 x.1 t18_ b_)) = Q53.l0 N x.1 N := by funext t18_ b_; exact (Q53.runs N x.1 N).1 t18_ b_
 have e1 : (fun (t30_ : Int) (b_ : LInt) => run tb (Q53.G N) Q53.A 0 (Q53.fin N) N Q53.k1 (Q53.st1 x.1 t30_ b_)) = Q53.l1 N x.1 N := by funext t30_ b_; exact (Q53.runs N x.1 N).2.1 t30_ b_
 have e2 : (fun (t30_ : Int) (t33_ : LInt) (t34_ t35_ : Int) (b_ : LInt) => run tb (Q53.G N) Q53.A 0 (Q53.fin N) N Q53.k2 (Q53.st2 x.1 t30_ t33_ t34_ t35_ b_)) = Q53.l2 N x.1 N := by funext t30_ t33_ t34_ t35_ b_; exact (Q53.runs N x.1 N).2.2 t30_ t33_ t34_ t35_ b_
 have h' : (Q53.D N).f x = Q53.e N (Q53.l0 N x.1 N) (Q53.l1 N x.1 N) (Q53.l2 N x.1 N) x.1 := by kernel_rfl
 exact (congr (congr (congrArg (fun r0 r1 r2 => Q53.e N r0 r1 r2 x.1) e0) e1) e2).trans (h'.symm.trans h)
def Q30.as : List MK := [.o (.ptr 63 (.prod (.prod (.d .str) (.prod (.d tI) (.prod (.d tI) (.prod (.own 89 qb) (.prod (.own 3 tI) (.prod (.d .bool) (.prod (.d .bool) (.prod (.own 91 qe) (.d qd))))))))) (.prod (.own 33 qc) (.prod (.own 23 (.slice 3 tI)) (.prod (.own 43 (.slice 80 qd)) (.prod (.own 35 (.prod tI tI)) (.mp false false .str tI))))))) true, .d true qc]
def Q30.rs : List (Bool × HT) := [(false, (.d tI))]
def Q30.lc : List AC := [.ptr 0 0]
def Q30.D : DFn := ⟨Q30.as, Q30.rs, (Int × TTab), fun x => Q30 N x.1 x.2.1, fun r o => (r.1, o.1), fun b => (b.1, ()), fun b => (b.2, ()), none⟩
theorem Q30.fit : (Q30.D N).Fit := ⟨fun _ _ => rfl, fun _ _ => rfl, by kernel_rfl, (fun _ _ h => nomatch h), by kernel_rfl⟩
noncomputable def Q30.G : Gam := gamOf [(53, Q53.D N)]
def Q30.A : LA := fun _ => none
noncomputable def Q30.fin : St → Option (Int × TTab) := resK tb Tryz.f30.results.toList (decRes (Q30.D N) Q30.lc)
theorem Q30.entry (rec : RK (Int × TTab)) (x : (argH Q30.as).den) : seg tb (Q30.G N) Q30.A 9 rec (Q30.fin N) segFuel [.code (bodyOf Tryz.f30)] (initSt Tryz.f30 (encArgs Q30.as x) (encMem Q30.as x)) = Q30.e N x.1 x.2.1 := by kernel_rfl
theorem Q30.ok : FnOk Tryz.prog 30 (Q30.D N) := by
 refine FnOk_of tb_ok (Checked.mixed Tryz.checked) ⟨Tryz.f30, Tryz.func30, by kernel_rfl, by kernel_rfl, fun x y h => ⟨Q30.G N, Q30.A, N, gamOf_ok (gc ⟨Q53.ok N, Q53.fit N⟩ gn), ?_⟩⟩ (Q30.fit N)
 rw [absFn_n (n0 := 9) rfl (by kernel_rfl)]
 exact (Q30.entry N _ x).trans h
def Q57.as : List MK := [.d false tI]
def Q57.rs : List (Bool × HT) := [(false, (.d tI))]
def Q57.lc : List AC := []
def Q57.D : DFn := ⟨Q57.as, Q57.rs, Int, fun x => Q57 N x.1, fun r o => r.1, fun b => (b, ()), fun b => (), none⟩
theorem Q57.fit : (Q57.D N).Fit := ⟨fun _ _ => rfl, fun _ _ => rfl, by kernel_rfl, (fun _ _ h => nomatch h), by kernel_rfl⟩
noncomputable def Q57.G (N : Nat) : Gam := gamOf []
def Q57.A : LA := fun _ => none
noncomputable def Q57.fin : St → Option Int := resK tb Tryz.f57.results.toList (decRes (Q57.D N) Q57.lc)
theorem Q57.entry (rec : RK Int) (x : (argH Q57.as).den) : seg tb (Q57.G N) Q57.A 0 rec (Q57.fin N) segFuel [.code (bodyOf Tryz.f57)] (initSt Tryz.f57 (encArgs Q57.as x) (encMem Q57.as x)) = Q57.e N x.1 := by kernel_rfl
theorem Q57.ok : FnOk Tryz.prog 57 (Q57.D N) := by
 refine FnOk_of tb_ok (Checked.mixed Tryz.checked) ⟨Tryz.f57, Tryz.func57, by kernel_rfl, by kernel_rfl, fun x y h => ⟨Q57.G N, Q57.A, N, gamOf_ok (fun p hp => nomatch hp), ?_⟩⟩ (Q57.fit N)
 rw [absFn_n (n0 := 0) rfl (by kernel_rfl)]
 exact (Q57.entry N _ x).trans h
def Q76.as : List MK := [.d true qa, .d true qc, .d false tI, .d false tI]
def Q76.rs : List (Bool × HT) := [(false, (.d .bool))]
def Q76.lc : List AC := []
def Q76.D : DFn := ⟨Q76.as, Q76.rs, Bool, fun x => Q76 N x.1 x.2.1 x.2.2.1 x.2.2.2.1, fun r o => r.1, fun b => (b, ()), fun b => (), none⟩
theorem Q76.fit : (Q76.D N).Fit := ⟨fun _ _ => rfl, fun _ _ => rfl, by kernel_rfl, (fun _ _ h => nomatch h), by kernel_rfl⟩
noncomputable def Q76.G : Gam := gamOf [(57, Q57.D N)]
def Q76.A : LA := fun k => bif Nat.beq k 0 then some ⟨[2, 3, 4, 5, 17, 18], [], [], [], [], 2, false⟩ else bif Nat.beq k 2 then some ⟨[2, 3, 4, 5, 9, 17, 18, 25, 26], [], [], [], [], 2, false⟩ else bif Nat.beq k 4 then some ⟨[2, 3, 4, 5, 9, 11, 12, 13, 14, 17, 18, 25, 26], [], [], [], [], 3, false⟩ else none
noncomputable def Q76.fin : St → Option Bool := resK tb Tryz.f76.results.toList (decRes (Q76.D N) Q76.lc)
noncomputable def Q76.k0 : List Item := stackAt [.r, .l, .r, .b] (bodyOf Tryz.f76) []
def Q76.st0 (r_ : TRules) (p_ : TPos) (player count t18_ : Int) : St := ⟨[oA, oA, oi player, oi count, .one (.ptr 0 0), .one (.ptr 1 0)] ++ rA 11 ++ [oi (p_.1.length : Int), oi t18_] ++ rA 71, [vR r_, vP p_]⟩
noncomputable def Q76.k1 : List Item := stackAt [.r, .l, .r, .b, .w, .r, .r, .l, .b, .r, .r, .b] (bodyOf Tryz.f76) []
def Q76.st1 (r_ : TRules) (p_ : TPos) (player count s_ t18_ t26_ : Int) : St := ⟨[oA, oA, oi player, oi count, .one (.ptr 0 0), .one (.ptr 1 0)] ++ rA 3 ++ [oi s_] ++ rA 7 ++ [oi (p_.1.length : Int), oi t18_] ++ rA 6 ++ [.agg [.int .i64 1, .int .i64 0, .int .i64 0, .int .i64 1, .int .i64 1, .int .i64 1, .int .i64 1, .int .i64 (-1)], oi t26_] ++ rA 63, [vR r_, vP p_]⟩
noncomputable def Q76.k2 : List Item := stackAt [.r, .l, .r, .b, .w, .r, .r, .l, .b, .r, .r, .b, .w, .r, .r, .l, .b, .r, .r, .l, .b] (bodyOf Tryz.f76) []
def Q76.st2 (r_ : TRules) (p_ : TPos) (player count s_ x_ y_ n_ t18_ t26_ d_ d_2 : Int) : St := ⟨[oA, oA, oi player, oi count, .one (.ptr 0 0), .one (.ptr 1 0)] ++ rA 3 ++ [oi s_, oA, .one (.ptr 2 0), oi x_, oi y_, oi n_, oA, oA, oi (p_.1.length : Int), oi t18_] ++ rA 6 ++ [.agg [.int .i64 1, .int .i64 0, .int .i64 0, .int .i64 1, .int .i64 1, .int .i64 1, .int .i64 1, .int .i64 (-1)], oi t26_] ++ rA 63, [vR r_, vP p_, .var 161 [.int .i64 d_, .int .i64 d_2]]⟩
theorem Q76.step0 (rec : RK Bool) (r_ : TRules) (p_ : TPos) (player count t18_ : Int) : seg tb (Q76.G N) Q76.A 0 rec (Q76.fin N) segFuel (loopBody Q76.k0) (Q76.st0 r_ p_ player count t18_) = Q76.s0 N r_ p_ player count (fun t18_ => rec Q76.k0 (Q76.st0 r_ p_ player count t18_)) (fun s_ t18_ t26_ => rec Q76.k1 (Q76.st1 r_ p_ player count s_ t18_ t26_)) (fun s_ x_ y_ n_ t18_ t26_ d_ d_2 => rec Q76.k2 (Q76.st2 r_ p_ player count s_ x_ y_ n_ t18_ t26_ d_ d_2)) t18_ := by kernel_rfl
theorem Q76.step1 (rec : RK Bool) (r_ : TRules) (p_ : TPos) (player count s_ t18_ t26_ : Int) : seg tb (Q76.G N) Q76.A 0 rec (Q76.fin N) segFuel (loopBody Q76.k1) (Q76.st1 r_ p_ player count s_ t18_ t26_) = Q76.s1 N r_ p_ player count (fun t18_ => rec Q76.k0 (Q76.st0 r_ p_ player count t18_)) (fun s_ t18_ t26_ => rec Q76.k1 (Q76.st1 r_ p_ player count s_ t18_ t26_)) (fun s_ x_ y_ n_ t18_ t26_ d_ d_2 => rec Q76.k2 (Q76.st2 r_ p_ player count s_ x_ y_ n_ t18_ t26_ d_ d_2)) s_ t18_ t26_ := by kernel_rfl
theorem Q76.step2 (rec : RK Bool) (r_ : TRules) (p_ : TPos) (player count s_ x_ y_ n_ t18_ t26_ d_ d_2 : Int) : seg tb (Q76.G N) Q76.A 0 rec (Q76.fin N) segFuel (loopBody Q76.k2) (Q76.st2 r_ p_ player count s_ x_ y_ n_ t18_ t26_ d_ d_2) = Q76.s2 N r_ p_ player count (fun t18_ => rec Q76.k0 (Q76.st0 r_ p_ player count t18_)) (fun s_ t18_ t26_ => rec Q76.k1 (Q76.st1 r_ p_ player count s_ t18_ t26_)) (fun s_ x_ y_ n_ t18_ t26_ d_ d_2 => rec Q76.k2 (Q76.st2 r_ p_ player count s_ x_ y_ n_ t18_ t26_ d_ d_2)) s_ x_ y_ n_ t18_ t26_ d_ d_2 := by kernel_rfl
theorem Q76.entry (rec : RK Bool) (x : (argH Q76.as).den) : seg tb (Q76.G N) Q76.A 0 rec (Q76.fin N) segFuel [.code (bodyOf Tryz.f76)] (initSt Tryz.f76 (encArgs Q76.as x) (encMem Q76.as x)) = Q76.e N (fun t18_ => rec Q76.k0 (Q76.st0 x.1 x.2.1 x.2.2.1 x.2.2.2.1 t18_)) (fun s_ t18_ t26_ => rec Q76.k1 (Q76.st1 x.1 x.2.1 x.2.2.1 x.2.2.2.1 s_ t18_ t26_)) (fun s_ x_ y_ n_ t18_ t26_ d_ d_2 => rec Q76.k2 (Q76.st2 x.1 x.2.1 x.2.2.1 x.2.2.2.1 s_ x_ y_ n_ t18_ t26_ d_ d_2)) x.1 x.2.1 x.2.2.1 x.2.2.2.1 := by kernel_rfl
theorem Q76.runs (N : Nat) (r_ : TRules) (p_ : TPos) (player count : Int) : ∀ n, (∀ (t18_ : Int), run tb (Q76.G N) Q76.A 0 (Q76.fin N) n Q76.k0 (Q76.st0 r_ p_ player count t18_) = Q76.l0 N r_ p_ player count n t18_) ∧ (∀ (s_ t18_ t26_ : Int), run tb (Q76.G N) Q76.A 0 (Q76.fin N) n Q76.k1 (Q76.st1 r_ p_ player count s_ t18_ t26_) = Q76.l1 N r_ p_ player count n s_ t18_ t26_) ∧ (∀ (s_ x_ y_ n_ t18_ t26_ d_ d_2 : Int), run tb (Q76.G N) Q76.A 0 (Q76.fin N) n Q76.k2 (Q76.st2 r_ p_ player count s_ x_ y_ n_ t18_ t26_ d_ d_2) = Q76.l2 N r_ p_ player count n s_ x_ y_ n_ t18_ t26_ d_ d_2)
 | 0 => ⟨fun _ => rfl, fun _ _ _ => rfl, fun _ _ _ _ _ _ _ _ => rfl⟩
 | n + 1 => by
  obtain ⟨h0, h1, h2⟩ := Q76.runs N r_ p_ player count n
  have e0 : (fun (t18_ : Int) => run tb (Q76.G N) Q76.A 0 (Q76.fin N) n Q76.k0 (Q76.st0 r_ p_ player count t18_)) = Q76.l0 N r_ p_ player count n := by funext t18_; exact h0 t18_
  have e1 : (fun (s_ t18_ t26_ : Int) => run tb (Q76.G N) Q76.A 0 (Q76.fin N) n Q76.k1 (Q76.st1 r_ p_ player count s_ t18_ t26_)) = Q76.l1 N r_ p_ player count n := by funext s_ t18_ t26_; exact h1 s_ t18_ t26_
  have e2 : (fun (s_ x_ y_ n_ t18_ t26_ d_ d_2 : Int) => run tb (Q76.G N) Q76.A 0 (Q76.fin N) n Q76.k2 (Q76.st2 r_ p_ player count s_ x_ y_ n_ t18_ t26_ d_ d_2)) = Q76.l2 N r_ p_ player count n := by funext s_ x_ y_ n_ t18_ t26_ d_ d_2; exact h2 s_ x_ y_ n_ t18_ t26_ d_ d_2
  have g0 : (∀ (t18_ : Int), run tb (Q76.G N) Q76.A 0 (Q76.fin N) (n + 1) Q76.k0 (Q76.st0 r_ p_ player count t18_) = Q76.l0 N r_ p_ player count (n + 1) t18_) := by
   intro t18_
   exact (run_succ (by kernel_rfl)).trans ((Q76.step0 N _ r_ p_ player count t18_).trans ((congr (congr (congrArg (fun r0 r1 r2 => Q76.s0 N r_ p_ player count r0 r1 r2 t18_) e0) e1) e2).trans (Q76.l0_s N r_ p_ player count n t18_).symm))
  have g1 : (∀ (s_ t18_ t26_ : Int), run tb (Q76.G N) Q76.A 0 (Q76.fin N) (n + 1) Q76.k1 (Q76.st1 r_ p_ player count s_ t18_ t26_) = Q76.l1 N r_ p_ player count (n + 1) s_ t18_ t26_) := by
   intro s_ t18_ t26_
   exact (run_succ (by kernel_rfl)).trans ((Q76.step1 N _ r_ p_ player count s_ t18_ t26_).trans ((congr (congr (congrArg (fun r0 r1 r2 => Q76.s1 N r_ p_ player count r0 r1 r2 s_ t18_ t26_) e0) e1) e2).trans (Q76.l1_s N r_ p_ player count n s_ t18_ t26_).symm))
  have g2 : (∀ (s_ x_ y_ n_ t18_ t26_ d_ d_2 : Int), run tb (Q76.G N) Q76.A 0 (Q76.fin N) (n + 1) Q76.k2 (Q76.st2 r_ p_ player count s_ x_ y_ n_ t18_ t26_ d_ d_2) = Q76.l2 N r_ p_ player count (n + 1) s_ x_ y_ n_ t18_ t26_ d_ d_2) := by
   intro s_ x_ y_ n_ t18_ t26_ d_ d_2
   exact (run_succ (by kernel_rfl)).trans ((Q76.step2 N _ r_ p_ player count s_ x_ y_ n_ t18_ t26_ d_ d_2).trans ((congr (congr (congrArg (fun r0 r1 r2 => Q76.s2 N r_ p_ player count r0 r1 r2 s_ x_ y_ n_ t18_ t26_ d_ d_2) e0) e1) e2).trans (Q76.l2_s N r_ p_ player count n s_ x_ y_ n_ t18_ t26_ d_ d_2).symm))
  exact ⟨g0, g1, g2⟩
theorem Q76.ok : FnOk Tryz.prog 76 (Q76.D N) := by
 refine FnOk_of tb_ok (Checked.mixed Tryz.checked) ⟨Tryz.f76, Tryz.func76, by kernel_rfl, by kernel_rfl, fun x y h => ⟨Q76.G N, Q76.A, N, gamOf_ok (gc ⟨Q57.ok N, Q57.fit N⟩ gn), ?_⟩⟩ (Q76.fit N)
 rw [absFn_n (n0 := 0) rfl (by kernel_rfl)]
 refine (Q76.entry N (run tb (Q76.G N) Q76.A 0 (Q76.fin N) N) x).trans ?_
 have e0 : (fun (t18_ : Int) => run tb (Q76.G N) Q76.A 0 (Q76.fin N) N Q76.k0 (Q76.st0 x.1 x.2.1 x.2.2.1 x.2.2.2.1 t18_)) = Q76.l0 N x.1 x.2.1 x.2.2.1 x.2.2.2.1 N := by funext t18_; exact (Q76.runs N x.1 x.2.1 x.2.2.1 x.2.2.2.1 N).1 t18_
 have e1 : (fun (s_ t18_ t26_ : Int) => run tb (Q76.G N) Q76.A 0 (Q76.fin N) N Q76.k1 (Q76.st1 x.1 x.2.1 x.2.2.1 x.2.2.2.1 s_ t18_ t26_)) = Q76.l1 N x.1 x.2.1 x.2.2.1 x.2.2.2.1 N := by funext s_ t18_ t26_; exact (Q76.runs N x.1 x.2.1 x.2.2.1 x.2.2.2.1 N).2.1 s_ t18_ t26_
 have e2 : (fun (s_ x_ y_ n_ t18_ t26_ d_ d_2 : Int) => run tb (Q76.G N) Q76.A 0 (Q76.fin N) N Q76.k2 (Q76.st2 x.1 x.2.1 x.2.2.1 x.2.2.2.1 s_ x_ y_ n_ t18_ t26_ d_ d_2)) = Q76.l2 N x.1 x.2.1 x.2.2.1 x.2.2.2.1 N := by funext s_ x_ y_ n_ t18_ t26_ d_ d_2; exact (Q76.runs N x.1 x.2.1 x.2.2.1 x.2.2.2.1 N).2.2 s_ x_ y_ n_ t18_ t26_ d_ d_2
 have h' : (Q76.D N).f x = Q76.e N (Q76.l0 N x.1 x.2.1 x.2.2.1 x.2.2.2.1 N) (Q76.l1 N x.1 x.2.1 x.2.2.1 x.2.2.2.1 N) (Q76.l2 N x.1 x.2.1 x.2.2.1 x.2.2.2.1 N) x.1 x.2.1 x.2.2.1 x.2.2.2.1 := by kernel_rfl
 exact (congr (congr (congrArg (fun r0 r1 r2 => Q76.e N r0 r1 r2 x.1 x.2.1 x.2.2.1 x.2.2.2.1) e0) e1) e2).trans (h'.symm.trans h)
def Q45.as : List MK := [.d false tI, .d false tI]
def Q45.rs : List (Bool × HT) := [(false, (.d tI))]
def Q45.lc : List AC := []
def Q45.D : DFn := ⟨Q45.as, Q45.rs, Int, fun x => Q45 N x.1 x.2.1, fun r o => r.1, fun b => (b, ()), fun b => (), none⟩
theorem Q45.fit : (Q45.D N).Fit := ⟨fun _ _ => rfl, fun _ _ => rfl, by kernel_rfl, (fun _ _ h => nomatch h), by kernel_rfl⟩
noncomputable def Q45.G (N : Nat) : Gam := gamOf []
def Q45.A : LA := fun _ => none
noncomputable def Q45.fin : St → Option Int := resK tb Tryz.f45.results.toList (decRes (Q45.D N) Q45.lc)
theorem Q45.entry (rec : RK Int) (x : (argH Q45.as).den) : seg tb (Q45.G N) Q45.A 0 rec (Q45.fin N) segFuel [.code (bodyOf Tryz.f45)] (initSt Tryz.f45 (encArgs Q45.as x) (encMem Q45.as x)) = Q45.e N x.1 x.2.1 := by kernel_rfl
theorem Q45.ok : FnOk Tryz.prog 45 (Q45.D N) := by
 refine FnOk_of tb_ok (Checked.mixed Tryz.checked) ⟨Tryz.f45, Tryz.func45, by kernel_rfl, by kernel_rfl, fun x y h => ⟨Q45.G N, Q45.A, N, gamOf_ok (fun p hp => nomatch hp), ?_⟩⟩ (Q45.fit N)
 rw [absFn_n (n0 := 0) rfl (by kernel_rfl)]
 exact (Q45.entry N _ x).trans h
def Q77.as : List MK := [.d true qa, .d false tI, .d false tI]
def Q77.rs : List (Bool × HT) := [(false, (.d .bool))]
def Q77.lc : List AC := []
def Q77.D : DFn := ⟨Q77.as, Q77.rs, Bool, fun x => Q77 N x.1 x.2.1 x.2.2.1, fun r o => r.1, fun b => (b, ()), fun b => (), none⟩
theorem Q77.fit : (Q77.D N).Fit := ⟨fun _ _ => rfl, fun _ _ => rfl, by kernel_rfl, (fun _ _ h => nomatch h), by kernel_rfl⟩
noncomputable def Q77.G (N : Nat) : Gam := gamOf []
def Q77.A : LA := fun _ => none
noncomputable def Q77.fin : St → Option Bool := resK tb Tryz.f77.results.toList (decRes (Q77.D N) Q77.lc)
theorem Q77.entry (rec : RK Bool) (x : (argH Q77.as).den) : seg tb (Q77.G N) Q77.A 0 rec (Q77.fin N) segFuel [.code (bodyOf Tryz.f77)] (initSt Tryz.f77 (encArgs Q77.as x) (encMem Q77.as x)) = Q77.e N x.1 x.2.1 x.2.2.1 := by kernel_rfl
theorem Q77.ok : FnOk Tryz.prog 77 (Q77.D N) := by
 refine FnOk_of tb_ok (Checked.mixed Tryz.checked) ⟨Tryz.f77, Tryz.func77, by kernel_rfl, by kernel_rfl, fun x y h => ⟨Q77.G N, Q77.A, N, gamOf_ok (fun p hp => nomatch hp), ?_⟩⟩ (Q77.fit N)
 rw [absFn_n (n0 := 0) rfl (by kernel_rfl)]
 exact (Q77.entry N _ x).trans h
def Q54.as : List MK := [.d true qa, .d true qc, .d true qe]
def Q54.rs : List (Bool × HT) := [(false, (.d .bool))]
def Q54.lc : List AC := []
def Q54.D : DFn := ⟨Q54.as, Q54.rs, Bool, fun x => Q54 N x.1 x.2.1 x.2.2.1, fun r o => r.1, fun b => (b, ()), fun b => (), none⟩
theorem Q54.fit : (Q54.D N).Fit := ⟨fun _ _ => rfl, fun _ _ => rfl, by kernel_rfl, (fun _ _ h => nomatch h), by kernel_rfl⟩
noncomputable def Q54.G : Gam := gamOf [(76, Q76.D N), (45, Q45.D N), (77, Q77.D N)]
def Q54.A : LA := fun k => bif Nat.beq k 1 then some ⟨[3, 5, 7, 29, 30, 31], [], [], [], [1], 3, false⟩ else bif Nat.beq k 3 then some ⟨[4, 5, 10, 50, 51, 52], [], [], [], [0], 3, false⟩ else none
noncomputable def Q54.fin : St → Option Bool := resK tb Tryz.f54.results.toList (decRes (Q54.D N) Q54.lc)
noncomputable def Q54.k0 : List Item := stackAt [.r, .r, .l, .r, .b, .r, .e, .r, .t, .l, .r, .b] (bodyOf Tryz.f54) []
def Q54.st0 (r_ : TRules) (p_ : TPos) (x_ : TEnd) (t31_ : Int) : St := ⟨rA 3 ++ [.one (.ptr 0 0), oA, .one (.ptr 2 0), oA, oi (w64 (1 - p_.2.2.1))] ++ rA 21 ++ [.one (.fro 3 tI p_.1), oi (p_.1.length : Int), oi t31_] ++ rA 38, [vR r_, .gone, .var 91 [.int .i64 x_.1, .int .i64 x_.2.1, .int .i64 x_.2.2.1, .bool x_.2.2.2]]⟩
noncomputable def Q54.k1 : List Item := stackAt [.r, .r, .r, .r, .l, .r, .b] (bodyOf Tryz.f54) []
def Q54.st1 (r_ : TRules) (p_ : TPos) (x_ : TEnd) (n_ t52_ : Int) : St := ⟨rA 4 ++ [.one (.ptr 1 0), .one (.ptr 2 0)] ++ rA 4 ++ [oi n_] ++ rA 39 ++ [.one (.fro 3 tI p_.1), oi (p_.1.length : Int), oi t52_] ++ rA 17, [.gone, vP p_, .var 91 [.int .i64 x_.1, .int .i64 x_.2.1, .int .i64 x_.2.2.1, .bool x_.2.2.2]]⟩
theorem Q54.step0 (rec : RK Bool) (r_ : TRules) (p_ : TPos) (x_ : TEnd) (t31_ : Int) : seg tb (Q54.G N) Q54.A 0 rec (Q54.fin N) segFuel (loopBody Q54.k0) (Q54.st0 r_ p_ x_ t31_) = Q54.s0 N r_ p_ x_ (fun t31_ => rec Q54.k0 (Q54.st0 r_ p_ x_ t31_)) (fun n_ t52_ => rec Q54.k1 (Q54.st1 r_ p_ x_ n_ t52_)) t31_ := by kernel_rfl
theorem Q54.step1 (rec : RK Bool) (r_ : TRules) (p_ : TPos) (x_ : TEnd) (n_ t52_ : Int) : seg tb (Q54.G N) Q54.A 0 rec (Q54.fin N) segFuel (loopBody Q54.k1) (Q54.st1 r_ p_ x_ n_ t52_) = Q54.s1 N r_ p_ x_ (fun t31_ => rec Q54.k0 (Q54.st0 r_ p_ x_ t31_)) (fun n_ t52_ => rec Q54.k1 (Q54.st1 r_ p_ x_ n_ t52_)) n_ t52_ := by kernel_rfl
theorem Q54.entry (rec : RK Bool) (x : (argH Q54.as).den) : seg tb (Q54.G N) Q54.A 0 rec (Q54.fin N) segFuel [.code (bodyOf Tryz.f54)] (initSt Tryz.f54 (encArgs Q54.as x) (encMem Q54.as x)) = Q54.e N (fun t31_ => rec Q54.k0 (Q54.st0 x.1 x.2.1 x.2.2.1 t31_)) (fun n_ t52_ => rec Q54.k1 (Q54.st1 x.1 x.2.1 x.2.2.1 n_ t52_)) x.1 x.2.1 x.2.2.1 := by kernel_rfl
theorem Q54.runs (N : Nat) (r_ : TRules) (p_ : TPos) (x_ : TEnd) : ∀ n, (∀ (t31_ : Int), run tb (Q54.G N) Q54.A 0 (Q54.fin N) n Q54.k0 (Q54.st0 r_ p_ x_ t31_) = Q54.l0 N r_ p_ x_ n t31_) ∧ (∀ (n_ t52_ : Int), run tb (Q54.G N) Q54.A 0 (Q54.fin N) n Q54.k1 (Q54.st1 r_ p_ x_ n_ t52_) = Q54.l1 N r_ p_ x_ n n_ t52_)
 | 0 => ⟨fun _ => rfl, fun _ _ => rfl⟩
 | n + 1 => by
  obtain ⟨h0, h1⟩ := Q54.runs N r_ p_ x_ n
  have e0 : (fun (t31_ : Int) => run tb (Q54.G N) Q54.A 0 (Q54.fin N) n Q54.k0 (Q54.st0 r_ p_ x_ t31_)) = Q54.l0 N r_ p_ x_ n := by funext t31_; exact h0 t31_
  have e1 : (fun (n_ t52_ : Int) => run tb (Q54.G N) Q54.A 0 (Q54.fin N) n Q54.k1 (Q54.st1 r_ p_ x_ n_ t52_)) = Q54.l1 N r_ p_ x_ n := by funext n_ t52_; exact h1 n_ t52_
  have g0 : (∀ (t31_ : Int), run tb (Q54.G N) Q54.A 0 (Q54.fin N) (n + 1) Q54.k0 (Q54.st0 r_ p_ x_ t31_) = Q54.l0 N r_ p_ x_ (n + 1) t31_) := by
   intro t31_
   exact (run_succ (by kernel_rfl)).trans ((Q54.step0 N _ r_ p_ x_ t31_).trans ((congr (congrArg (fun r0 r1 => Q54.s0 N r_ p_ x_ r0 r1 t31_) e0) e1).trans (Q54.l0_s N r_ p_ x_ n t31_).symm))
  have g1 : (∀ (n_ t52_ : Int), run tb (Q54.G N) Q54.A 0 (Q54.fin N) (n + 1) Q54.k1 (Q54.st1 r_ p_ x_ n_ t52_) = Q54.l1 N r_ p_ x_ (n + 1) n_ t52_) := by
   intro n_ t52_
   exact (run_succ (by kernel_rfl)).trans ((Q54.step1 N _ r_ p_ x_ n_ t52_).trans ((congr (congrArg (fun r0 r1 => Q54.s1 N r_ p_ x_ r0 r1 n_ t52_) e0) e1).trans (Q54.l1_s N r_ p_ x_ n n_ t52_).symm))
  exact ⟨g0, g1⟩
theorem Q54.ok : FnOk Tryz.prog 54 (Q54.D N) := by
 refine FnOk_of tb_ok (Checked.mixed Tryz.checked) ⟨Tryz.f54, Tryz.func54, by kernel_rfl, by kernel_rfl, fun x y h => ⟨Q54.G N, Q54.A, N, gamOf_ok (gc ⟨Q76.ok N, Q76.fit N⟩ (gc ⟨Q45.ok N, Q45.fit N⟩ (gc ⟨Q77.ok N, Q77.fit N⟩ gn))), ?_⟩⟩ (Q54.fit N)
 rw [absFn_n (n0 := 0) rfl (by kernel_rfl)]
 refine (Q54.entry N (run tb (Q54.G N) Q54.A 0 (Q54.fin N) N) x).trans ?_
 have e0 : (fun (t31_ : Int) => run tb (Q54.G N) Q54.A 0 (Q54.fin N) N Q54.k0 (Q54.st0 x.1 x.2.1 x.2.2.1 t31_)) = Q54.l0 N x.1 x.2.1 x.2.2.1 N := by funext t31_; exact (Q54.runs N x.1 x.2.1 x.2.2.1 N).1 t31_
 have e1 : (fun (n_ t52_ : Int) => run tb (Q54.G N) Q54.A 0 (Q54.fin N) N Q54.k1 (Q54.st1 x.1 x.2.1 x.2.2.1 n_ t52_)) = Q54.l1 N x.1 x.2.1 x.2.2.1 N := by funext n_ t52_; exact (Q54.runs N x.1 x.2.1 x.2.2.1 N).2 n_ t52_
 have h' : (Q54.D N).f x = Q54.e N (Q54.l0 N x.1 x.2.1 x.2.2.1 N) (Q54.l1 N x.1 x.2.1 x.2.2.1 N) x.1 x.2.1 x.2.2.1 := by kernel_rfl
 exact (congr (congrArg (fun r0 r1 => Q54.e N r0 r1 x.1 x.2.1 x.2.2.1) e0) e1).trans (h'.symm.trans h)
def Q55.as : List MK := [.d false tI]
def Q55.rs : List (Bool × HT) := [(false, (.d tI))]
def Q55.lc : List AC := []
def Q55.D : DFn := ⟨Q55.as, Q55.rs, Int, fun x => Q55 N x.1, fun r o => r.1, fun b => (b, ()), fun b => (), none⟩
theorem Q55.fit : (Q55.D N).Fit := ⟨fun _ _ => rfl, fun _ _ => rfl, by kernel_rfl, (fun _ _ h => nomatch h), by kernel_rfl⟩
noncomputable def Q55.G (N : Nat) : Gam := gamOf []
def Q55.A : LA := fun _ => none
noncomputable def Q55.fin : St → Option Int := resK tb Tryz.f55.results.toList (decRes (Q55.D N) Q55.lc)
theorem Q55.entry (rec : RK Int) (x : (argH Q55.as).den) : seg tb (Q55.G N) Q55.A 0 rec (Q55.fin N) segFuel [.code (bodyOf Tryz.f55)] (initSt Tryz.f55 (encArgs Q55.as x) (encMem Q55.as x)) = Q55.e N x.1 := by kernel_rfl
theorem Q55.ok : FnOk Tryz.prog 55 (Q55.D N) := by
 refine FnOk_of tb_ok (Checked.mixed Tryz.checked) ⟨Tryz.f55, Tryz.func55, by kernel_rfl, by kernel_rfl, fun x y h => ⟨Q55.G N, Q55.A, N, gamOf_ok (fun p hp => nomatch hp), ?_⟩⟩ (Q55.fit N)
 rw [absFn_n (n0 := 0) rfl (by kernel_rfl)]
 exact (Q55.entry N _ x).trans h
def Q44.as : List MK := [.d false tI]
def Q44.rs : List (Bool × HT) := [(false, (.d tI))]
def Q44.lc : List AC := []
def Q44.D : DFn := ⟨Q44.as, Q44.rs, Int, fun x => Q44 N x.1, fun r o => r.1, fun b => (b, ()), fun b => (), none⟩
theorem Q44.fit : (Q44.D N).Fit := ⟨fun _ _ => rfl, fun _ _ => rfl, by kernel_rfl, (fun _ _ h => nomatch h), by kernel_rfl⟩
noncomputable def Q44.G (N : Nat) : Gam := gamOf []
def Q44.A : LA := fun _ => none
noncomputable def Q44.fin : St → Option Int := resK tb Tryz.f44.results.toList (decRes (Q44.D N) Q44.lc)
theorem Q44.entry (rec : RK Int) (x : (argH Q44.as).den) : seg tb (Q44.G N) Q44.A 0 rec (Q44.fin N) segFuel [.code (bodyOf Tryz.f44)] (initSt Tryz.f44 (encArgs Q44.as x) (encMem Q44.as x)) = Q44.e N x.1 := by kernel_rfl
theorem Q44.ok : FnOk Tryz.prog 44 (Q44.D N) := by
 refine FnOk_of tb_ok (Checked.mixed Tryz.checked) ⟨Tryz.f44, Tryz.func44, by kernel_rfl, by kernel_rfl, fun x y h => ⟨Q44.G N, Q44.A, N, gamOf_ok (fun p hp => nomatch hp), ?_⟩⟩ (Q44.fit N)
 rw [absFn_n (n0 := 0) rfl (by kernel_rfl)]
 exact (Q44.entry N _ x).trans h
def Q101.as : List MK := [.d false (.int .u64)]
def Q101.rs : List (Bool × HT) := [(false, (.d tI))]
def Q101.lc : List AC := []
def Q101.D : DFn := ⟨Q101.as, Q101.rs, Int, fun x => Q101 N x.1, fun r o => r.1, fun b => (b, ()), fun b => (), none⟩
theorem Q101.fit : (Q101.D N).Fit := ⟨fun _ _ => rfl, fun _ _ => rfl, by kernel_rfl, (fun _ _ h => nomatch h), by kernel_rfl⟩
noncomputable def Q101.G (N : Nat) : Gam := gamOf []
def Q101.A : LA := fun _ => none
noncomputable def Q101.fin : St → Option Int := resK tb Tryz.f101.results.toList (decRes (Q101.D N) Q101.lc)
theorem Q101.entry (rec : RK Int) (x : (argH Q101.as).den) : seg tb (Q101.G N) Q101.A 0 rec (Q101.fin N) segFuel [.code (bodyOf Tryz.f101)] (initSt Tryz.f101 (encArgs Q101.as x) (encMem Q101.as x)) = Q101.e N x.1 := by kernel_rfl
theorem Q101.ok : FnOk Tryz.prog 101 (Q101.D N) := by
 refine FnOk_of tb_ok (Checked.mixed Tryz.checked) ⟨Tryz.f101, Tryz.func101, by kernel_rfl, by kernel_rfl, fun x y h => ⟨Q101.G N, Q101.A, N, gamOf_ok (fun p hp => nomatch hp), ?_⟩⟩ (Q101.fit N)
 rw [absFn_n (n0 := 0) rfl (by kernel_rfl)]
 exact (Q101.entry N _ x).trans h
def Q80.as : List MK := [.d false (.int .u64)]
def Q80.rs : List (Bool × HT) := [(false, (.d tI))]
def Q80.lc : List AC := []
def Q80.D : DFn := ⟨Q80.as, Q80.rs, Int, fun x => Q80 N x.1, fun r o => r.1, fun b => (b, ()), fun b => (), none⟩
theorem Q80.fit : (Q80.D N).Fit := ⟨fun _ _ => rfl, fun _ _ => rfl, by kernel_rfl, (fun _ _ h => nomatch h), by kernel_rfl⟩
noncomputable def Q80.G : Gam := gamOf [(101, Q101.D N)]
def Q80.A : LA := fun _ => none
noncomputable def Q80.fin : St → Option Int := resK tb Tryz.f80.results.toList (decRes (Q80.D N) Q80.lc)
theorem Q80.entry (rec : RK Int) (x : (argH Q80.as).den) : seg tb (Q80.G N) Q80.A 0 rec (Q80.fin N) segFuel [.code (bodyOf Tryz.f80)] (initSt Tryz.f80 (encArgs Q80.as x) (encMem Q80.as x)) = Q80.e N x.1 := by kernel_rfl
theorem Q80.ok : FnOk Tryz.prog 80 (Q80.D N) := by
 refine FnOk_of tb_ok (Checked.mixed Tryz.checked) ⟨Tryz.f80, Tryz.func80, by kernel_rfl, by kernel_rfl, fun x y h => ⟨Q80.G N, Q80.A, N, gamOf_ok (gc ⟨Q101.ok N, Q101.fit N⟩ gn), ?_⟩⟩ (Q80.fit N)
 rw [absFn_n (n0 := 0) rfl (by kernel_rfl)]
 exact (Q80.entry N _ x).trans h
def Q102.as : List MK := [.d false tI]
def Q102.rs : List (Bool × HT) := [(false, (.d .bool))]
def Q102.lc : List AC := []
def Q102.D : DFn := ⟨Q102.as, Q102.rs, Bool, fun x => Q102 N x.1, fun r o => r.1, fun b => (b, ()), fun b => (), none⟩
theorem Q102.fit : (Q102.D N).Fit := ⟨fun _ _ => rfl, fun _ _ => rfl, by kernel_rfl, (fun _ _ h => nomatch h), by kernel_rfl⟩
noncomputable def Q102.G (N : Nat) : Gam := gamOf []
def Q102.A : LA := fun _ => none
noncomputable def Q102.fin : St → Option Bool := resK tb Tryz.f102.results.toList (decRes (Q102.D N) Q102.lc)
theorem Q102.entry (rec : RK Bool) (x : (argH Q102.as).den) : seg tb (Q102.G N) Q102.A 0 rec (Q102.fin N) segFuel [.code (bodyOf Tryz.f102)] (initSt Tryz.f102 (encArgs Q102.as x) (encMem Q102.as x)) = Q102.e N x.1 := by kernel_rfl
theorem Q102.ok : FnOk Tryz.prog 102 (Q102.D N) := by
 refine FnOk_of tb_ok (Checked.mixed Tryz.checked) ⟨Tryz.f102, Tryz.func102, by kernel_rfl, by kernel_rfl, fun x y h => ⟨Q102.G N, Q102.A, N, gamOf_ok (fun p hp => nomatch hp), ?_⟩⟩ (Q102.fit N)
 rw [absFn_n (n0 := 0) rfl (by kernel_rfl)]
 exact (Q102.entry N _ x).trans h
def Q82.as : List MK := [.d false tI, .d false tI]
def Q82.rs : List (Bool × HT) := [(false, (.d tI))]
def Q82.lc : List AC := []
def Q82.D : DFn := ⟨Q82.as, Q82.rs, Int, fun x => Q82 N x.1 x.2.1, fun r o => r.1, fun b => (b, ()), fun b => (), none⟩
theorem Q82.fit : (Q82.D N).Fit := ⟨fun _ _ => rfl, fun _ _ => rfl, by kernel_rfl, (fun _ _ h => nomatch h), by kernel_rfl⟩
noncomputable def Q82.G : Gam := gamOf [(102, Q102.D N)]
def Q82.A : LA := fun _ => none
noncomputable def Q82.fin : St → Option Int := resK tb Tryz.f82.results.toList (decRes (Q82.D N) Q82.lc)
theorem Q82.entry (rec : RK Int) (x : (argH Q82.as).den) : seg tb (Q82.G N) Q82.A 0 rec (Q82.fin N) segFuel [.code (bodyOf Tryz.f82)] (initSt Tryz.f82 (encArgs Q82.as x) (encMem Q82.as x)) = Q82.e N x.1 x.2.1 := by kernel_rfl
theorem Q82.ok : FnOk Tryz.prog 82 (Q82.D N) := by
 refine FnOk_of tb_ok (Checked.mixed Tryz.checked) ⟨Tryz.f82, Tryz.func82, by kernel_rfl, by kernel_rfl, fun x y h => ⟨Q82.G N, Q82.A, N, gamOf_ok (gc ⟨Q102.ok N, Q102.fit N⟩ gn), ?_⟩⟩ (Q82.fit N)
 rw [absFn_n (n0 := 0) rfl (by kernel_rfl)]
 exact (Q82.entry N _ x).trans h
def Q81.as : List MK := [.d false (.slice 3 tI)]
def Q81.rs : List (Bool × HT) := [(false, (.d tI))]
def Q81.lc : List AC := []
def Q81.D : DFn := ⟨Q81.as, Q81.rs, Int, fun x => Q81 N x.1, fun r o => r.1, fun b => (b, ()), fun b => (), none⟩
theorem Q81.fit : (Q81.D N).Fit := ⟨fun _ _ => rfl, fun _ _ => rfl, by kernel_rfl, (fun _ _ h => nomatch h), by kernel_rfl⟩
noncomputable def Q81.G (N : Nat) : Gam := gamOf []
def Q81.A : LA := fun k => bif Nat.beq k 0 then some ⟨[3, 6, 7, 8], [], [], [], [], 0, false⟩ else none
noncomputable def Q81.fin : St → Option Int := resK tb Tryz.f81.results.toList (decRes (Q81.D N) Q81.lc)
noncomputable def Q81.k0 : List Item := stackAt [.r, .r, .l, .r, .b] (bodyOf Tryz.f81) []
def Q81.st0 (vals : LInt) (t8_ : Int) : St := ⟨rA 3 ++ [oi 0, oA, oA, .one (.fro 3 tI vals), oi (vals.length : Int), oi t8_] ++ rA 9, []⟩
theorem Q81.step0 (rec : RK Int) (vals : LInt) (t8_ : Int) : seg tb (Q81.G N) Q81.A 0 rec (Q81.fin N) segFuel (loopBody Q81.k0) (Q81.st0 vals t8_) = Q81.s0 N vals (fun t8_ => rec Q81.k0 (Q81.st0 vals t8_)) t8_ := by kernel_rfl
theorem Q81.entry (rec : RK Int) (x : (argH Q81.as).den) : seg tb (Q81.G N) Q81.A 0 rec (Q81.fin N) segFuel [.code (bodyOf Tryz.f81)] (initSt Tryz.f81 (encArgs Q81.as x) (encMem Q81.as x)) = Q81.e N (fun t8_ => rec Q81.k0 (Q81.st0 x.1 t8_)) x.1 := by kernel_rfl
theorem Q81.runs (N : Nat) (vals : LInt) : ∀ n, (∀ (t8_ : Int), run tb (Q81.G N) Q81.A 0 (Q81.fin N) n Q81.k0 (Q81.st0 vals t8_) = Q81.l0 N vals n t8_)
 | 0 => fun _ => rfl
 | n + 1 => by
  have h0 := Q81.runs N vals n
  have e0 : (fun (t8_ : Int) => run tb (Q81.G N) Q81.A 0 (Q81.fin N) n Q81.k0 (Q81.st0 vals t8_)) = Q81.l0 N vals n := by funext t8_; exact h0 t8_
  have g0 : (∀ (t8_ : Int), run tb (Q81.G N) Q81.A 0 (Q81.fin N) (n + 1) Q81.k0 (Q81.st0 vals t8_) = Q81.l0 N vals (n + 1) t8_) := by
   intro t8_
   exact (run_succ (by kernel_rfl)).trans ((Q81.step0 N _ vals t8_).trans ((congrArg (fun r0 => Q81.s0 N vals r0 t8_) e0).trans (Q81.l0_s N vals n t8_).symm))
  exact g0
theorem Q81.ok : FnOk Tryz.prog 81 (Q81.D N) := by
 refine FnOk_of tb_ok (Checked.mixed Tryz.checked) ⟨Tryz.f81, Tryz.func81, by kernel_rfl, by kernel_rfl, fun x y h => ⟨Q81.G N, Q81.A, N, gamOf_ok (fun p hp => nomatch hp), ?_⟩⟩ (Q81.fit N)
 rw [absFn_n (n0 := 0) rfl (by kernel_rfl)]
 refine (Q81.entry N (run tb (Q81.G N) Q81.A 0 (Q81.fin N) N) x).trans ?_
 have e0 : (fun (t8_ : Int) => run tb (Q81.G N) Q81.A 0 (Q81.fin N) N Q81.k0 (Q81.st0 x.1 t8_)) = Q81.l0 N x.1 N := by funext t8_; exact (Q81.runs N x.1 N) t8_
 have h' : (Q81.D N).f x = Q81.e N (Q81.l0 N x.1 N) x.1 := by kernel_rfl
 exact (congrArg (fun r0 => Q81.e N r0 x.1) e0).trans (h'.symm.trans h)
def Q60.as : List MK := [.d true qd, .d true qd]
def Q60.rs : List (Bool × HT) := [(false, (.d tI))]
def Q60.lc : List AC := []
def Q60.D : DFn := ⟨Q60.as, Q60.rs, Int, fun x => Q60 N x.1 x.2.1, fun r o => r.1, fun b => (b, ()), fun b => (), none⟩
theorem Q60.fit : (Q60.D N).Fit := ⟨fun _ _ => rfl, fun _ _ => rfl, by kernel_rfl, (fun _ _ h => nomatch h), by kernel_rfl⟩
noncomputable def Q60.G : Gam := gamOf [(82, Q82.D N), (81, Q81.D N)]
def Q60.A : LA := fun _ => none
noncomputable def Q60.fin : St → Option Int := resK tb Tryz.f60.results.toList (decRes (Q60.D N) Q60.lc)
theorem Q60.entry (rec : RK Int) (x : (argH Q60.as).den) : seg tb (Q60.G N) Q60.A 0 rec (Q60.fin N) segFuel [.code (bodyOf Tryz.f60)] (initSt Tryz.f60 (encArgs Q60.as x) (encMem Q60.as x)) = Q60.e N x.1 x.2.1 := by kernel_rfl
theorem Q60.ok : FnOk Tryz.prog 60 (Q60.D N) := by
 refine FnOk_of tb_ok (Checked.mixed Tryz.checked) ⟨Tryz.f60, Tryz.func60, by kernel_rfl, by kernel_rfl, fun x y h => ⟨Q60.G N, Q60.A, N, gamOf_ok (gc ⟨Q82.ok N, Q82.fit N⟩ (gc ⟨Q81.ok N, Q81.fit N⟩ gn)), ?_⟩⟩ (Q60.fit N)
 rw [absFn_n (n0 := 0) rfl (by kernel_rfl)]
 exact (Q60.entry N _ x).trans h
def Q92.as : List MK := [.o (.own 80 qd) true, .d false tI, .d false tI, .f 60]
def Q92.rs : List (Bool × HT) := []
def Q92.lc : List AC := [.own 0]
def Q92.D : DFn := ⟨Q92.as, Q92.rs, LMv, fun x => Q92 N x.1 x.2.1 x.2.2.1, fun r o => o.1, fun b => (), fun b => (b, ()), none⟩
theorem Q92.fit : (Q92.D N).Fit := ⟨fun _ _ => rfl, fun _ _ => rfl, by kernel_rfl, (fun _ _ h => nomatch h), by kernel_rfl⟩
noncomputable def Q92.G : Gam := gamOf [(60, Q60.D N)]
def Q92.A : LA := fun k => bif Nat.beq k 0 then some ⟨[0, 1, 2, 3, 8], [], [], [], [], 1, false⟩ else bif Nat.beq k 2 then some ⟨[0, 1, 2, 3, 8, 9], [], [], [], [], 1, false⟩ else none
noncomputable def Q92.fin : St → Option LMv := resK tb Tryz.f92.results.toList (decRes (Q92.D N) Q92.lc)
noncomputable def Q92.k0 : List Item := stackAt [.r, .b] (bodyOf Tryz.f92) []
def Q92.st0 (data : LMv) (a_ b_ i_ : Int) (data2 : LMv) : St := ⟨[.one (.own 0), oi a_, oi b_, .one (.fn 60)] ++ rA 4 ++ [oi i_] ++ rA 44, [.row 80 qd data2]⟩
noncomputable def Q92.k1 : List Item := stackAt [.r, .b, .w, .r, .l, .b, .r, .b] (bodyOf Tryz.f92) []
def Q92.st1 (data : LMv) (a_ b_ i_ j_ : Int) (data2 : LMv) : St := ⟨[.one (.own 0), oi a_, oi b_, .one (.fn 60)] ++ rA 4 ++ [oi i_, oi j_] ++ rA 43, [.row 80 qd data2]⟩
theorem Q92.step0 (rec : RK LMv) (data : LMv) (a_ b_ i_ : Int) (data2 : LMv) : seg tb (Q92.G N) Q92.A 1 rec (Q92.fin N) segFuel (loopBody Q92.k0) (Q92.st0 data a_ b_ i_ data2) = Q92.s0 N data a_ b_ (fun i_ data2 => rec Q92.k0 (Q92.st0 data a_ b_ i_ data2)) (fun i_ j_ data2 => rec Q92.k1 (Q92.st1 data a_ b_ i_ j_ data2)) i_ data2 := by kernel_rfl
theorem Q92.step1 (rec : RK LMv) (data : LMv) (a_ b_ i_ j_ : Int) (data2 : LMv) : seg tb (Q92.G N) Q92.A 1 rec (Q92.fin N) segFuel (loopBody Q92.k1) (Q92.st1 data a_ b_ i_ j_ data2) = Q92.s1 N data a_ b_ (fun i_ data2 => rec Q92.k0 (Q92.st0 data a_ b_ i_ data2)) (fun i_ j_ data2 => rec Q92.k1 (Q92.st1 data a_ b_ i_ j_ data2)) i_ j_ data2 := by kernel_rfl
theorem Q92.entry (rec : RK LMv) (x : (argH Q92.as).den) : seg tb (Q92.G N) Q92.A 1 rec (Q92.fin N) segFuel [.code (bodyOf Tryz.f92)] (initSt Tryz.f92 (encArgs Q92.as x) (encMem Q92.as x)) = Q92.e N (fun i_ data2 => rec Q92.k0 (Q92.st0 x.1 x.2.1 x.2.2.1 i_ data2)) (fun i_ j_ data2 => rec Q92.k1 (Q92.st1 x.1 x.2.1 x.2.2.1 i_ j_ data2)) x.1 x.2.1 x.2.2.1 := by kernel_rfl
theorem Q92.runs (N : Nat) (data : LMv) (a_ b_ : Int) : ∀ n, (∀ (i_ : Int) (data2 : LMv), run tb (Q92.G N) Q92.A 1 (Q92.fin N) n Q92.k0 (Q92.st0 data a_ b_ i_ data2) = Q92.l0 N data a_ b_ n i_ data2) ∧ (∀ (i_ j_ : Int) (data2 : LMv), run tb (Q92.G N) Q92.A 1 (Q92.fin N) n Q92.k1 (Q92.st1 data a_ b_ i_ j_ data2) = Q92.l1 N data a_ b_ n i_ j_ data2)
 | 0 => ⟨fun _ _ => rfl, fun _ _ _ => rfl⟩
 | n + 1 => by
  obtain ⟨h0, h1⟩ := Q92.runs N data a_ b_ n
  have e0 : (fun (i_ : Int) (data2 : LMv) => run tb (Q92.G N) Q92.A 1 (Q92.fin N) n Q92.k0 (Q92.st0 data a_ b_ i_ data2)) = Q92.l0 N data a_ b_ n := by funext i_ data2; exact h0 i_ data2
  have e1 : (fun (i_ j_ : Int) (data2 : LMv) => run tb (Q92.G N) Q92.A 1 (Q92.fin N) n Q92.k1 (Q92.st1 data a_ b_ i_ j_ data2)) = Q92.l1 N data a_ b_ n := by funext i_ j_ data2; exact h1 i_ j_ data2
  have g0 : (∀ (i_ : Int) (data2 : LMv), run tb (Q92.G N) Q92.A 1 (Q92.fin N) (n + 1) Q92.k0 (Q92.st0 data a_ b_ i_ data2) = Q92.l0 N data a_ b_ (n + 1) i_ data2) := by
   intro i_ data2
   exact (run_succ (by kernel_rfl)).trans ((Q92.step0 N _ data a_ b_ i_ data2).trans ((congr (congrArg (fun r0 r1 => Q92.s0 N data a_ b_ r0 r1 i_ data2) e0) e1).trans (Q92.l0_s N data a_ b_ n i_ data2).symm))
  have g1 : (∀ (i_ j_ : Int) (data2 : LMv), run tb (Q92.G N) Q92.A 1 (Q92.fin N) (n + 1) Q92.k1 (Q92.st1 data a_ b_ i_ j_ data2) = Q92.l1 N data a_ b_ (n + 1) i_ j_ data2) := by
   intro i_ j_ data2
   exact (run_succ (by kernel_rfl)).trans ((Q92.step1 N _ data a_ b_ i_ j_ data2).trans ((congr (congrArg (fun r0 r1 => Q92.s1 N data a_ b_ r0 r1 i_ j_ data2) e0) e1).trans (Q92.l1_s N data a_ b_ n i_ j_ data2).symm))
  exact ⟨g0, g1⟩
theorem Q92.ok : FnOk Tryz.prog 92 (Q92.D N) := by
 refine FnOk_of tb_ok (Checked.mixed Tryz.checked) ⟨Tryz.f92, Tryz.func92, by kernel_rfl, by kernel_rfl, fun x y h => ⟨Q92.G N, Q92.A, N, gamOf_ok (gc ⟨Q60.ok N, Q60.fit N⟩ gn), ?_⟩⟩ (Q92.fit N)
 rw [absFn_n (n0 := 1) rfl (by kernel_rfl)]
 refine (Q92.entry N (run tb (Q92.G N) Q92.A 1 (Q92.fin N) N) x).trans ?_
 have e0 : (fun (i_ : Int) (data2 : LMv) => run tb (Q92.G N) Q92.A 1 (Q92.fin N) N Q92.k0 (Q92.st0 x.1 x.2.1 x.2.2.1 i_ data2)) = Q92.l0 N x.1 x.2.1 x.2.2.1 N := by funext i_ data2; exact (Q92.runs N x.1 x.2.1 x.2.2.1 N).1 i_ data2
 have e1 : (fun (i_ j_ : Int) (data2 : LMv) => run tb (Q92.G N) Q92.A 1 (Q92.fin N) N Q92.k1 (Q92.st1 x.1 x.2.1 x.2.2.1 i_ j_ data2)) = Q92.l1 N x.1 x.2.1 x.2.2.1 N := by funext i_ j_ data2; exact (Q92.runs N x.1 x.2.1 x.2.2.1 N).2 i_ j_ data2
 have h' : (Q92.D N).f x = Q92.e N (Q92.l0 N x.1 x.2.1 x.2.2.1 N) (Q92.l1 N x.1 x.2.1 x.2.2.1 N) x.1 x.2.1 x.2.2.1 := by kernel_rfl
 exact (congr (congrArg (fun r0 r1 => Q92.e N r0 r1 x.1 x.2.1 x.2.2.1) e0) e1).trans (h'.symm.trans h)
def Q105.as : List MK := [.o (.own 80 qd) true, .d false tI, .d false tI, .d false tI, .f 60]
def Q105.rs : List (Bool × HT) := []
def Q105.lc : List AC := [.own 0]
def Q105.D : DFn := ⟨Q105.as, Q105.rs, LMv, fun x => Q105 N x.1 x.2.1 x.2.2.1 x.2.2.2.1, fun r o => o.1, fun b => (), fun b => (b, ()), none⟩
theorem Q105.fit : (Q105.D N).Fit := ⟨fun _ _ => rfl, fun _ _ => rfl, by kernel_rfl, (fun _ _ h => nomatch h), by kernel_rfl⟩
noncomputable def Q105.G : Gam := gamOf [(60, Q60.D N)]
def Q105.A : LA := fun k => bif Nat.beq k 0 then some ⟨[0, 2, 3, 4, 10], [], [], [], [], 1, false⟩ else none
noncomputable def Q105.fin : St → Option LMv := resK tb Tryz.f105.results.toList (decRes (Q105.D N) Q105.lc)
noncomputable def Q105.k0 : List Item := stackAt [.r, .b] (bodyOf Tryz.f105) []
def Q105.st0 (data : LMv) (lo hi first root : Int) (data2 : LMv) : St := ⟨[.one (.own 0), oA, oi hi, oi first, .one (.fn 60)] ++ rA 5 ++ [oi root] ++ rA 71, [.row 80 qd data2]⟩
theorem Q105.step0 (rec : RK LMv) (data : LMv) (lo hi first root : Int) (data2 : LMv) : seg tb (Q105.G N) Q105.A 1 rec (Q105.fin N) segFuel (loopBody Q105.k0) (Q105.st0 data lo hi first root data2) = Q105.s0 N data lo hi first (fun root data2 => rec Q105.k0 (Q105.st0 data lo hi first root data2)) root data2 := by kernel_rfl
theorem Q105.entry (rec : RK LMv) (x : (argH Q105.as).den) : seg tb (Q105.G N) Q105.A 1 rec (Q105.fin N) segFuel [.code (bodyOf Tryz.f105)] (initSt Tryz.f105 (encArgs Q105.as x) (encMem Q105.as x)) = Q105.e N (fun root data2 => rec Q105.k0 (Q105.st0 x.1 x.2.1 x.2.2.1 x.2.2.2.1 root data2)) x.1 x.2.1 x.2.2.1 x.2.2.2.1 := by kernel_rfl
theorem Q105.runs (N : Nat) (data : LMv) (lo hi first : Int) : ∀ n, (∀ (root : Int) (data2 : LMv), run tb (Q105.G N) Q105.A 1 (Q105.fin N) n Q105.k0 (Q105.st0 data lo hi first root data2) = Q105.l0 N data lo hi first n root data2)
 | 0 => fun _ _ => rfl
 | n + 1 => by
  have h0 := Q105.runs N data lo hi first n
  have e0 : (fun (root : Int) (data2 : LMv) => run tb (Q105.G N) Q105.A 1 (Q105.fin N) n Q105.k0 (Q105.st0 data lo hi first root data2)) = Q105.l0 N data lo hi first n := by funext root data2; exact h0 root data2
  have g0 : (∀ (root : Int) (data2 : LMv), run tb (Q105.G N) Q105.A 1 (Q105.fin N) (n + 1) Q105.k0 (Q105.st0 data lo hi first root data2) = Q105.l0 N data lo hi first (n + 1) root data2) := by
   intro root data2
   exact (run_succ (by kernel_rfl)).trans ((Q105.step0 N _ data lo hi first root data2).trans ((congrArg (fun r0 => Q105.s0 N data lo hi first r0 root data2) e0).trans (Q105.l0_s N data lo hi first n root data2).symm))
  exact g0
theorem Q105.ok : FnOk Tryz.prog 105 (Q105.D N) := by
 refine FnOk_of tb_ok (Checked.mixed Tryz.checked) ⟨Tryz.f105, Tryz.func105, by kernel_rfl, by kernel_rfl, fun x y h => ⟨Q105.G N, Q105.A, N, gamOf_ok (gc ⟨Q60.ok N, Q60.fit N⟩ gn), ?_⟩⟩ (Q105.fit N)
 rw [absFn_n (n0 := 1) rfl (by kernel_rfl)]
 refine (Q105.entry N (run tb (Q105.G N) Q105.A 1 (Q105.fin N) N) x).trans ?_
 have e0 : (fun (root : Int) (data2 : LMv) => run tb (Q105.G N) Q105.A 1 (Q105.fin N) N Q105.k0 (Q105.st0 x.1 x.2.1 x.2.2.1 x.2.2.2.1 root data2)) = Q105.l0 N x.1 x.2.1 x.2.2.1 x.2.2.2.1 N := by funext root data2; exact (Q105.runs N x.1 x.2.1 x.2.2.1 x.2.2.2.1 N) root data2
 have h' : (Q105.D N).f x = Q105.e N (Q105.l0 N x.1 x.2.1 x.2.2.1 x.2.2.2.1 N) x.1 x.2.1 x.2.2.1 x.2.2.2.1 := by kernel_rfl
 exact (congrArg (fun r0 => Q105.e N r0 x.1 x.2.1 x.2.2.1 x.2.2.2.1) e0).trans (h'.symm.trans h)
def Q93.as : List MK := [.o (.own 80 qd) true, .d false tI, .d false tI, .f 60]
def Q93.rs : List (Bool × HT) := []
def Q93.lc : List AC := [.own 0]
def Q93.D : DFn := ⟨Q93.as, Q93.rs, LMv, fun x => Q93 N x.1 x.2.1 x.2.2.1, fun r o => o.1, fun b => (), fun b => (b, ()), none⟩
theorem Q93.fit : (Q93.D N).Fit := ⟨fun _ _ => rfl, fun _ _ => rfl, by kernel_rfl, (fun _ _ h => nomatch h), by kernel_rfl⟩
noncomputable def Q93.G : Gam := gamOf [(105, Q105.D N)]
def Q93.A : LA := fun k => bif Nat.beq k 0 then some ⟨[0, 3, 8, 9, 10, 11], [], [], [], [], 1, false⟩ else bif Nat.beq k 2 then some ⟨[0, 3, 8, 9, 12], [], [], [], [], 1, false⟩ else none
noncomputable def Q93.fin : St → Option LMv := resK tb Tryz.f93.results.toList (decRes (Q93.D N) Q93.lc)
noncomputable def Q93.k0 : List Item := stackAt [.r, .r, .r, .l, .r, .b] (bodyOf Tryz.f93) []
def Q93.st0 (data : LMv) (a_ b_ i_ : Int) (data2 : LMv) : St := ⟨[.one (.own 0), oA, oA, .one (.fn 60)] ++ rA 4 ++ [oi a_, oi 0, oi (w64 (b_ - a_)), oi i_] ++ rA 48, [.row 80 qd data2]⟩
noncomputable def Q93.k1 : List Item := stackAt [.r, .r, .r, .r, .r, .b] (bodyOf Tryz.f93) []
def Q93.st1 (data : LMv) (a_ b_ i_ : Int) (data2 : LMv) : St := ⟨[.one (.own 0), oA, oA, .one (.fn 60)] ++ rA 4 ++ [oi a_, oi 0, oA, oA, oi i_] ++ rA 47, [.row 80 qd data2]⟩
theorem Q93.step0 (rec : RK LMv) (data : LMv) (a_ b_ i_ : Int) (data2 : LMv) : seg tb (Q93.G N) Q93.A 1 rec (Q93.fin N) segFuel (loopBody Q93.k0) (Q93.st0 data a_ b_ i_ data2) = Q93.s0 N data a_ b_ (fun i_ data2 => rec Q93.k0 (Q93.st0 data a_ b_ i_ data2)) (fun i_ data2 => rec Q93.k1 (Q93.st1 data a_ b_ i_ data2)) i_ data2 := by kernel_rfl
theorem Q93.step1 (rec : RK LMv) (data : LMv) (a_ b_ i_ : Int) (data2 : LMv) : seg tb (Q93.G N) Q93.A 1 rec (Q93.fin N) segFuel (loopBody Q93.k1) (Q93.st1 data a_ b_ i_ data2) = Q93.s1 N data a_ b_ (fun i_ data2 => rec Q93.k0 (Q93.st0 data a_ b_ i_ data2)) (fun i_ data2 => rec Q93.k1 (Q93.st1 data a_ b_ i_ data2)) i_ data2 := by kernel_rfl
theorem Q93.entry (rec : RK LMv) (x : (argH Q93.as).den) : seg tb (Q93.G N) Q93.A 1 rec (Q93.fin N) segFuel [.code (bodyOf Tryz.f93)] (initSt Tryz.f93 (encArgs Q93.as x) (encMem Q93.as x)) = Q93.e N (fun i_ data2 => rec Q93.k0 (Q93.st0 x.1 x.2.1 x.2.2.1 i_ data2)) (fun i_ data2 => rec Q93.k1 (Q93.st1 x.1 x.2.1 x.2.2.1 i_ data2)) x.1 x.2.1 x.2.2.1 := by kernel_rfl
theorem Q93.runs (N : Nat) (data : LMv) (a_ b_ : Int) : ∀ n, (∀ (i_ : Int) (data2 : LMv), run tb (Q93.G N) Q93.A 1 (Q93.fin N) n Q93.k0 (Q93.st0 data a_ b_ i_ data2) = Q93.l0 N data a_ b_ n i_ data2) ∧ (∀ (i_ : Int) (data2 : LMv), run tb (Q93.G N) Q93.A 1 (Q93.fin N) n Q93.k1 (Q93.st1 data a_ b_ i_ data2) = Q93.l1 N data a_ b_ n i_ data2)
 | 0 => ⟨fun _ _ => rfl, fun _ _ => rfl⟩
 | n + 1 => by
  obtain ⟨h0, h1⟩ := Q93.runs N data a_ b_ n
  have e0 : (fun (i_ : Int) (data2 : LMv) => run tb (Q93.G N) Q93.A 1 (Q93.fin N) n Q93.k0 (Q93.st0 data a_ b_ i_ data2)) = Q93.l0 N data a_ b_ n := by funext i_ data2; exact h0 i_ data2
  have e1 : (fun (i_ : Int) (data2 : LMv) => run tb (Q93.G N) Q93.A 1 (Q93.fin N) n Q93.k1 (Q93.st1 data a_ b_ i_ data2)) = Q93.l1 N data a_ b_ n := by funext i_ data2; exact h1 i_ data2
  have g0 : (∀ (i_ : Int) (data2 : LMv), run tb (Q93.G N) Q93.A 1 (Q93.fin N) (n + 1) Q93.k0 (Q93.st0 data a_ b_ i_ data2) = Q93.l0 N data a_ b_ (n + 1) i_ data2) := by
   intro i_ data2
   exact (run_succ (by kernel_rfl)).trans ((Q93.step0 N _ data a_ b_ i_ data2).trans ((congr (congrArg (fun r0 r1 => Q93.s0 N data a_ b_ r0 r1 i_ data2) e0) e1).trans (Q93.l0_s N data a_ b_ n i_ data2).symm))
  have g1 : (∀ (i_ : Int) (data2 : LMv), run tb (Q93.G N) Q93.A 1 (Q93.fin N) (n + 1) Q93.k1 (Q93.st1 data a_ b_ i_ data2) = Q93.l1 N data a_ b_ (n + 1) i_ data2) := by
   intro i_ data2
   exact (run_succ (by kernel_rfl)).trans ((Q93.step1 N _ data a_ b_ i_ data2).trans ((congr (congrArg (fun r0 r1 => Q93.s1 N data a_ b_ r0 r1 i_ data2) e0) e1).trans (Q93.l1_s N data a_ b_ n i_ data2).symm))
  exact ⟨g0, g1⟩
theorem Q93.ok : FnOk Tryz.prog 93 (Q93.D N) := by
 refine FnOk_of tb_ok (Checked.mixed Tryz.checked) ⟨Tryz.f93, Tryz.func93, by kernel_rfl, by kernel_rfl, fun x y h => ⟨Q93.G N, Q93.A, N, gamOf_ok (gc ⟨Q105.ok N, Q105.fit N⟩ gn), ?_⟩⟩ (Q93.fit N)
 rw [absFn_n (n0 := 1) rfl (by kernel_rfl)]
 refine (Q93.entry N (run tb (Q93.G N) Q93.A 1 (Q93.fin N) N) x).trans ?_
 have e0 : (fun (i_ : Int) (data2 : LMv) => run tb (Q93.G N) Q93.A 1 (Q93.fin N) N Q93.k0 (Q93.st0 x.1 x.2.1 x.2.2.1 i_ data2)) = Q93.l0 N x.1 x.2.1 x.2.2.1 N := by funext i_ data2; exact (Q93.runs N x.1 x.2.1 x.2.2.1 N).1 i_ data2
 have e1 : (fun (i_ : Int) (data2 : LMv) => run tb (Q93.G N) Q93.A 1 (Q93.fin N) N Q93.k1 (Q93.st1 x.1 x.2.1 x.2.2.1 i_ data2)) = Q93.l1 N x.1 x.2.1 x.2.2.1 N := by funext i_ data2; exact (Q93.runs N x.1 x.2.1 x.2.2.1 N).2 i_ data2
 have h' : (Q93.D N).f x = Q93.e N (Q93.l0 N x.1 x.2.1 x.2.2.1 N) (Q93.l1 N x.1 x.2.1 x.2.2.1 N) x.1 x.2.1 x.2.2.1 := by kernel_rfl
 exact (congr (congrArg (fun r0 r1 => Q93.e N r0 r1 x.1 x.2.1 x.2.2.1) e0) e1).trans (h'.symm.trans h)
def Q110.as : List MK := [.d false (.slice 80 qd), .d false tI, .d false tI, .o (.ptr 3 (.d tI)) true, .f 60]
def Q110.rs : List (Bool × HT) := [(false, (.d tI)), (false, (.d tI))]
def Q110.lc : List AC := [.ptr 0 0]
def Q110.D : DFn := ⟨Q110.as, Q110.rs, (Int × Int × Int), fun x => Q110 N x.1 x.2.1 x.2.2.1 x.2.2.2.1, fun r o => (r.1, r.2.1, o.1), fun b => (b.1, (b.2.1, ())), fun b => (b.2.2, ()), none⟩
theorem Q110.fit : (Q110.D N).Fit := ⟨fun _ _ => rfl, fun _ _ => rfl, by kernel_rfl, (fun _ _ h => nomatch h), by kernel_rfl⟩
noncomputable def Q110.G : Gam := gamOf [(60, Q60.D N)]
def Q110.A : LA := fun _ => none
noncomputable def Q110.fin : St → Option (Int × Int × Int) := resK tb Tryz.f110.results.toList (decRes (Q110.D N) Q110.lc)
theorem Q110.entry (rec : RK (Int × Int × Int)) (x : (argH Q110.as).den) : seg tb (Q110.G N) Q110.A 1 rec (Q110.fin N) segFuel [.code (bodyOf Tryz.f110)] (initSt Tryz.f110 (encArgs Q110.as x) (encMem Q110.as x)) = Q110.e N x.1 x.2.1 x.2.2.1 x.2.2.2.1 := by kernel_rfl
theorem Q110.ok : FnOk Tryz.prog 110 (Q110.D N) := by
 refine FnOk_of tb_ok (Checked.mixed Tryz.checked) ⟨Tryz.f110, Tryz.func110, by kernel_rfl, by kernel_rfl, fun x y h => ⟨Q110.G N, Q110.A, N, gamOf_ok (gc ⟨Q60.ok N, Q60.fit N⟩ gn), ?_⟩⟩ (Q110.fit N)
 rw [absFn_n (n0 := 1) rfl (by kernel_rfl)]
 exact (Q110.entry N _ x).trans h
def Q109.as : List MK := [.d false (.slice 80 qd), .d false tI, .d false tI, .d false tI, .o (.ptr 3 (.d tI)) true, .f 60]
def Q109.rs : List (Bool × HT) := [(false, (.d tI))]
def Q109.lc : List AC := [.ptr 0 0]
def Q109.D : DFn := ⟨Q109.as, Q109.rs, (Int × Int), fun x => Q109 N x.1 x.2.1 x.2.2.1 x.2.2.2.1 x.2.2.2.2.1, fun r o => (r.1, o.1), fun b => (b.1, ()), fun b => (b.2, ()), none⟩
theorem Q109.fit : (Q109.D N).Fit := ⟨fun _ _ => rfl, fun _ _ => rfl, by kernel_rfl, (fun _ _ h => nomatch h), by kernel_rfl⟩
noncomputable def Q109.G : Gam := gamOf [(110, Q110.D N)]
def Q109.A : LA := fun _ => none
noncomputable def Q109.fin : St → Option (Int × Int) := resK tb Tryz.f109.results.toList (decRes (Q109.D N) Q109.lc)
theorem Q109.entry (rec : RK (Int × Int)) (x : (argH Q109.as).den) : seg tb (Q109.G N) Q109.A 1 rec (Q109.fin N) segFuel [.code (bodyOf Tryz.f109)] (initSt Tryz.f109 (encArgs Q109.as x) (encMem Q109.as x)) = Q109.e N x.1 x.2.1 x.2.2.1 x.2.2.2.1 x.2.2.2.2.1 := by kernel_rfl
theorem Q109.ok : FnOk Tryz.prog 109 (Q109.D N) := by
 refine FnOk_of tb_ok (Checked.mixed Tryz.checked) ⟨Tryz.f109, Tryz.func109, by kernel_rfl, by kernel_rfl, fun x y h => ⟨Q109.G N, Q109.A, N, gamOf_ok (gc ⟨Q110.ok N, Q110.fit N⟩ gn), ?_⟩⟩ (Q109.fit N)
 rw [absFn_n (n0 := 1) rfl (by kernel_rfl)]
 exact (Q109.entry N _ x).trans h
def Q108.as : List MK := [.d false (.slice 80 qd), .d false tI, .o (.ptr 3 (.d tI)) true, .f 60]
def Q108.rs : List (Bool × HT) := [(false, (.d tI))]
def Q108.lc : List AC := [.ptr 0 0]
def Q108.D : DFn := ⟨Q108.as, Q108.rs, (Int × Int), fun x => Q108 N x.1 x.2.1 x.2.2.1, fun r o => (r.1, o.1), fun b => (b.1, ()), fun b => (b.2, ()), none⟩
theorem Q108.fit : (Q108.D N).Fit := ⟨fun _ _ => rfl, fun _ _ => rfl, by kernel_rfl, (fun _ _ h => nomatch h), by kernel_rfl⟩
noncomputable def Q108.G : Gam := gamOf [(109, Q109.D N)]
def Q108.A : LA := fun _ => none
noncomputable def Q108.fin : St → Option (Int × Int) := resK tb Tryz.f108.results.toList (decRes (Q108.D N) Q108.lc)
theorem Q108.entry (rec : RK (Int × Int)) (x : (argH Q108.as).den) : seg tb (Q108.G N) Q108.A 1 rec (Q108.fin N) segFuel [.code (bodyOf Tryz.f108)] (initSt Tryz.f108 (encArgs Q108.as x) (encMem Q108.as x)) = Q108.e N x.1 x.2.1 x.2.2.1 := by kernel_rfl
theorem Q108.ok : FnOk Tryz.prog 108 (Q108.D N) := by
 refine FnOk_of tb_ok (Checked.mixed Tryz.checked) ⟨Tryz.f108, Tryz.func108, by kernel_rfl, by kernel_rfl, fun x y h => ⟨Q108.G N, Q108.A, N, gamOf_ok (gc ⟨Q109.ok N, Q109.fit N⟩ gn), ?_⟩⟩ (Q108.fit N)
 rw [absFn_n (n0 := 1) rfl (by kernel_rfl)]
 exact (Q108.entry N _ x).trans h
def Q95.as : List MK := [.d false (.slice 80 qd), .d false tI, .d false tI, .f 60]
def Q95.rs : List (Bool × HT) := [(false, (.d tI)), (false, (.d tI))]
def Q95.lc : List AC := []
def Q95.D : DFn := ⟨Q95.as, Q95.rs, (Int × Int), fun x => Q95 N x.1 x.2.1 x.2.2.1, fun r o => (r.1, r.2.1), fun b => (b.1, (b.2, ())), fun b => (), none⟩
theorem Q95.fit : (Q95.D N).Fit := ⟨fun _ _ => rfl, fun _ _ => rfl, by kernel_rfl, (fun _ _ h => nomatch h), by kernel_rfl⟩
noncomputable def Q95.G : Gam := gamOf [(108, Q108.D N), (109, Q109.D N)]
def Q95.A : LA := fun _ => none
noncomputable def Q95.fin : St → Option (Int × Int) := resK tb Tryz.f95.results.toList (decRes (Q95.D N) Q95.lc)
theorem Q95.entry (rec : RK (Int × Int)) (x : (argH Q95.as).den) : seg tb (Q95.G N) Q95.A 0 rec (Q95.fin N) segFuel [.code (bodyOf Tryz.f95)] (initSt Tryz.f95 (encArgs Q95.as x) (encMem Q95.as x)) = Q95.e N x.1 x.2.1 x.2.2.1 := by kernel_rfl
theorem Q95.ok : FnOk Tryz.prog 95 (Q95.D N) := by
 refine FnOk_of tb_ok (Checked.mixed Tryz.checked) ⟨Tryz.f95, Tryz.func95, by kernel_rfl, by kernel_rfl, fun x y h => ⟨Q95.G N, Q95.A, N, gamOf_ok (gc ⟨Q108.ok N, Q108.fit N⟩ (gc ⟨Q109.ok N, Q109.fit N⟩ gn)), ?_⟩⟩ (Q95.fit N)
 rw [absFn_n (n0 := 0) rfl (by kernel_rfl)]
 exact (Q95.entry N _ x).trans h
def Q96.as : List MK := [.o (.own 80 qd) true, .d false tI, .d false tI, .f 60]
def Q96.rs : List (Bool × HT) := []
def Q96.lc : List AC := [.own 0]
def Q96.D : DFn := ⟨Q96.as, Q96.rs, LMv, fun x => Q96 N x.1 x.2.1 x.2.2.1, fun r o => o.1, fun b => (), fun b => (b, ()), none⟩
theorem Q96.fit : (Q96.D N).Fit := ⟨fun _ _ => rfl, fun _ _ => rfl, by kernel_rfl, (fun _ _ h => nomatch h), by kernel_rfl⟩
noncomputable def Q96.G (N : Nat) : Gam := gamOf []
def Q96.A : LA := fun k => bif Nat.beq k 0 then some ⟨[0, 8, 9], [], [], [], [], 1, false⟩ else none
noncomputable def Q96.fin : St → Option LMv := resK tb Tryz.f96.results.toList (decRes (Q96.D N) Q96.lc)
noncomputable def Q96.k0 : List Item := stackAt [.r, .r, .b] (bodyOf Tryz.f96) []
def Q96.st0 (data : LMv) (a_ b_ i_ j_ : Int) (data2 : LMv) : St := ⟨[.one (.own 0)] ++ rA 7 ++ [oi i_, oi j_] ++ rA 24, [.row 80 qd data2]⟩
theorem Q96.step0 (rec : RK LMv) (data : LMv) (a_ b_ i_ j_ : Int) (data2 : LMv) : seg tb (Q96.G N) Q96.A 1 rec (Q96.fin N) segFuel (loopBody Q96.k0) (Q96.st0 data a_ b_ i_ j_ data2) = Q96.s0 N data a_ b_ (fun i_ j_ data2 => rec Q96.k0 (Q96.st0 data a_ b_ i_ j_ data2)) i_ j_ data2 := by kernel_rfl
theorem Q96.entry (rec : RK LMv) (x : (argH Q96.as).den) : seg tb (Q96.G N) Q96.A 1 rec (Q96.fin N) segFuel [.code (bodyOf Tryz.f96)] (initSt Tryz.f96 (encArgs Q96.as x) (encMem Q96.as x)) = Q96.e N (fun i_ j_ data2 => rec Q96.k0 (Q96.st0 x.1 x.2.1 x.2.2.1 i_ j_ data2)) x.1 x.2.1 x.2.2.1 := by kernel_rfl
theorem Q96.runs (N : Nat) (data : LMv) (a_ b_ : Int) : ∀ n, (∀ (i_ j_ : Int) (data2 : LMv), run tb (Q96.G N) Q96.A 1 (Q96.fin N) n Q96.k0 (Q96.st0 data a_ b_ i_ j_ data2) = Q96.l0 N data a_ b_ n i_ j_ data2)
 | 0 => fun _ _ _ => rfl
 | n + 1 => by
  have h0 := Q96.runs N data a_ b_ n
  have e0 : (fun (i_ j_ : Int) (data2 : LMv) => run tb (Q96.G N) Q96.A 1 (Q96.fin N) n Q96.k0 (Q96.st0 data a_ b_ i_ j_ data2)) = Q96.l0 N data a_ b_ n := by funext i_ j_ data2; exact h0 i_ j_ data2
  have g0 : (∀ (i_ j_ : Int) (data2 : LMv), run tb (Q96.G N) Q96.A 1 (Q96.fin N) (n + 1) Q96.k0 (Q96.st0 data a_ b_ i_ j_ data2) = Q96.l0 N data a_ b_ (n + 1) i_ j_ data2) := by
   intro i_ j_ data2
   exact (run_succ (by kernel_rfl)).trans ((Q96.step0 N _ data a_ b_ i_ j_ data2).trans ((congrArg (fun r0 => Q96.s0 N data a_ b_ r0 i_ j_ data2) e0).trans (Q96.l0_s N data a_ b_ n i_ j_ data2).symm))
  exact g0
theorem Q96.ok : FnOk Tryz.prog 96 (Q96.D N) := by
 refine FnOk_of tb_ok (Checked.mixed Tryz.checked) ⟨Tryz.f96, Tryz.func96, by kernel_rfl, by kernel_rfl, fun x y h => ⟨Q96.G N, Q96.A, N, gamOf_ok (fun p hp => nomatch hp), ?_⟩⟩ (Q96.fit N)
 rw [absFn_n (n0 := 1) rfl (by kernel_rfl)]
 refine (Q96.entry N (run tb (Q96.G N) Q96.A 1 (Q96.fin N) N) x).trans ?_
 have e0 : (fun (i_ j_ : Int) (data2 : LMv) => run tb (Q96.G N) Q96.A 1 (Q96.fin N) N Q96.k0 (Q96.st0 x.1 x.2.1 x.2.2.1 i_ j_ data2)) = Q96.l0 N x.1 x.2.1 x.2.2.1 N := by funext i_ j_ data2; exact (Q96.runs N x.1 x.2.1 x.2.2.1 N) i_ j_ data2
 have h' : (Q96.D N).f x = Q96.e N (Q96.l0 N x.1 x.2.1 x.2.2.1 N) x.1 x.2.1 x.2.2.1 := by kernel_rfl
 exact (congrArg (fun r0 => Q96.e N r0 x.1 x.2.1 x.2.2.1) e0).trans (h'.symm.trans h)
end Go.Proofs.YtfihdjjilofklaaGreat.Am
