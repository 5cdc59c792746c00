/- PRINTED by gen.py: the abstract machine evaluates the loaded code to these functions. -/
import Derived.Test.YtnddjmhpofhfjaaFnw1
import Derived.Test.YtnddjmhpofhfjaaChecked
import Derived.Eval
set_option linter.unusedVariables false
set_option linter.unusedSimpArgs false
namespace Go.Proofs.Ytnddjmhpofhfjaa.Am
open Go
variable (N : Nat)
abbrev tI : Ty := .int .i64
abbrev qa : Ty := .prod .str (.prod tI (.prod tI (.prod (.slice 80 (.prod (.int .u8) (.prod tI (.prod tI (.slice 152 (.prod tI (.prod tI (.prod tI tI)))))))) (.prod (.slice 3 tI) (.prod .bool (.prod .bool (.prod (.slice 82 (.prod tI (.prod tI (.prod tI .bool)))) (.prod tI (.prod tI tI)))))))))
abbrev qb : Ty := .prod (.int .u8) (.prod tI (.prod tI (.slice 152 (.prod tI (.prod tI (.prod tI tI))))))
abbrev qc : Ty := .prod tI (.prod tI tI)
abbrev qd : Ty := .prod (.slice 3 tI) (.prod (.prod (.slice 3 tI) (.slice 3 tI)) (.prod tI tI))
abbrev qe : Ty := .prod tI (.prod tI (.prod tI .bool))
abbrev qf : Ty := .prod qc (.prod tI (.prod tI (.prod .bool (.prod tI (.int .u64)))))
abbrev oi (x : Int) : AV := .one (.int .i64 x)
abbrev oA : AV := .one .any
abbrev rA (n : Nat) : List AV := List.replicate n (.one .any)
abbrev vR (x : TRules) : AO := .var 26 [.str x.1, .int .i64 x.2.1, .int .i64 x.2.2.1, .fro 80 qb x.2.2.2.1, .fro 3 tI x.2.2.2.2.1, .bool x.2.2.2.2.2.1, .bool x.2.2.2.2.2.2.1, .fro 82 qe x.2.2.2.2.2.2.2.1, .int .i64 x.2.2.2.2.2.2.2.2.1, .int .i64 x.2.2.2.2.2.2.2.2.2.1, .int .i64 x.2.2.2.2.2.2.2.2.2.2]
abbrev vP (x : TPos) : AO := .var 29 [.fro 3 tI x.1, .fro 3 tI x.2.1.1, .fro 3 tI x.2.1.2, .int .i64 x.2.2.1, .int .i64 x.2.2.2]
theorem gc {P : Program} {k : Nat} {D : DFn} {l : List (Nat × DFn)} (h : FnOk P k D ∧ D.Fit) (t : ∀ p ∈ l, FnOk P p.1 p.2 ∧ p.2.Fit) : ∀ p ∈ (k, D) :: l, FnOk P p.1 p.2 ∧ p.2.Fit := List.forall_mem_cons.2 ⟨h, t⟩
theorem gn {P : Program} : ∀ p ∈ ([] : List (Nat × DFn)), FnOk P p.1 p.2 ∧ p.2.Fit := fun _ h => nomatch h
abbrev RK (R : Type) := List Item → St → Option R
abbrev LA := Nat → Option LoopAnn
set_option maxRecDepth 100000
def ti3 : TI := ⟨.int .i64, 1, 8, some tI, [.int .i64 0], false, none, none⟩
def ti4 : TI := ⟨.bool, 1, 1, some .bool, [.bool false], false, none, none⟩
def ti5 : TI := ⟨.int .u8, 1, 1, some (.int .u8), [.int .u8 0], false, none, none⟩
def ti9 : TI := ⟨.str, 1, 16, some .str, [.str (⟨#[]⟩ : ByteArray)], false, none, none⟩
def ti22 : TI := ⟨.slice 80, 1, 24, some (.slice 80 qb), [.nilS], false, none, none⟩
def ti23 : TI := ⟨.slice 3, 1, 24, some (.slice 3 tI), [.nilS], false, none, none⟩
def ti24 : TI := ⟨.slice 82, 1, 24, some (.slice 82 qe), [.nilS], false, none, none⟩
def ti26 : TI := ⟨.struct [(0, 9), (1, 3), (2, 3), (3, 22), (4, 23), (5, 4), (6, 4), (7, 24), (8, 3), (9, 3), (10, 3)], 11, 136, some qa, [.str (⟨#[]⟩ : ByteArray), .int .i64 0, .int .i64 0, .nilS, .nilS, .bool false, .bool false, .nilS, .int .i64 0, .int .i64 0, .int .i64 0], false, none, none⟩
def ti27 : TI := ⟨.array 2 23, 2, 48, some (.prod (.slice 3 tI) (.slice 3 tI)), [.nilS, .nilS], false, none, none⟩
def ti29 : TI := ⟨.struct [(0, 23), (1, 27), (3, 3), (4, 3)], 5, 88, some qd, [.nilS, .nilS, .nilS, .int .i64 0, .int .i64 0], false, none, none⟩
def ti30 : TI := ⟨.slice 39, 1, 24, some (.slice 39 (.prod qc (.prod tI tI))), [.nilS], false, none, none⟩
def ti31 : TI := ⟨.int .i64, 1, 8, some tI, [.int .i64 0], false, none, none⟩
def ti37 : TI := ⟨.struct [(0, 3), (1, 3), (2, 3)], 3, 24, some qc, [.int .i64 0, .int .i64 0, .int .i64 0], true, none, none⟩
def ti39 : TI := ⟨.struct [(0, 37), (3, 3), (4, 3)], 5, 40, some (.prod qc (.prod tI tI)), [.int .i64 0, .int .i64 0, .int .i64 0, .int .i64 0, .int .i64 0], true, none, none⟩
def ti51 : TI := ⟨.other, 1, 8, none, [.nilF], false, none, none⟩
def ti61 : TI := ⟨.ptr 119, 1, 8, none, [.nilP], false, none, none⟩
def ti64 : TI := ⟨.ptr 121, 1, 8, none, [.nilP], false, none, none⟩
def ti68 : TI := ⟨.ptr 70, 1, 8, none, [.nilP], false, none, none⟩
def ti70 : TI := ⟨.struct [(0, 61), (1, 64)], 2, 16, none, [.nilP, .nilP], false, none, none⟩
def ti71 : TI := ⟨.ptr 75, 1, 8, some .nod, [.nilP], false, none, none⟩
def ti72 : TI := ⟨.slice 37, 1, 24, some (.slice 37 qc), [.nilS], false, none, none⟩
def ti73 : TI := ⟨.slice 71, 1, 24, none, [.nilS], false, none, none⟩
def ti75 : TI := ⟨.struct [(0, 72), (1, 73), (2, 3), (3, 3)], 4, 64, none, [.nilS, .nilS, .int .i64 0, .int .i64 0], false, none, none⟩
def ti78 : TI := ⟨.slice 152, 1, 24, some (.slice 152 (.prod tI qc)), [.nilS], false, none, none⟩
def ti80 : TI := ⟨.struct [(0, 5), (1, 3), (2, 3), (3, 78)], 4, 48, some qb, [.int .u8 0, .int .i64 0, .int .i64 0, .nilS], false, none, none⟩
def ti82 : TI := ⟨.struct [(0, 3), (1, 3), (2, 3), (3, 4)], 4, 32, some qe, [.int .i64 0, .int .i64 0, .int .i64 0, .bool false], false, none, none⟩
def ti89 : TI := ⟨.slice 31, 1, 24, some (.slice 31 tI), [.nilS], false, none, none⟩
def ti91 : TI := ⟨.other, 1, 8, none, [.nilF], false, none, none⟩
def ti115 : TI := ⟨.int .u64, 1, 8, some (.int .u64), [.int .u64 0], false, none, none⟩
def ti117 : TI := ⟨.slice 149, 1, 24, some (.slice 149 qf), [.nilS], false, none, none⟩
def ti119 : TI := ⟨.struct [(0, 26), (11, 29), (16, 115), (17, 117)], 18, 256, some (.prod qa (.prod qd (.prod (.int .u64) (.slice 149 qf)))), [.str (⟨#[]⟩ : ByteArray), .int .i64 0, .int .i64 0, .nilS, .nilS, .bool false, .bool false, .nilS, .int .i64 0, .int .i64 0, .int .i64 0, .nilS, .nilS, .nilS, .int .i64 0, .int .i64 0, .int .u64 0, .nilS], false, none, none⟩
def ti121 : TI := ⟨.struct [(0, 3)], 1, 8, some tI, [.int .i64 0], false, none, none⟩
def ti127 : TI := ⟨.ptr 129, 1, 8, none, [.nilP], false, none, none⟩
def ti129 : TI := ⟨.struct [(0, 3)], 1, 8, some tI, [.int .i64 0], false, none, none⟩
def ti149 : TI := ⟨.struct [(0, 37), (3, 3), (4, 3), (5, 4), (6, 3), (7, 115)], 8, 64, some qf, [.int .i64 0, .int .i64 0, .int .i64 0, .int .i64 0, .int .i64 0, .bool false, .int .i64 0, .int .u64 0], false, none, none⟩
def ti152 : TI := ⟨.struct [(0, 3), (1, 3), (2, 3), (3, 3)], 4, 32, some (.prod tI qc), [.int .i64 0, .int .i64 0, .int .i64 0, .int .i64 0], false, none, none⟩
def ti155 : TI := ⟨.other, 1, 8, none, [.nilF], false, none, none⟩
def ti164 : TI := ⟨.int .u64, 1, 8, some (.int .u64), [.int .u64 0], false, none, none⟩
def ti169 : TI := ⟨.array 2 3, 2, 16, some (.prod tI tI), [.int .i64 0, .int .i64 0], false, none, none⟩
def ti170 : TI := ⟨.array 4 169, 8, 64, some (.prod (.prod tI tI) (.prod (.prod tI tI) (.prod (.prod tI tI) (.prod tI tI)))), [.int .i64 0, .int .i64 0, .int .i64 0, .int .i64 0, .int .i64 0, .int .i64 0, .int .i64 0, .int .i64 0], false, none, none⟩
def ti173 : TI := ⟨.int .i64, 1, 8, some tI, [.int .i64 0], false, none, none⟩
def ti184 : TI := ⟨.int .u64, 1, 8, some (.int .u64), [.int .u64 0], false, none, none⟩
def ti188 : TI := ⟨.ptr 3, 1, 8, none, [.nilP], false, none, none⟩
def ti190 : TI := ⟨.ptr 184, 1, 8, none, [.nilP], false, none, none⟩
def tbt : TT := (.node 75 ti75 (.node 31 ti31 (.node 23 ti23 (.node 5 ti5 (.node 4 ti4 (.node 3 ti3 .nil .nil) .nil) (.node 22 ti22 (.node 9 ti9 .nil .nil) .nil)) (.node 27 ti27 (.node 26 ti26 (.node 24 ti24 .nil .nil) .nil) (.node 30 ti30 (.node 29 ti29 .nil .nil) .nil))) (.node 68 ti68 (.node 51 ti51 (.node 39 ti39 (.node 37 ti37 .nil .nil) .nil) (.node 64 ti64 (.node 61 ti61 .nil .nil) .nil)) (.node 72 ti72 (.node 71 ti71 (.node 70 ti70 .nil .nil) .nil) (.node 73 ti73 .nil .nil)))) (.node 129 ti129 (.node 115 ti115 (.node 82 ti82 (.node 80 ti80 (.node 78 ti78 .nil .nil) .nil) (.node 91 ti91 (.node 89 ti89 .nil .nil) .nil)) (.node 121 ti121 (.node 119 ti119 (.node 117 ti117 .nil .nil) .nil) (.node 127 ti127 .nil .nil))) (.node 170 ti170 (.node 155 ti155 (.node 152 ti152 (.node 149 ti149 .nil .nil) .nil) (.node 169 ti169 (.node 164 ti164 .nil .nil) .nil)) (.node 188 ti188 (.node 184 ti184 (.node 173 ti173 .nil .nil) .nil) (.node 190 ti190 .nil .nil)))))
def tb : Tab := tbt.get
theorem ti3_ok : TIok Try.prog tb 3 ti3 := TIok_mk (by kernel_rfl) (by kernel_rfl) ⟨rfl, rfl⟩ (by kernel_rfl) rfl trivial trivial (by kernel_rfl)
theorem ti4_ok : TIok Try.prog tb 4 ti4 := TIok_mk (by kernel_rfl) (by kernel_rfl) ⟨rfl, rfl⟩ (by kernel_rfl) rfl trivial trivial (by kernel_rfl)
theorem ti5_ok : TIok Try.prog tb 5 ti5 := TIok_mk (by kernel_rfl) (by kernel_rfl) ⟨rfl, rfl⟩ (by kernel_rfl) rfl trivial trivial (by kernel_rfl)
theorem ti9_ok : TIok Try.prog tb 9 ti9 := TIok_mk (by kernel_rfl) (by kernel_rfl) ⟨rfl, rfl⟩ (by kernel_rfl) rfl trivial trivial (by kernel_rfl)
theorem ti22_ok : TIok Try.prog tb 22 ti22 := TIok_mk (by kernel_rfl) (by kernel_rfl) ⟨rfl, rfl⟩ (by kernel_rfl) rfl trivial trivial (by kernel_rfl)
theorem ti23_ok : TIok Try.prog tb 23 ti23 := TIok_mk (by kernel_rfl) (by kernel_rfl) ⟨rfl, rfl⟩ (by kernel_rfl) rfl trivial trivial (by kernel_rfl)
theorem ti24_ok : TIok Try.prog tb 24 ti24 := TIok_mk (by kernel_rfl) (by kernel_rfl) ⟨rfl, rfl⟩ (by kernel_rfl) rfl trivial trivial (by kernel_rfl)
theorem ti26_ok : TIok Try.prog tb 26 ti26 := TIok_mk (by kernel_rfl) (by kernel_rfl) ⟨rfl, rfl⟩ (by kernel_rfl) rfl trivial trivial (by kernel_rfl)
theorem ti27_ok : TIok Try.prog tb 27 ti27 := TIok_mk (by kernel_rfl) (by kernel_rfl) ⟨rfl, rfl⟩ (by kernel_rfl) rfl trivial trivial (by kernel_rfl)
theorem ti29_ok : TIok Try.prog tb 29 ti29 := TIok_mk (by kernel_rfl) (by kernel_rfl) ⟨rfl, rfl⟩ (by kernel_rfl) rfl trivial trivial (by kernel_rfl)
theorem ti30_ok : TIok Try.prog tb 30 ti30 := TIok_mk (by kernel_rfl) (by kernel_rfl) ⟨rfl, rfl⟩ (by kernel_rfl) rfl trivial trivial (by kernel_rfl)
theorem ti31_ok : TIok Try.prog tb 31 ti31 := TIok_mk (by kernel_rfl) (by kernel_rfl) ⟨rfl, rfl⟩ (by kernel_rfl) rfl trivial trivial (by kernel_rfl)
theorem ti37_ok : TIok Try.prog tb 37 ti37 := TIok_mk (by kernel_rfl) (by kernel_rfl) ⟨rfl, rfl⟩ (by kernel_rfl) rfl trivial trivial (by kernel_rfl)
theorem ti39_ok : TIok Try.prog tb 39 ti39 := TIok_mk (by kernel_rfl) (by kernel_rfl) ⟨rfl, rfl⟩ (by kernel_rfl) rfl trivial trivial (by kernel_rfl)
theorem ti51_ok : TIok Try.prog tb 51 ti51 := TIok_mk (by kernel_rfl) (by kernel_rfl) trivial (by kernel_rfl) rfl trivial trivial (by kernel_rfl)
theorem ti61_ok : TIok Try.prog tb 61 ti61 := TIok_mk (by kernel_rfl) (by kernel_rfl) trivial (by kernel_rfl) rfl trivial trivial (by kernel_rfl)
theorem ti64_ok : TIok Try.prog tb 64 ti64 := TIok_mk (by kernel_rfl) (by kernel_rfl) trivial (by kernel_rfl) rfl trivial trivial (by kernel_rfl)
theorem ti68_ok : TIok Try.prog tb 68 ti68 := TIok_mk (by kernel_rfl) (by kernel_rfl) trivial (by kernel_rfl) rfl trivial trivial (by kernel_rfl)
theorem ti70_ok : TIok Try.prog tb 70 ti70 := TIok_mk (by kernel_rfl) (by kernel_rfl) trivial (by kernel_rfl) rfl trivial trivial (by kernel_rfl)
theorem ti71_ok : TIok Try.prog tb 71 ti71 := TIok_mk (by kernel_rfl) (by kernel_rfl) ⟨rfl, rfl⟩ (by kernel_rfl) rfl trivial trivial (by kernel_rfl)
theorem ti72_ok : TIok Try.prog tb 72 ti72 := TIok_mk (by kernel_rfl) (by kernel_rfl) ⟨rfl, rfl⟩ (by kernel_rfl) rfl trivial trivial (by kernel_rfl)
theorem ti73_ok : TIok Try.prog tb 73 ti73 := TIok_mk (by kernel_rfl) (by kernel_rfl) trivial (by kernel_rfl) rfl trivial trivial (by kernel_rfl)
theorem ti75_ok : TIok Try.prog tb 75 ti75 := TIok_mk (by kernel_rfl) (by kernel_rfl) trivial (by kernel_rfl) rfl trivial trivial (by kernel_rfl)
theorem ti78_ok : TIok Try.prog tb 78 ti78 := TIok_mk (by kernel_rfl) (by kernel_rfl) ⟨rfl, rfl⟩ (by kernel_rfl) rfl trivial trivial (by kernel_rfl)
theorem ti80_ok : TIok Try.prog tb 80 ti80 := TIok_mk (by kernel_rfl) (by kernel_rfl) ⟨rfl, rfl⟩ (by kernel_rfl) rfl trivial trivial (by kernel_rfl)
theorem ti82_ok : TIok Try.prog tb 82 ti82 := TIok_mk (by kernel_rfl) (by kernel_rfl) ⟨rfl, rfl⟩ (by kernel_rfl) rfl trivial trivial (by kernel_rfl)
theorem ti89_ok : TIok Try.prog tb 89 ti89 := TIok_mk (by kernel_rfl) (by kernel_rfl) ⟨rfl, rfl⟩ (by kernel_rfl) rfl trivial trivial (by kernel_rfl)
theorem ti91_ok : TIok Try.prog tb 91 ti91 := TIok_mk (by kernel_rfl) (by kernel_rfl) trivial (by kernel_rfl) rfl trivial trivial (by kernel_rfl)
theorem ti115_ok : TIok Try.prog tb 115 ti115 := TIok_mk (by kernel_rfl) (by kernel_rfl) ⟨rfl, rfl⟩ (by kernel_rfl) rfl trivial trivial (by kernel_rfl)
theorem ti117_ok : TIok Try.prog tb 117 ti117 := TIok_mk (by kernel_rfl) (by kernel_rfl) ⟨rfl, rfl⟩ (by kernel_rfl) rfl trivial trivial (by kernel_rfl)
theorem ti119_ok : TIok Try.prog tb 119 ti119 := TIok_mk (by kernel_rfl) (by kernel_rfl) ⟨rfl, rfl⟩ (by kernel_rfl) rfl trivial trivial (by kernel_rfl)
theorem ti121_ok : TIok Try.prog tb 121 ti121 := TIok_mk (by kernel_rfl) (by kernel_rfl) ⟨rfl, rfl⟩ (by kernel_rfl) rfl trivial trivial (by kernel_rfl)
theorem ti127_ok : TIok Try.prog tb 127 ti127 := TIok_mk (by kernel_rfl) (by kernel_rfl) trivial (by kernel_rfl) rfl trivial trivial (by kernel_rfl)
theorem ti129_ok : TIok Try.prog tb 129 ti129 := TIok_mk (by kernel_rfl) (by kernel_rfl) ⟨rfl, rfl⟩ (by kernel_rfl) rfl trivial trivial (by kernel_rfl)
theorem ti149_ok : TIok Try.prog tb 149 ti149 := TIok_mk (by kernel_rfl) (by kernel_rfl) ⟨rfl, rfl⟩ (by kernel_rfl) rfl trivial trivial (by kernel_rfl)
theorem ti152_ok : TIok Try.prog tb 152 ti152 := TIok_mk (by kernel_rfl) (by kernel_rfl) ⟨rfl, rfl⟩ (by kernel_rfl) rfl trivial trivial (by kernel_rfl)
theorem ti155_ok : TIok Try.prog tb 155 ti155 := TIok_mk (by kernel_rfl) (by kernel_rfl) trivial (by kernel_rfl) rfl trivial trivial (by kernel_rfl)
theorem ti164_ok : TIok Try.prog tb 164 ti164 := TIok_mk (by kernel_rfl) (by kernel_rfl) ⟨rfl, rfl⟩ (by kernel_rfl) rfl trivial trivial (by kernel_rfl)
theorem ti169_ok : TIok Try.prog tb 169 ti169 := TIok_mk (by kernel_rfl) (by kernel_rfl) ⟨rfl, rfl⟩ (by kernel_rfl) rfl trivial trivial (by kernel_rfl)
theorem ti170_ok : TIok Try.prog tb 170 ti170 := TIok_mk (by kernel_rfl) (by kernel_rfl) ⟨rfl, rfl⟩ (by kernel_rfl) rfl trivial trivial (by kernel_rfl)
theorem ti173_ok : TIok Try.prog tb 173 ti173 := TIok_mk (by kernel_rfl) (by kernel_rfl) ⟨rfl, rfl⟩ (by kernel_rfl) rfl trivial trivial (by kernel_rfl)
theorem ti184_ok : TIok Try.prog tb 184 ti184 := TIok_mk (by kernel_rfl) (by kernel_rfl) ⟨rfl, rfl⟩ (by kernel_rfl) rfl trivial trivial (by kernel_rfl)
theorem ti188_ok : TIok Try.prog tb 188 ti188 := TIok_mk (by kernel_rfl) (by kernel_rfl) trivial (by kernel_rfl) rfl trivial trivial (by kernel_rfl)
theorem ti190_ok : TIok Try.prog tb 190 ti190 := TIok_mk (by kernel_rfl) (by kernel_rfl) trivial (by kernel_rfl) rfl trivial trivial (by kernel_rfl)
theorem tb_ok : TabOk Try.prog tb := TT.ok ⟨ti75_ok, ⟨ti31_ok, ⟨ti23_ok, ⟨ti5_ok, ⟨ti4_ok, ⟨ti3_ok, trivial, trivial⟩, trivial⟩, ⟨ti22_ok, ⟨ti9_ok, trivial, trivial⟩, trivial⟩⟩, ⟨ti27_ok, ⟨ti26_ok, ⟨ti24_ok, trivial, trivial⟩, trivial⟩, ⟨ti30_ok, ⟨ti29_ok, trivial, trivial⟩, trivial⟩⟩⟩, ⟨ti68_ok, ⟨ti51_ok, ⟨ti39_ok, ⟨ti37_ok, trivial, trivial⟩, trivial⟩, ⟨ti64_ok, ⟨ti61_ok, trivial, trivial⟩, trivial⟩⟩, ⟨ti72_ok, ⟨ti71_ok, ⟨ti70_ok, trivial, trivial⟩, trivial⟩, ⟨ti73_ok, trivial, trivial⟩⟩⟩⟩, ⟨ti129_ok, ⟨ti115_ok, ⟨ti82_ok, ⟨ti80_ok, ⟨ti78_ok, trivial, trivial⟩, trivial⟩, ⟨ti91_ok, ⟨ti89_ok, trivial, trivial⟩, trivial⟩⟩, ⟨ti121_ok, ⟨ti119_ok, ⟨ti117_ok, trivial, trivial⟩, trivial⟩, ⟨ti127_ok, trivial, trivial⟩⟩⟩, ⟨ti170_ok, ⟨ti155_ok, ⟨ti152_ok, ⟨ti149_ok, trivial, trivial⟩, trivial⟩, ⟨ti169_ok, ⟨ti164_ok, trivial, trivial⟩, trivial⟩⟩, ⟨ti188_ok, ⟨ti184_ok, ⟨ti173_ok, trivial, trivial⟩, trivial⟩, ⟨ti190_ok, trivial, trivial⟩⟩⟩⟩⟩
theorem fo {f : Nat} {D : DFn} (hD : DOk Try.prog tb f D) (h : D.Fit) : FnOk Try.prog f D := FnOk_of tb_ok (Checked.mixed Try.checked) hD h
def Q6.as : List MK := []
def Q6.rs : List (Bool × HT) := [(true, (.prod (.d .str) (.prod (.d tI) (.prod (.d tI) (.prod (.own 80 qb) (.prod (.own 3 tI) (.prod (.d .bool) (.prod (.d .bool) (.prod (.own 82 qe) (.d qc))))))))))]
def Q6.lc : List AC := []
def Q6.D : DFn := ⟨Q6.as, Q6.rs, TRules, fun x => Q6 N, fun r o => r.1, fun b => (b, ()), fun b => (), none⟩
theorem Q6.fit : (Q6.D N).Fit := ⟨fun _ _ => rfl, fun _ _ => rfl, by kernel_rfl, (fun _ _ h => nomatch h), by kernel_rfl⟩
noncomputable def Q6.G (N : Nat) : Gam := gamOf []
def Q6.A : LA := fun _ => none
noncomputable def Q6.fin : St → Option TRules := resK tb Try.f6.results.toList (decRes (Q6.D N) Q6.lc)
theorem Q6.entry (rec : RK TRules) (x : (argH Q6.as).den) : seg tb (Q6.G N) Q6.A 0 rec (Q6.fin N) segFuel [.code (bodyOf Try.f6)] (initSt Try.f6 (encArgs Q6.as x) (encMem Q6.as x)) = Q6.e N := by kernel_rfl
theorem Q6.ok : FnOk Try.prog 6 (Q6.D N) := by
 refine fo ⟨Try.f6, Try.func6, by kernel_rfl, by kernel_rfl, fun x y h => ⟨Q6.G N, Q6.A, N, gamOf_ok (fun p hp => nomatch hp), ?_⟩⟩ (Q6.fit N)
 rw [absFn_n (n0 := 0) rfl (by kernel_rfl)]
 exact (Q6.entry N _ x).trans h
def Q7.as : List MK := []
def Q7.rs : List (Bool × HT) := [(true, (.prod (.own 3 tI) (.prod (.prod (.own 3 tI) (.own 3 tI)) (.d (.prod tI tI)))))]
def Q7.lc : List AC := []
def Q7.D : DFn := ⟨Q7.as, Q7.rs, TPos, fun x => Q7 N, fun r o => r.1, fun b => (b, ()), fun b => (), none⟩
theorem Q7.fit : (Q7.D N).Fit := ⟨fun _ _ => rfl, fun _ _ => rfl, by kernel_rfl, (fun _ _ h => nomatch h), by kernel_rfl⟩
noncomputable def Q7.G (N : Nat) : Gam := gamOf []
def Q7.A : LA := fun _ => none
noncomputable def Q7.fin : St → Option TPos := resK tb Try.f7.results.toList (decRes (Q7.D N) Q7.lc)
theorem Q7.entry (rec : RK TPos) (x : (argH Q7.as).den) : seg tb (Q7.G N) Q7.A 0 rec (Q7.fin N) segFuel [.code (bodyOf Try.f7)] (initSt Try.f7 (encArgs Q7.as x) (encMem Q7.as x)) = Q7.e N := by kernel_rfl
theorem Q7.ok : FnOk Try.prog 7 (Q7.D N) := by
 refine fo ⟨Try.f7, Try.func7, by kernel_rfl, by kernel_rfl, fun x y h => ⟨Q7.G N, Q7.A, N, gamOf_ok (fun p hp => nomatch hp), ?_⟩⟩ (Q7.fit N)
 rw [absFn_n (n0 := 0) rfl (by kernel_rfl)]
 exact (Q7.entry N _ x).trans h
def Q84.as : List MK := [.d false .str]
def Q84.rs : List (Bool × HT) := [(false, (.d .bool))]
def Q84.lc : List AC := []
def Q84.D : DFn := ⟨Q84.as, Q84.rs, Bool, fun x => Q84 N x.1, fun r o => r.1, fun b => (b, ()), fun b => (), none⟩
theorem Q84.fit : (Q84.D N).Fit := ⟨fun _ _ => rfl, fun _ _ => rfl, by kernel_rfl, (fun _ _ h => nomatch h), by kernel_rfl⟩
noncomputable def Q84.G (N : Nat) : Gam := gamOf []
def Q84.A : LA := fun k => bif Nat.beq k 0 then some ⟨[0, 22, 23], [], [], [], [], 0, false⟩ else none
noncomputable def Q84.fin : St → Option Bool := resK tb Try.f84.results.toList (decRes (Q84.D N) Q84.lc)
noncomputable def Q84.k0 : List Item := stackAt [.r, .r, .l, .r, .b] (bodyOf Try.f84) []
def Q84.st0 (s_ : ByteArray) (t23_ : Int) : St := ⟨[.one (.str s_)] ++ rA 21 ++ [oi (s_.size : Int), oi t23_] ++ rA 25, []⟩
theorem Q84.step0 (rec : RK Bool) (s_ : ByteArray) (t23_ : Int) : seg tb (Q84.G N) Q84.A 0 rec (Q84.fin N) segFuel (loopBody Q84.k0) (Q84.st0 s_ t23_) = Q84.s0 N s_ (fun t23_ => rec Q84.k0 (Q84.st0 s_ t23_)) t23_ := by kernel_rfl
theorem Q84.entry (rec : RK Bool) (x : (argH Q84.as).den) : seg tb (Q84.G N) Q84.A 0 rec (Q84.fin N) segFuel [.code (bodyOf Try.f84)] (initSt Try.f84 (encArgs Q84.as x) (encMem Q84.as x)) = Q84.e N (fun t23_ => rec Q84.k0 (Q84.st0 x.1 t23_)) x.1 := by kernel_rfl
theorem Q84.runs (N : Nat) (s_ : ByteArray) : ∀ n, (∀ (t23_ : Int), run tb (Q84.G N) Q84.A 0 (Q84.fin N) n Q84.k0 (Q84.st0 s_ t23_) = Q84.l0 N s_ n t23_)
 | 0 => fun _ => rfl
 | n + 1 => by
  have h0 := Q84.runs N s_ n
  have e0 : (fun (t23_ : Int) => run tb (Q84.G N) Q84.A 0 (Q84.fin N) n Q84.k0 (Q84.st0 s_ t23_)) = Q84.l0 N s_ n := by funext t23_; exact h0 t23_
  have g0 : (∀ (t23_ : Int), run tb (Q84.G N) Q84.A 0 (Q84.fin N) (n + 1) Q84.k0 (Q84.st0 s_ t23_) = Q84.l0 N s_ (n + 1) t23_) := by
   intro t23_
   exact (run_succ (by kernel_rfl)).trans ((Q84.step0 N _ s_ t23_).trans ((congrArg (fun r0 => Q84.s0 N s_ r0 t23_) e0).trans (Q84.l0_s N s_ n t23_).symm))
  exact g0
theorem Q84.ok : FnOk Try.prog 84 (Q84.D N) := by
 refine fo ⟨Try.f84, Try.func84, by kernel_rfl, by kernel_rfl, fun x y h => ⟨Q84.G N, Q84.A, N, gamOf_ok (fun p hp => nomatch hp), ?_⟩⟩ (Q84.fit N)
 rw [absFn_n (n0 := 0) rfl (by kernel_rfl)]
 refine (Q84.entry N (run tb (Q84.G N) Q84.A 0 (Q84.fin N) N) x).trans ?_
 have e0 : (fun (t23_ : Int) => run tb (Q84.G N) Q84.A 0 (Q84.fin N) N Q84.k0 (Q84.st0 x.1 t23_)) = Q84.l0 N x.1 N := by funext t23_; exact (Q84.runs N x.1 N) t23_
 have h' : (Q84.D N).f x = Q84.e N (Q84.l0 N x.1 N) x.1 := by kernel_rfl
 exact (congrArg (fun r0 => Q84.e N r0 x.1) e0).trans (h'.symm.trans h)
def Q93.as : List MK := [.d true (.prod tI qc)]
def Q93.rs : List (Bool × HT) := [(false, (.d tI))]
def Q93.lc : List AC := []
def Q93.D : DFn := ⟨Q93.as, Q93.rs, Int, fun x => Q93 N x.1, fun r o => r.1, fun b => (b, ()), fun b => (), none⟩
theorem Q93.fit : (Q93.D N).Fit := ⟨fun _ _ => rfl, fun _ _ => rfl, by kernel_rfl, (fun _ _ h => nomatch h), by kernel_rfl⟩
noncomputable def Q93.G (N : Nat) : Gam := gamOf []
def Q93.A : LA := fun _ => none
noncomputable def Q93.fin : St → Option Int := resK tb Try.f93.results.toList (decRes (Q93.D N) Q93.lc)
theorem Q93.entry (rec : RK Int) (x : (argH Q93.as).den) : seg tb (Q93.G N) Q93.A 0 rec (Q93.fin N) segFuel [.code (bodyOf Try.f93)] (initSt Try.f93 (encArgs Q93.as x) (encMem Q93.as x)) = Q93.e N x.1 := by kernel_rfl
theorem Q93.ok : FnOk Try.prog 93 (Q93.D N) := by
 refine fo ⟨Try.f93, Try.func93, by kernel_rfl, by kernel_rfl, fun x y h => ⟨Q93.G N, Q93.A, N, gamOf_ok (fun p hp => nomatch hp), ?_⟩⟩ (Q93.fit N)
 rw [absFn_n (n0 := 0) rfl (by kernel_rfl)]
 exact (Q93.entry N _ x).trans h
def Q85.as : List MK := [.d false (.slice 80 qb)]
def Q85.rs : List (Bool × HT) := [(false, (.d tI))]
def Q85.lc : List AC := []
def Q85.D : DFn := ⟨Q85.as, Q85.rs, Int, fun x => Q85 N x.1, fun r o => r.1, fun b => (b, ()), fun b => (), none⟩
theorem Q85.fit : (Q85.D N).Fit := ⟨fun _ _ => rfl, fun _ _ => rfl, by kernel_rfl, (fun _ _ h => nomatch h), by kernel_rfl⟩
noncomputable def Q85.G : Gam := gamOf [(93, Q93.D N)]
def Q85.A : LA := fun k => bif Nat.beq k 1 then some ⟨[0, 18, 19, 20], [], [], [], [], 0, false⟩ else bif Nat.beq k 3 then some ⟨[0, 4, 18, 19, 20, 35, 36, 37], [], [], [], [], 1, false⟩ else bif Nat.beq k 5 then some ⟨[0, 18, 19, 20, 72, 73, 74], [], [], [], [], 0, false⟩ else none
noncomputable def Q85.fin : St → Option Int := resK tb Try.f85.results.toList (decRes (Q85.D N) Q85.lc)
noncomputable def Q85.k0 : List Item := stackAt [.r, .r, .l, .r, .b] (bodyOf Try.f85) []
def Q85.st0 (l_ : (List TPiece)) (t20_ : Int) : St := ⟨[.one (.fro 80 qb l_)] ++ rA 17 ++ [.one (.fro 80 qb l_), oi (l_.length : Int), oi t20_] ++ rA 64, []⟩
noncomputable def Q85.k1 : List Item := stackAt [.r, .r, .l, .r, .b, .w, .r, .r, .l, .b, .r, .r, .l, .r, .b] (bodyOf Try.f85) []
def Q85.st1 (l_ : (List TPiece)) (t20_ : Int) (t35_ : (List TPiece)) (t36_ t37_ p_ p_2 p_3 : Int) (p_4 : (List TWay)) : St := ⟨[.one (.fro 80 qb l_)] ++ rA 3 ++ [.one (.ptr 0 0)] ++ rA 13 ++ [.one (.fro 80 qb l_), oi (l_.length : Int), oi t20_] ++ rA 14 ++ [.one (.fro 80 qb t35_), oi t36_, oi t37_] ++ rA 47, [.var 80 [.int .u8 p_, .int .i64 p_2, .int .i64 p_3, .fro 152 (.prod tI qc) p_4]]⟩
noncomputable def Q85.k2 : List Item := stackAt [.r, .r, .l, .r, .b, .w, .r, .r, .l, .b, .r, .r, .r, .r, .r, .r, .b] (bodyOf Try.f85) []
def Q85.st2 (l_ : (List TPiece)) (t20_ : Int) (t72_ : (List TWay)) (t73_ t74_ : Int) : St := ⟨[.one (.fro 80 qb l_)] ++ rA 17 ++ [.one (.fro 80 qb l_), oi (l_.length : Int), oi t20_] ++ rA 51 ++ [.one (.fro 152 (.prod tI qc) t72_), oi t73_, oi t74_] ++ rA 10, []⟩
theorem Q85.step0 (rec : RK Int) (l_ : (List TPiece)) (t20_ : Int) : seg tb (Q85.G N) Q85.A 0 rec (Q85.fin N) segFuel (loopBody Q85.k0) (Q85.st0 l_ t20_) = Q85.s0 N l_ (fun t20_ => rec Q85.k0 (Q85.st0 l_ t20_)) (fun t20_ t35_ t36_ t37_ p_ p_2 p_3 p_4 => rec Q85.k1 (Q85.st1 l_ t20_ t35_ t36_ t37_ p_ p_2 p_3 p_4)) (fun t20_ t72_ t73_ t74_ => rec Q85.k2 (Q85.st2 l_ t20_ t72_ t73_ t74_)) t20_ := by kernel_rfl
theorem Q85.step1 (rec : RK Int) (l_ : (List TPiece)) (t20_ : Int) (t35_ : (List TPiece)) (t36_ t37_ p_ p_2 p_3 : Int) (p_4 : (List TWay)) : seg tb (Q85.G N) Q85.A 0 rec (Q85.fin N) segFuel (loopBody Q85.k1) (Q85.st1 l_ t20_ t35_ t36_ t37_ p_ p_2 p_3 p_4) = Q85.s1 N l_ (fun t20_ => rec Q85.k0 (Q85.st0 l_ t20_)) (fun t20_ t35_ t36_ t37_ p_ p_2 p_3 p_4 => rec Q85.k1 (Q85.st1 l_ t20_ t35_ t36_ t37_ p_ p_2 p_3 p_4)) (fun t20_ t72_ t73_ t74_ => rec Q85.k2 (Q85.st2 l_ t20_ t72_ t73_ t74_)) t20_ t35_ t36_ t37_ p_ p_2 p_3 p_4 := by kernel_rfl
theorem Q85.step2 (rec : RK Int) (l_ : (List TPiece)) (t20_ : Int) (t72_ : (List TWay)) (t73_ t74_ : Int) : seg tb (Q85.G N) Q85.A 0 rec (Q85.fin N) segFuel (loopBody Q85.k2) (Q85.st2 l_ t20_ t72_ t73_ t74_) = Q85.s2 N l_ (fun t20_ => rec Q85.k0 (Q85.st0 l_ t20_)) (fun t20_ t35_ t36_ t37_ p_ p_2 p_3 p_4 => rec Q85.k1 (Q85.st1 l_ t20_ t35_ t36_ t37_ p_ p_2 p_3 p_4)) (fun t20_ t72_ t73_ t74_ => rec Q85.k2 (Q85.st2 l_ t20_ t72_ t73_ t74_)) t20_ t72_ t73_ t74_ := by kernel_rfl
theorem Q85.entry (rec : RK Int) (x : (argH Q85.as).den) : seg tb (Q85.G N) Q85.A 0 rec (Q85.fin N) segFuel [.code (bodyOf Try.f85)] (initSt Try.f85 (encArgs Q85.as x) (encMem Q85.as x)) = Q85.e N (fun t20_ => rec Q85.k0 (Q85.st0 x.1 t20_)) (fun t20_ t35_ t36_ t37_ p_ p_2 p_3 p_4 => rec Q85.k1 (Q85.st1 x.1 t20_ t35_ t36_ t37_ p_ p_2 p_3 p_4)) (fun t20_ t72_ t73_ t74_ => rec Q85.k2 (Q85.st2 x.1 t20_ t72_ t73_ t74_)) x.1 := by kernel_rfl
theorem Q85.runs (N : Nat) (l_ : (List TPiece)) : ∀ n, (∀ (t20_ : Int), run tb (Q85.G N) Q85.A 0 (Q85.fin N) n Q85.k0 (Q85.st0 l_ t20_) = Q85.l0 N l_ n t20_) ∧ (∀ (t20_ : Int) (t35_ : (List TPiece)) (t36_ t37_ p_ p_2 p_3 : Int) (p_4 : (List TWay)), run tb (Q85.G N) Q85.A 0 (Q85.fin N) n Q85.k1 (Q85.st1 l_ t20_ t35_ t36_ t37_ p_ p_2 p_3 p_4) = Q85.l1 N l_ n t20_ t35_ t36_ t37_ p_ p_2 p_3 p_4) ∧ (∀ (t20_ : Int) (t72_ : (List TWay)) (t73_ t74_ : Int), run tb (Q85.G N) Q85.A 0 (Q85.fin N) n Q85.k2 (Q85.st2 l_ t20_ t72_ t73_ t74_) = Q85.l2 N l_ n t20_ t72_ t73_ t74_)
 | 0 => ⟨fun _ => rfl, fun _ _ _ _ _ _ _ _ => rfl, fun _ _ _ _ => rfl⟩
 | n + 1 => by
  obtain ⟨h0, h1, h2⟩ := Q85.runs N l_ n
  have e0 : (fun (t20_ : Int) => run tb (Q85.G N) Q85.A 0 (Q85.fin N) n Q85.k0 (Q85.st0 l_ t20_)) = Q85.l0 N l_ n := by funext t20_; exact h0 t20_
  have e1 : (fun (t20_ : Int) (t35_ : (List TPiece)) (t36_ t37_ p_ p_2 p_3 : Int) (p_4 : (List TWay)) => run tb (Q85.G N) Q85.A 0 (Q85.fin N) n Q85.k1 (Q85.st1 l_ t20_ t35_ t36_ t37_ p_ p_2 p_3 p_4)) = Q85.l1 N l_ n := by funext t20_ t35_ t36_ t37_ p_ p_2 p_3 p_4; exact h1 t20_ t35_ t36_ t37_ p_ p_2 p_3 p_4
  have e2 : (fun (t20_ : Int) (t72_ : (List TWay)) (t73_ t74_ : Int) => run tb (Q85.G N) Q85.A 0 (Q85.fin N) n Q85.k2 (Q85.st2 l_ t20_ t72_ t73_ t74_)) = Q85.l2 N l_ n := by funext t20_ t72_ t73_ t74_; exact h2 t20_ t72_ t73_ t74_
  have g0 : (∀ (t20_ : Int), run tb (Q85.G N) Q85.A 0 (Q85.fin N) (n + 1) Q85.k0 (Q85.st0 l_ t20_) = Q85.l0 N l_ (n + 1) t20_) := by
   intro t20_
   exact (run_succ (by kernel_rfl)).trans ((Q85.step0 N _ l_ t20_).trans ((congr (congr (congrArg (fun r0 r1 r2 => Q85.s0 N l_ r0 r1 r2 t20_) e0) e1) e2).trans (Q85.l0_s N l_ n t20_).symm))
  have g1 : (∀ (t20_ : Int) (t35_ : (List TPiece)) (t36_ t37_ p_ p_2 p_3 : Int) (p_4 : (List TWay)), run tb (Q85.G N) Q85.A 0 (Q85.fin N) (n + 1) Q85.k1 (Q85.st1 l_ t20_ t35_ t36_ t37_ p_ p_2 p_3 p_4) = Q85.l1 N l_ (n + 1) t20_ t35_ t36_ t37_ p_ p_2 p_3 p_4) := by
   intro t20_ t35_ t36_ t37_ p_ p_2 p_3 p_4
   exact (run_succ (by kernel_rfl)).trans ((Q85.step1 N _ l_ t20_ t35_ t36_ t37_ p_ p_2 p_3 p_4).trans ((congr (congr (congrArg (fun r0 r1 r2 => Q85.s1 N l_ r0 r1 r2 t20_ t35_ t36_ t37_ p_ p_2 p_3 p_4) e0) e1) e2).trans (Q85.l1_s N l_ n t20_ t35_ t36_ t37_ p_ p_2 p_3 p_4).symm))
  have g2 : (∀ (t20_ : Int) (t72_ : (List TWay)) (t73_ t74_ : Int), run tb (Q85.G N) Q85.A 0 (Q85.fin N) (n + 1) Q85.k2 (Q85.st2 l_ t20_ t72_ t73_ t74_) = Q85.l2 N l_ (n + 1) t20_ t72_ t73_ t74_) := by
   intro t20_ t72_ t73_ t74_
   exact (run_succ (by kernel_rfl)).trans ((Q85.step2 N _ l_ t20_ t72_ t73_ t74_).trans ((congr (congr (congrArg (fun r0 r1 r2 => Q85.s2 N l_ r0 r1 r2 t20_ t72_ t73_ t74_) e0) e1) e2).trans (Q85.l2_s N l_ n t20_ t72_ t73_ t74_).symm))
  exact ⟨g0, g1, g2⟩
theorem Q85.ok : FnOk Try.prog 85 (Q85.D N) := by
 refine fo ⟨Try.f85, Try.func85, by kernel_rfl, by kernel_rfl, fun x y h => ⟨Q85.G N, Q85.A, N, gamOf_ok (gc ⟨Q93.ok N, Q93.fit N⟩ gn), ?_⟩⟩ (Q85.fit N)
 rw [absFn_n (n0 := 0) rfl (by kernel_rfl)]
 refine (Q85.entry N (run tb (Q85.G N) Q85.A 0 (Q85.fin N) N) x).trans ?_
 have e0 : (fun (t20_ : Int) => run tb (Q85.G N) Q85.A 0 (Q85.fin N) N Q85.k0 (Q85.st0 x.1 t20_)) = Q85.l0 N x.1 N := by funext t20_; exact (Q85.runs N x.1 N).1 t20_
 have e1 : (fun (t20_ : Int) (t35_ : (List TPiece)) (t36_ t37_ p_ p_2 p_3 : Int) (p_4 : (List TWay)) => run tb (Q85.G N) Q85.A 0 (Q85.fin N) N Q85.k1 (Q85.st1 x.1 t20_ t35_ t36_ t37_ p_ p_2 p_3 p_4)) = Q85.l1 N x.1 N := by funext t20_ t35_ t36_ t37_ p_ p_2 p_3 p_4; exact (Q85.runs N x.1 N).2.1 t20_ t35_ t36_ t37_ p_ p_2 p_3 p_4
 have e2 : (fun (t20_ : Int) (t72_ : (List TWay)) (t73_ t74_ : Int) => run tb (Q85.G N) Q85.A 0 (Q85.fin N) N Q85.k2 (Q85.st2 x.1 t20_ t72_ t73_ t74_)) = Q85.l2 N x.1 N := by funext t20_ t72_ t73_ t74_; exact (Q85.runs N x.1 N).2.2 t20_ t72_ t73_ t74_
 have h' : (Q85.D N).f x = Q85.e N (Q85.l0 N x.1 N) (Q85.l1 N x.1 N) (Q85.l2 N x.1 N) x.1 := by kernel_rfl
 exact (congr (congr (congrArg (fun r0 r1 r2 => Q85.e N r0 r1 r2 x.1) e0) e1) e2).trans (h'.symm.trans h)
def Q86.as : List MK := [.d true qe, .d false tI]
def Q86.rs : List (Bool × HT) := [(false, (.d tI))]
def Q86.lc : List AC := []
def Q86.D : DFn := ⟨Q86.as, Q86.rs, Int, fun x => Q86 N x.1 x.2.1, fun r o => r.1, fun b => (b, ()), fun b => (), none⟩
theorem Q86.fit : (Q86.D N).Fit := ⟨fun _ _ => rfl, fun _ _ => rfl, by kernel_rfl, (fun _ _ h => nomatch h), by kernel_rfl⟩
noncomputable def Q86.G (N : Nat) : Gam := gamOf []
def Q86.A : LA := fun _ => none
noncomputable def Q86.fin : St → Option Int := resK tb Try.f86.results.toList (decRes (Q86.D N) Q86.lc)
theorem Q86.entry (rec : RK Int) (x : (argH Q86.as).den) : seg tb (Q86.G N) Q86.A 0 rec (Q86.fin N) segFuel [.code (bodyOf Try.f86)] (initSt Try.f86 (encArgs Q86.as x) (encMem Q86.as x)) = Q86.e N x.1 x.2.1 := by kernel_rfl
theorem Q86.ok : FnOk Try.prog 86 (Q86.D N) := by
 refine fo ⟨Try.f86, Try.func86, by kernel_rfl, by kernel_rfl, fun x y h => ⟨Q86.G N, Q86.A, N, gamOf_ok (fun p hp => nomatch hp), ?_⟩⟩ (Q86.fit N)
 rw [absFn_n (n0 := 0) rfl (by kernel_rfl)]
 exact (Q86.entry N _ x).trans h
def Q63.as : List MK := [.d true qa]
def Q63.rs : List (Bool × HT) := [(false, (.d tI))]
def Q63.lc : List AC := []
def Q63.D : DFn := ⟨Q63.as, Q63.rs, Int, fun x => Q63 N x.1, fun r o => r.1, fun b => (b, ()), fun b => (), none⟩
theorem Q63.fit : (Q63.D N).Fit := ⟨fun _ _ => rfl, fun _ _ => rfl, by kernel_rfl, (fun _ _ h => nomatch h), by kernel_rfl⟩
noncomputable def Q63.G : Gam := gamOf [(84, Q84.D N), (85, Q85.D N), (86, Q86.D N)]
def Q63.A : LA := fun k => bif Nat.beq k 1 then some ⟨[1, 49, 50, 51], [], [], [], [], 1, false⟩ else bif Nat.beq k 3 then some ⟨[1, 71, 72, 73], [], [], [], [], 1, false⟩ else none
noncomputable def Q63.fin : St → Option Int := resK tb Try.f63.results.toList (decRes (Q63.D N) Q63.lc)
noncomputable def Q63.k0 : List Item := stackAt [.r, .r, .r, .r, .l, .r, .b] (bodyOf Try.f63) []
def Q63.st0 (r_ : TRules) (t50_ t51_ : Int) : St := ⟨[oA, .one (.ptr 0 0)] ++ rA 47 ++ [.one (.fro 3 tI r_.2.2.2.2.1), oi t50_, oi t51_] ++ rA 67, [vR r_]⟩
noncomputable def Q63.k1 : List Item := stackAt [.r, .r, .r, .r, .r, .r, .l, .r, .b] (bodyOf Try.f63) []
def Q63.st1 (r_ : TRules) (t72_ t73_ : Int) : St := ⟨[oA, .one (.ptr 0 0)] ++ rA 69 ++ [.one (.fro 82 qe r_.2.2.2.2.2.2.2.1), oi t72_, oi t73_] ++ rA 45, [vR r_]⟩
theorem Q63.step0 (rec : RK Int) (r_ : TRules) (t50_ t51_ : Int) : seg tb (Q63.G N) Q63.A 0 rec (Q63.fin N) segFuel (loopBody Q63.k0) (Q63.st0 r_ t50_ t51_) = Q63.s0 N r_ (fun t50_ t51_ => rec Q63.k0 (Q63.st0 r_ t50_ t51_)) (fun t72_ t73_ => rec Q63.k1 (Q63.st1 r_ t72_ t73_)) t50_ t51_ := by kernel_rfl
theorem Q63.step1 (rec : RK Int) (r_ : TRules) (t72_ t73_ : Int) : seg tb (Q63.G N) Q63.A 0 rec (Q63.fin N) segFuel (loopBody Q63.k1) (Q63.st1 r_ t72_ t73_) = Q63.s1 N r_ (fun t50_ t51_ => rec Q63.k0 (Q63.st0 r_ t50_ t51_)) (fun t72_ t73_ => rec Q63.k1 (Q63.st1 r_ t72_ t73_)) t72_ t73_ := by kernel_rfl
theorem Q63.entry (rec : RK Int) (x : (argH Q63.as).den) : seg tb (Q63.G N) Q63.A 0 rec (Q63.fin N) segFuel [.code (bodyOf Try.f63)] (initSt Try.f63 (encArgs Q63.as x) (encMem Q63.as x)) = Q63.e N (fun t50_ t51_ => rec Q63.k0 (Q63.st0 x.1 t50_ t51_)) (fun t72_ t73_ => rec Q63.k1 (Q63.st1 x.1 t72_ t73_)) x.1 := by kernel_rfl
theorem Q63.runs (N : Nat) (r_ : TRules) : ∀ n, (∀ (t50_ t51_ : Int), run tb (Q63.G N) Q63.A 0 (Q63.fin N) n Q63.k0 (Q63.st0 r_ t50_ t51_) = Q63.l0 N r_ n t50_ t51_) ∧ (∀ (t72_ t73_ : Int), run tb (Q63.G N) Q63.A 0 (Q63.fin N) n Q63.k1 (Q63.st1 r_ t72_ t73_) = Q63.l1 N r_ n t72_ t73_)
 | 0 => ⟨fun _ _ => rfl, fun _ _ => rfl⟩
 | n + 1 => by
  obtain ⟨h0, h1⟩ := Q63.runs N r_ n
  have e0 : (fun (t50_ t51_ : Int) => run tb (Q63.G N) Q63.A 0 (Q63.fin N) n Q63.k0 (Q63.st0 r_ t50_ t51_)) = Q63.l0 N r_ n := by funext t50_ t51_; exact h0 t50_ t51_
  have e1 : (fun (t72_ t73_ : Int) => run tb (Q63.G N) Q63.A 0 (Q63.fin N) n Q63.k1 (Q63.st1 r_ t72_ t73_)) = Q63.l1 N r_ n := by funext t72_ t73_; exact h1 t72_ t73_
  have g0 : (∀ (t50_ t51_ : Int), run tb (Q63.G N) Q63.A 0 (Q63.fin N) (n + 1) Q63.k0 (Q63.st0 r_ t50_ t51_) = Q63.l0 N r_ (n + 1) t50_ t51_) := by
   intro t50_ t51_
   exact (run_succ (by kernel_rfl)).trans ((Q63.step0 N _ r_ t50_ t51_).trans ((congr (congrArg (fun r0 r1 => Q63.s0 N r_ r0 r1 t50_ t51_) e0) e1).trans (Q63.l0_s N r_ n t50_ t51_).symm))
  have g1 : (∀ (t72_ t73_ : Int), run tb (Q63.G N) Q63.A 0 (Q63.fin N) (n + 1) Q63.k1 (Q63.st1 r_ t72_ t73_) = Q63.l1 N r_ (n + 1) t72_ t73_) := by
   intro t72_ t73_
   exact (run_succ (by kernel_rfl)).trans ((Q63.step1 N _ r_ t72_ t73_).trans ((congr (congrArg (fun r0 r1 => Q63.s1 N r_ r0 r1 t72_ t73_) e0) e1).trans (Q63.l1_s N r_ n t72_ t73_).symm))
  exact ⟨g0, g1⟩
theorem Q63.ok : FnOk Try.prog 63 (Q63.D N) := by
 refine fo ⟨Try.f63, Try.func63, by kernel_rfl, by kernel_rfl, fun x y h => ⟨Q63.G N, Q63.A, N, gamOf_ok (gc ⟨Q84.ok N, Q84.fit N⟩ (gc ⟨Q85.ok N, Q85.fit N⟩ (gc ⟨Q86.ok N, Q86.fit N⟩ gn))), ?_⟩⟩ (Q63.fit N)
 rw [absFn_n (n0 := 0) rfl (by kernel_rfl)]
 refine (Q63.entry N (run tb (Q63.G N) Q63.A 0 (Q63.fin N) N) x).trans ?_
 have e0 : (fun (t50_ t51_ : Int) => run tb (Q63.G N) Q63.A 0 (Q63.fin N) N Q63.k0 (Q63.st0 x.1 t50_ t51_)) = Q63.l0 N x.1 N := by funext t50_ t51_; exact (Q63.runs N x.1 N).1 t50_ t51_
 have e1 : (fun (t72_ t73_ : Int) => run tb (Q63.G N) Q63.A 0 (Q63.fin N) N Q63.k1 (Q63.st1 x.1 t72_ t73_)) = Q63.l1 N x.1 N := by funext t72_ t73_; exact (Q63.runs N x.1 N).2 t72_ t73_
 have h' : (Q63.D N).f x = Q63.e N (Q63.l0 N x.1 N) (Q63.l1 N x.1 N) x.1 := by kernel_rfl
 exact (congr (congrArg (fun r0 r1 => Q63.e N r0 r1 x.1) e0) e1).trans (h'.symm.trans h)
def Q36.as : List MK := [.d true qa, .d true qd]
def Q36.rs : List (Bool × HT) := [(false, (.d tI))]
def Q36.lc : List AC := []
def Q36.D : DFn := ⟨Q36.as, Q36.rs, Int, fun x => Q36 N x.1 x.2.1, fun r o => r.1, fun b => (b, ()), fun b => (), none⟩
theorem Q36.fit : (Q36.D N).Fit := ⟨fun _ _ => rfl, fun _ _ => rfl, by kernel_rfl, (fun _ _ h => nomatch h), by kernel_rfl⟩
noncomputable def Q36.G : Gam := gamOf [(63, Q63.D N)]
def Q36.A : LA := fun k => bif Nat.beq k 0 then some ⟨[2, 3, 47, 48, 49], [], [], [], [], 2, false⟩ else bif Nat.beq k 2 then some ⟨[3, 65, 66], [], [], [], [0], 2, false⟩ else bif Nat.beq k 4 then some ⟨[3, 65, 66, 69, 70, 71], [], [], [], [], 2, false⟩ else none
noncomputable def Q36.fin : St → Option Int := resK tb Try.f36.results.toList (decRes (Q36.D N) Q36.lc)
noncomputable def Q36.k0 : List Item := stackAt [.r, .r, .r, .l, .r, .b] (bodyOf Try.f36) []
def Q36.st0 (r_ : TRules) (p_ : TPos) (t49_ : Int) : St := ⟨[oA, oA, .one (.ptr 0 0), .one (.ptr 1 0)] ++ rA 43 ++ [.one (.fro 3 tI p_.1), oi (p_.1.length : Int), oi t49_] ++ rA 51, [vR r_, vP p_]⟩
noncomputable def Q36.k1 : List Item := stackAt [.r, .r, .r, .r, .l, .r, .b] (bodyOf Try.f36) []
def Q36.st1 (r_ : TRules) (p_ : TPos) (t66_ : Int) : St := ⟨rA 3 ++ [.one (.ptr 1 0)] ++ rA 61 ++ [.agg [.fro 3 tI p_.2.1.1, .fro 3 tI p_.2.1.2], oi t66_] ++ rA 34, [.gone, vP p_]⟩
noncomputable def Q36.k2 : List Item := stackAt [.r, .r, .r, .r, .l, .r, .b, .w, .r, .r, .l, .b, .r, .r, .b] (bodyOf Try.f36) []
def Q36.st2 (r_ : TRules) (p_ : TPos) (t66_ : Int) (t69_ : LInt) (t70_ t71_ : Int) : St := ⟨rA 3 ++ [.one (.ptr 1 0)] ++ rA 61 ++ [.agg [.fro 3 tI p_.2.1.1, .fro 3 tI p_.2.1.2], oi t66_, oA, oA, .one (.fro 3 tI t69_), oi t70_, oi t71_] ++ rA 29, [.gone, vP p_]⟩
theorem Q36.step0 (rec : RK Int) (r_ : TRules) (p_ : TPos) (t49_ : Int) : seg tb (Q36.G N) Q36.A 0 rec (Q36.fin N) segFuel (loopBody Q36.k0) (Q36.st0 r_ p_ t49_) = Q36.s0 N r_ p_ (fun t49_ => rec Q36.k0 (Q36.st0 r_ p_ t49_)) (fun t66_ => rec Q36.k1 (Q36.st1 r_ p_ t66_)) (fun t66_ t69_ t70_ t71_ => rec Q36.k2 (Q36.st2 r_ p_ t66_ t69_ t70_ t71_)) t49_ := by kernel_rfl
theorem Q36.step1 (rec : RK Int) (r_ : TRules) (p_ : TPos) (t66_ : Int) : seg tb (Q36.G N) Q36.A 0 rec (Q36.fin N) segFuel (loopBody Q36.k1) (Q36.st1 r_ p_ t66_) = Q36.s1 N r_ p_ (fun t49_ => rec Q36.k0 (Q36.st0 r_ p_ t49_)) (fun t66_ => rec Q36.k1 (Q36.st1 r_ p_ t66_)) (fun t66_ t69_ t70_ t71_ => rec Q36.k2 (Q36.st2 r_ p_ t66_ t69_ t70_ t71_)) t66_ := by kernel_rfl
theorem Q36.step2 (rec : RK Int) (r_ : TRules) (p_ : TPos) (t66_ : Int) (t69_ : LInt) (t70_ t71_ : Int) : seg tb (Q36.G N) Q36.A 0 rec (Q36.fin N) segFuel (loopBody Q36.k2) (Q36.st2 r_ p_ t66_ t69_ t70_ t71_) = Q36.s2 N r_ p_ (fun t49_ => rec Q36.k0 (Q36.st0 r_ p_ t49_)) (fun t66_ => rec Q36.k1 (Q36.st1 r_ p_ t66_)) (fun t66_ t69_ t70_ t71_ => rec Q36.k2 (Q36.st2 r_ p_ t66_ t69_ t70_ t71_)) t66_ t69_ t70_ t71_ := by kernel_rfl
theorem Q36.entry (rec : RK Int) (x : (argH Q36.as).den) : seg tb (Q36.G N) Q36.A 0 rec (Q36.fin N) segFuel [.code (bodyOf Try.f36)] (initSt Try.f36 (encArgs Q36.as x) (encMem Q36.as x)) = Q36.e N (fun t49_ => rec Q36.k0 (Q36.st0 x.1 x.2.1 t49_)) (fun t66_ => rec Q36.k1 (Q36.st1 x.1 x.2.1 t66_)) (fun t66_ t69_ t70_ t71_ => rec Q36.k2 (Q36.st2 x.1 x.2.1 t66_ t69_ t70_ t71_)) x.1 x.2.1 := by kernel_rfl
theorem Q36.runs (N : Nat) (r_ : TRules) (p_ : TPos) : ∀ n, (∀ (t49_ : Int), run tb (Q36.G N) Q36.A 0 (Q36.fin N) n Q36.k0 (Q36.st0 r_ p_ t49_) = Q36.l0 N r_ p_ n t49_) ∧ (∀ (t66_ : Int), run tb (Q36.G N) Q36.A 0 (Q36.fin N) n Q36.k1 (Q36.st1 r_ p_ t66_) = Q36.l1 N r_ p_ n t66_) ∧ (∀ (t66_ : Int) (t69_ : LInt) (t70_ t71_ : Int), run tb (Q36.G N) Q36.A 0 (Q36.fin N) n Q36.k2 (Q36.st2 r_ p_ t66_ t69_ t70_ t71_) = Q36.l2 N r_ p_ n t66_ t69_ t70_ t71_)
 | 0 => ⟨fun _ => rfl, fun _ => rfl, fun _ _ _ _ => rfl⟩
 | n + 1 => by
  obtain ⟨h0, h1, h2⟩ := Q36.runs N r_ p_ n
  have e0 : (fun (t49_ : Int) => run tb (Q36.G N) Q36.A 0 (Q36.fin N) n Q36.k0 (Q36.st0 r_ p_ t49_)) = Q36.l0 N r_ p_ n := by funext t49_; exact h0 t49_
  have e1 : (fun (t66_ : Int) => run tb (Q36.G N) Q36.A 0 (Q36.fin N) n Q36.k1 (Q36.st1 r_ p_ t66_)) = Q36.l1 N r_ p_ n := by funext t66_; exact h1 t66_
  have e2 : (fun (t66_ : Int) (t69_ : LInt) (t70_ t71_ : Int) => run tb (Q36.G N) Q36.A 0 (Q36.fin N) n Q36.k2 (Q36.st2 r_ p_ t66_ t69_ t70_ t71_)) = Q36.l2 N r_ p_ n := by funext t66_ t69_ t70_ t71_; exact h2 t66_ t69_ t70_ t71_
  have g0 : (∀ (t49_ : Int), run tb (Q36.G N) Q36.A 0 (Q36.fin N) (n + 1) Q36.k0 (Q36.st0 r_ p_ t49_) = Q36.l0 N r_ p_ (n + 1) t49_) := by
   intro t49_
   exact (run_succ (by kernel_rfl)).trans ((Q36.step0 N _ r_ p_ t49_).trans ((congr (congr (congrArg (fun r0 r1 r2 => Q36.s0 N r_ p_ r0 r1 r2 t49_) e0) e1) e2).trans (Q36.l0_s N r_ p_ n t49_).symm))
  have g1 : (∀ (t66_ : Int), run tb (Q36.G N) Q36.A 0 (Q36.fin N) (n + 1) Q36.k1 (Q36.st1 r_ p_ t66_) = Q36.l1 N r_ p_ (n + 1) t66_) := by
   intro t66_
   exact (run_succ (by kernel_rfl)).trans ((Q36.step1 N _ r_ p_ t66_).trans ((congr (congr (congrArg (fun r0 r1 r2 => Q36.s1 N r_ p_ r0 r1 r2 t66_) e0) e1) e2).trans (Q36.l1_s N r_ p_ n t66_).symm))
  have g2 : (∀ (t66_ : Int) (t69_ : LInt) (t70_ t71_ : Int), run tb (Q36.G N) Q36.A 0 (Q36.fin N) (n + 1) Q36.k2 (Q36.st2 r_ p_ t66_ t69_ t70_ t71_) = Q36.l2 N r_ p_ (n + 1) t66_ t69_ t70_ t71_) := by
   intro t66_ t69_ t70_ t71_
   exact (run_succ (by kernel_rfl)).trans ((Q36.step2 N _ r_ p_ t66_ t69_ t70_ t71_).trans ((congr (congr (congrArg (fun r0 r1 r2 => Q36.s2 N r_ p_ r0 r1 r2 t66_ t69_ t70_ t71_) e0) e1) e2).trans (Q36.l2_s N r_ p_ n t66_ t69_ t70_ t71_).symm))
  exact ⟨g0, g1, g2⟩
theorem Q36.ok : FnOk Try.prog 36 (Q36.D N) := by
 refine fo ⟨Try.f36, Try.func36, by kernel_rfl, by kernel_rfl, fun x y h => ⟨Q36.G N, Q36.A, N, gamOf_ok (gc ⟨Q63.ok N, Q63.fit N⟩ gn), ?_⟩⟩ (Q36.fit N)
 rw [absFn_n (n0 := 0) rfl (by kernel_rfl)]
 refine (Q36.entry N (run tb (Q36.G N) Q36.A 0 (Q36.fin N) N) x).trans ?_
 have e0 : (fun (t49_ : Int) => run tb (Q36.G N) Q36.A 0 (Q36.fin N) N Q36.k0 (Q36.st0 x.1 x.2.1 t49_)) = Q36.l0 N x.1 x.2.1 N := by funext t49_; exact (Q36.runs N x.1 x.2.1 N).1 t49_
 have e1 : (fun (t66_ : Int) => run tb (Q36.G N) Q36.A 0 (Q36.fin N) N Q36.k1 (Q36.st1 x.1 x.2.1 t66_)) = Q36.l1 N x.1 x.2.1 N := by funext t66_; exact (Q36.runs N x.1 x.2.1 N).2.1 t66_
 have e2 : (fun (t66_ : Int) (t69_ : LInt) (t70_ t71_ : Int) => run tb (Q36.G N) Q36.A 0 (Q36.fin N) N Q36.k2 (Q36.st2 x.1 x.2.1 t66_ t69_ t70_ t71_)) = Q36.l2 N x.1 x.2.1 N := by funext t66_ t69_ t70_ t71_; exact (Q36.runs N x.1 x.2.1 N).2.2 t66_ t69_ t70_ t71_
 have h' : (Q36.D N).f x = Q36.e N (Q36.l0 N x.1 x.2.1 N) (Q36.l1 N x.1 x.2.1 N) (Q36.l2 N x.1 x.2.1 N) x.1 x.2.1 := by kernel_rfl
 exact (congr (congr (congrArg (fun r0 r1 r2 => Q36.e N r0 r1 r2 x.1 x.2.1) e0) e1) e2).trans (h'.symm.trans h)
def Q42.as : List MK := [.d true qa]
def Q42.rs : List (Bool × HT) := [(true, (.prod (.d .str) (.prod (.d tI) (.prod (.d tI) (.prod (.own 80 qb) (.prod (.own 3 tI) (.prod (.d .bool) (.prod (.d .bool) (.prod (.own 82 qe) (.d qc))))))))))]
def Q42.lc : List AC := []
def Q42.D : DFn := ⟨Q42.as, Q42.rs, TRules, fun x => Q42 N x.1, fun r o => r.1, fun b => (b, ()), fun b => (), none⟩
theorem Q42.fit : (Q42.D N).Fit := ⟨fun _ _ => rfl, fun _ _ => rfl, by kernel_rfl, (fun _ _ h => nomatch h), by kernel_rfl⟩
noncomputable def Q42.G (N : Nat) : Gam := gamOf []
def Q42.A : LA := fun k => bif Nat.beq k 0 then some ⟨[1, 2, 3, 13, 14, 15], [], [], [], [], 4, false⟩ else none
noncomputable def Q42.fin : St → Option TRules := resK tb Try.f42.results.toList (decRes (Q42.D N) Q42.lc)
noncomputable def Q42.k0 : List Item := stackAt [.r, .r, .r, .l, .r, .b] (bodyOf Try.f42) []
def Q42.st0 (r_ : TRules) (t14_ t15_ : Int) (m3_ : (List TPiece)) : St := ⟨[oA, .one (.ptr 0 0), .one (.ptr 1 0), .one (.ptr 2 0)] ++ rA 9 ++ [.one (.fro 80 qb r_.2.2.2.1), oi t14_, oi t15_] ++ rA 23, [vR r_, .var 26 [.str (⟨#[]⟩ : ByteArray), .int .i64 0, .int .i64 0, .nilS, .nilS, .bool false, .bool false, .nilS, .int .i64 0, .int .i64 0, .int .i64 0], .var 26 [.str r_.1, .int .i64 r_.2.1, .int .i64 r_.2.2.1, .own 3, .fro 3 tI r_.2.2.2.2.1, .bool r_.2.2.2.2.2.1, .bool r_.2.2.2.2.2.2.1, .fro 82 qe r_.2.2.2.2.2.2.2.1, .int .i64 r_.2.2.2.2.2.2.2.2.1, .int .i64 r_.2.2.2.2.2.2.2.2.2.1, .int .i64 r_.2.2.2.2.2.2.2.2.2.2], .row 80 qb m3_]⟩
theorem Q42.step0 (rec : RK TRules) (r_ : TRules) (t14_ t15_ : Int) (m3_ : (List TPiece)) : seg tb (Q42.G N) Q42.A 0 rec (Q42.fin N) segFuel (loopBody Q42.k0) (Q42.st0 r_ t14_ t15_ m3_) = Q42.s0 N r_ (fun t14_ t15_ m3_ => rec Q42.k0 (Q42.st0 r_ t14_ t15_ m3_)) t14_ t15_ m3_ := by kernel_rfl
theorem Q42.entry (rec : RK TRules) (x : (argH Q42.as).den) : seg tb (Q42.G N) Q42.A 0 rec (Q42.fin N) segFuel [.code (bodyOf Try.f42)] (initSt Try.f42 (encArgs Q42.as x) (encMem Q42.as x)) = Q42.e N (fun t14_ t15_ m3_ => rec Q42.k0 (Q42.st0 x.1 t14_ t15_ m3_)) x.1 := by kernel_rfl
theorem Q42.runs (N : Nat) (r_ : TRules) : ∀ n, (∀ (t14_ t15_ : Int) (m3_ : (List TPiece)), run tb (Q42.G N) Q42.A 0 (Q42.fin N) n Q42.k0 (Q42.st0 r_ t14_ t15_ m3_) = Q42.l0 N r_ n t14_ t15_ m3_)
 | 0 => fun _ _ _ => rfl
 | n + 1 => by
  have h0 := Q42.runs N r_ n
  have e0 : (fun (t14_ t15_ : Int) (m3_ : (List TPiece)) => run tb (Q42.G N) Q42.A 0 (Q42.fin N) n Q42.k0 (Q42.st0 r_ t14_ t15_ m3_)) = Q42.l0 N r_ n := by funext t14_ t15_ m3_; exact h0 t14_ t15_ m3_
  have g0 : (∀ (t14_ t15_ : Int) (m3_ : (List TPiece)), run tb (Q42.G N) Q42.A 0 (Q42.fin N) (n + 1) Q42.k0 (Q42.st0 r_ t14_ t15_ m3_) = Q42.l0 N r_ (n + 1) t14_ t15_ m3_) := by
   intro t14_ t15_ m3_
   exact (run_succ (by kernel_rfl)).trans ((Q42.step0 N _ r_ t14_ t15_ m3_).trans ((congrArg (fun r0 => Q42.s0 N r_ r0 t14_ t15_ m3_) e0).trans (Q42.l0_s N r_ n t14_ t15_ m3_).symm))
  exact g0
theorem Q42.ok : FnOk Try.prog 42 (Q42.D N) := by
 refine fo ⟨Try.f42, Try.func42, by kernel_rfl, by kernel_rfl, fun x y h => ⟨Q42.G N, Q42.A, N, gamOf_ok (fun p hp => nomatch hp), ?_⟩⟩ (Q42.fit N)
 rw [absFn_n (n0 := 0) rfl (by kernel_rfl)]
 refine (Q42.entry N (run tb (Q42.G N) Q42.A 0 (Q42.fin N) N) x).trans ?_
 have e0 : (fun (t14_ t15_ : Int) (m3_ : (List TPiece)) => run tb (Q42.G N) Q42.A 0 (Q42.fin N) N Q42.k0 (Q42.st0 x.1 t14_ t15_ m3_)) = Q42.l0 N x.1 N := by funext t14_ t15_ m3_; exact (Q42.runs N x.1 N) t14_ t15_ m3_
 have h' : (Q42.D N).f x = Q42.e N (Q42.l0 N x.1 N) x.1 := by kernel_rfl
 exact (congrArg (fun r0 => Q42.e N r0 x.1) e0).trans (h'.symm.trans h)
def Q67.as : List MK := [.d false (.slice 3 tI)]
def Q67.rs : List (Bool × HT) := [(false, (.own 3 tI))]
def Q67.lc : List AC := []
def Q67.D : DFn := ⟨Q67.as, Q67.rs, LInt, fun x => Q67 N x.1, fun r o => r.1, fun b => (b, ()), fun b => (), none⟩
theorem Q67.fit : (Q67.D N).Fit := ⟨fun _ _ => rfl, fun _ _ => rfl, by kernel_rfl, (fun _ _ h => nomatch h), by kernel_rfl⟩
noncomputable def Q67.G (N : Nat) : Gam := gamOf []
def Q67.A : LA := fun _ => none
noncomputable def Q67.fin : St → Option LInt := resK tb Try.f67.results.toList (decRes (Q67.D N) Q67.lc)
theorem Q67.entry0 (rec : RK LInt) : seg tb (Q67.G N) Q67.A 0 rec (Q67.fin N) segFuel [.code (bodyOf Try.f67)] (initSt Try.f67 [.one .nilS] []) = some [] := by kernel_rfl
theorem Q67.entry (rec : RK LInt) (x : LInt) : seg tb (Q67.G N) Q67.A 0 rec (Q67.fin N) segFuel [.code (bodyOf Try.f67)] (initSt Try.f67 [.one (.frn 3 tI x)] []) = Q67.e N x := by kernel_rfl
theorem Q67.ok : FnOk Try.prog 67 (Q67.D N) := by
 refine FnOk_ofN (e := 3) (t := tI) (h := rfl) tb_ok (Checked.mixed Try.checked) ⟨Try.f67, Try.func67, by kernel_rfl, by kernel_rfl, fun x y h => ⟨Q67.G N, Q67.A, N, gamOf_ok (fun p hp => nomatch hp), fun hx => ?_, ?_⟩⟩ (Q67.fit N)
 ·subst hx; rw [absFn_n (n0 := 0) rfl (by kernel_rfl)]; exact (Q67.entry0 N _).trans h
 ·rw [absFn_n (n0 := 0) rfl (by kernel_rfl)]; exact (Q67.entry N _ x).trans h
def Q43.as : List MK := [.d true qd]
def Q43.rs : List (Bool × HT) := [(true, (.prod (.own 3 tI) (.prod (.prod (.own 3 tI) (.own 3 tI)) (.d (.prod tI tI)))))]
def Q43.lc : List AC := []
def Q43.D : DFn := ⟨Q43.as, Q43.rs, TPos, fun x => Q43 N x.1, fun r o => r.1, fun b => (b, ()), fun b => (), none⟩
theorem Q43.fit : (Q43.D N).Fit := ⟨fun _ _ => rfl, fun _ _ => rfl, by kernel_rfl, (fun _ _ h => nomatch h), by kernel_rfl⟩
noncomputable def Q43.G : Gam := gamOf [(67, Q67.D N)]
def Q43.A : LA := fun k => bif Nat.beq k 0 then some ⟨[], [], [], [], [], 0, true⟩ else none
noncomputable def Q43.fin : St → Option TPos := resK tb Try.f43.results.toList (decRes (Q43.D N) Q43.lc)
theorem Q43.entry (rec : RK TPos) (x : (argH Q43.as).den) : seg tb (Q43.G N) Q43.A 0 rec (Q43.fin N) segFuel [.code (bodyOf Try.f43)] (initSt Try.f43 (encArgs Q43.as x) (encMem Q43.as x)) = Q43.e N x.1 := by kernel_rfl
theorem Q43.ok : FnOk Try.prog 43 (Q43.D N) := by
 refine fo ⟨Try.f43, Try.func43, by kernel_rfl, by kernel_rfl, fun x y h => ⟨Q43.G N, Q43.A, N, gamOf_ok (gc ⟨Q67.ok N, Q67.fit N⟩ gn), ?_⟩⟩ (Q43.fit N)
 rw [absFn_n (n0 := 0) rfl (by kernel_rfl)]
 exact (Q43.entry N _ x).trans h
def Q87.as : List MK := [.d false tI]
def Q87.rs : List (Bool × HT) := [(false, (.d (.int .u64)))]
def Q87.lc : List AC := []
def Q87.D : DFn := ⟨Q87.as, Q87.rs, Int, fun x => Q87 N x.1, fun r o => r.1, fun b => (b, ()), fun b => (), none⟩
theorem Q87.fit : (Q87.D N).Fit := ⟨fun _ _ => rfl, fun _ _ => rfl, by kernel_rfl, (fun _ _ h => nomatch h), by kernel_rfl⟩
noncomputable def Q87.G (N : Nat) : Gam := gamOf []
def Q87.A : LA := fun _ => none
noncomputable def Q87.fin : St → Option Int := resK tb Try.f87.results.toList (decRes (Q87.D N) Q87.lc)
theorem Q87.entry (rec : RK Int) (x : (argH Q87.as).den) : seg tb (Q87.G N) Q87.A 0 rec (Q87.fin N) segFuel [.code (bodyOf Try.f87)] (initSt Try.f87 (encArgs Q87.as x) (encMem Q87.as x)) = Q87.e N x.1 := by kernel_rfl
theorem Q87.ok : FnOk Try.prog 87 (Q87.D N) := by
 refine fo ⟨Try.f87, Try.func87, by kernel_rfl, by kernel_rfl, fun x y h => ⟨Q87.G N, Q87.A, N, gamOf_ok (fun p hp => nomatch hp), ?_⟩⟩ (Q87.fit N)
 rw [absFn_n (n0 := 0) rfl (by kernel_rfl)]
 exact (Q87.entry N _ x).trans h
def Q68.as : List MK := [.d false tI]
def Q68.rs : List (Bool × HT) := [(false, (.d (.int .u64)))]
def Q68.lc : List AC := []
def Q68.D : DFn := ⟨Q68.as, Q68.rs, Int, fun x => Q68 N x.1, fun r o => r.1, fun b => (b, ()), fun b => (), none⟩
theorem Q68.fit : (Q68.D N).Fit := ⟨fun _ _ => rfl, fun _ _ => rfl, by kernel_rfl, (fun _ _ h => nomatch h), by kernel_rfl⟩
noncomputable def Q68.G : Gam := gamOf [(87, Q87.D N)]
def Q68.A : LA := fun _ => none
noncomputable def Q68.fin : St → Option Int := resK tb Try.f68.results.toList (decRes (Q68.D N) Q68.lc)
theorem Q68.entry (rec : RK Int) (x : (argH Q68.as).den) : seg tb (Q68.G N) Q68.A 0 rec (Q68.fin N) segFuel [.code (bodyOf Try.f68)] (initSt Try.f68 (encArgs Q68.as x) (encMem Q68.as x)) = Q68.e N x.1 := by kernel_rfl
theorem Q68.ok : FnOk Try.prog 68 (Q68.D N) := by
 refine fo ⟨Try.f68, Try.func68, by kernel_rfl, by kernel_rfl, fun x y h => ⟨Q68.G N, Q68.A, N, gamOf_ok (gc ⟨Q87.ok N, Q87.fit N⟩ gn), ?_⟩⟩ (Q68.fit N)
 rw [absFn_n (n0 := 0) rfl (by kernel_rfl)]
 exact (Q68.entry N _ x).trans h
def Q69.as : List MK := [.d false tI, .d false tI]
def Q69.rs : List (Bool × HT) := [(false, (.d (.int .u64)))]
def Q69.lc : List AC := []
def Q69.D : DFn := ⟨Q69.as, Q69.rs, Int, fun x => Q69 N x.1 x.2.1, fun r o => r.1, fun b => (b, ()), fun b => (), none⟩
theorem Q69.fit : (Q69.D N).Fit := ⟨fun _ _ => rfl, fun _ _ => rfl, by kernel_rfl, (fun _ _ h => nomatch h), by kernel_rfl⟩
noncomputable def Q69.G : Gam := gamOf [(87, Q87.D N)]
def Q69.A : LA := fun _ => none
noncomputable def Q69.fin : St → Option Int := resK tb Try.f69.results.toList (decRes (Q69.D N) Q69.lc)
theorem Q69.entry (rec : RK Int) (x : (argH Q69.as).den) : seg tb (Q69.G N) Q69.A 0 rec (Q69.fin N) segFuel [.code (bodyOf Try.f69)] (initSt Try.f69 (encArgs Q69.as x) (encMem Q69.as x)) = Q69.e N x.1 x.2.1 := by kernel_rfl
theorem Q69.ok : FnOk Try.prog 69 (Q69.D N) := by
 refine fo ⟨Try.f69, Try.func69, by kernel_rfl, by kernel_rfl, fun x y h => ⟨Q69.G N, Q69.A, N, gamOf_ok (gc ⟨Q87.ok N, Q87.fit N⟩ gn), ?_⟩⟩ (Q69.fit N)
 rw [absFn_n (n0 := 0) rfl (by kernel_rfl)]
 exact (Q69.entry N _ x).trans h
def Q70.as : List MK := [.d false tI, .d false tI, .d false tI]
def Q70.rs : List (Bool × HT) := [(false, (.d (.int .u64)))]
def Q70.lc : List AC := []
def Q70.D : DFn := ⟨Q70.as, Q70.rs, Int, fun x => Q70 N x.1 x.2.1 x.2.2.1, fun r o => r.1, fun b => (b, ()), fun b => (), none⟩
theorem Q70.fit : (Q70.D N).Fit := ⟨fun _ _ => rfl, fun _ _ => rfl, by kernel_rfl, (fun _ _ h => nomatch h), by kernel_rfl⟩
noncomputable def Q70.G : Gam := gamOf [(87, Q87.D N)]
def Q70.A : LA := fun _ => none
noncomputable def Q70.fin : St → Option Int := resK tb Try.f70.results.toList (decRes (Q70.D N) Q70.lc)
theorem Q70.entry (rec : RK Int) (x : (argH Q70.as).den) : seg tb (Q70.G N) Q70.A 0 rec (Q70.fin N) segFuel [.code (bodyOf Try.f70)] (initSt Try.f70 (encArgs Q70.as x) (encMem Q70.as x)) = Q70.e N x.1 x.2.1 x.2.2.1 := by kernel_rfl
theorem Q70.ok : FnOk Try.prog 70 (Q70.D N) := by
 refine fo ⟨Try.f70, Try.func70, by kernel_rfl, by kernel_rfl, fun x y h => ⟨Q70.G N, Q70.A, N, gamOf_ok (gc ⟨Q87.ok N, Q87.fit N⟩ gn), ?_⟩⟩ (Q70.fit N)
 rw [absFn_n (n0 := 0) rfl (by kernel_rfl)]
 exact (Q70.entry N _ x).trans h
def Q44.as : List MK := [.d true qd]
def Q44.rs : List (Bool × HT) := [(false, (.d (.int .u64)))]
def Q44.lc : List AC := []
def Q44.D : DFn := ⟨Q44.as, Q44.rs, Int, fun x => Q44 N x.1, fun r o => r.1, fun b => (b, ()), fun b => (), none⟩
theorem Q44.fit : (Q44.D N).Fit := ⟨fun _ _ => rfl, fun _ _ => rfl, by kernel_rfl, (fun _ _ h => nomatch h), by kernel_rfl⟩
noncomputable def Q44.G : Gam := gamOf [(68, Q68.D N), (69, Q69.D N), (70, Q70.D N)]
def Q44.A : LA := fun k => bif Nat.beq k 0 then some ⟨[1, 3, 14, 15, 16], [], [], [], [], 1, false⟩ else bif Nat.beq k 2 then some ⟨[3, 28, 29], [], [], [], [], 0, false⟩ else bif Nat.beq k 4 then some ⟨[3, 6, 28, 29, 33, 34, 35], [], [], [], [], 0, false⟩ else none
noncomputable def Q44.fin : St → Option Int := resK tb Try.f44.results.toList (decRes (Q44.D N) Q44.lc)
noncomputable def Q44.k0 : List Item := stackAt [.r, .r, .l, .r, .b] (bodyOf Try.f44) []
def Q44.st0 (p_ : TPos) (k_ t16_ : Int) : St := ⟨[oA, .one (.ptr 0 0), oA, .one (.int .u64 k_)] ++ rA 10 ++ [.one (.fro 3 tI p_.1), oi (p_.1.length : Int), oi t16_] ++ rA 32, [vP p_]⟩
noncomputable def Q44.k1 : List Item := stackAt [.r, .r, .r, .l, .r, .b] (bodyOf Try.f44) []
def Q44.st1 (p_ : TPos) (k_ t29_ : Int) : St := ⟨rA 3 ++ [.one (.int .u64 k_)] ++ rA 24 ++ [.agg [.fro 3 tI p_.2.1.1, .fro 3 tI p_.2.1.2], oi t29_] ++ rA 19, []⟩
noncomputable def Q44.k2 : List Item := stackAt [.r, .r, .r, .l, .r, .b, .w, .r, .r, .l, .b, .r, .r, .b] (bodyOf Try.f44) []
def Q44.st2 (p_ : TPos) (k_ o_ t29_ : Int) (t33_ : LInt) (t34_ t35_ : Int) : St := ⟨rA 3 ++ [.one (.int .u64 k_), oA, oA, oi o_] ++ rA 21 ++ [.agg [.fro 3 tI p_.2.1.1, .fro 3 tI p_.2.1.2], oi t29_] ++ rA 3 ++ [.one (.fro 3 tI t33_), oi t34_, oi t35_] ++ rA 13, []⟩
theorem Q44.step0 (rec : RK Int) (p_ : TPos) (k_ t16_ : Int) : seg tb (Q44.G N) Q44.A 0 rec (Q44.fin N) segFuel (loopBody Q44.k0) (Q44.st0 p_ k_ t16_) = Q44.s0 N p_ (fun k_ t16_ => rec Q44.k0 (Q44.st0 p_ k_ t16_)) (fun k_ t29_ => rec Q44.k1 (Q44.st1 p_ k_ t29_)) (fun k_ o_ t29_ t33_ t34_ t35_ => rec Q44.k2 (Q44.st2 p_ k_ o_ t29_ t33_ t34_ t35_)) k_ t16_ := by kernel_rfl
theorem Q44.step1 (rec : RK Int) (p_ : TPos) (k_ t29_ : Int) : seg tb (Q44.G N) Q44.A 0 rec (Q44.fin N) segFuel (loopBody Q44.k1) (Q44.st1 p_ k_ t29_) = Q44.s1 N p_ (fun k_ t16_ => rec Q44.k0 (Q44.st0 p_ k_ t16_)) (fun k_ t29_ => rec Q44.k1 (Q44.st1 p_ k_ t29_)) (fun k_ o_ t29_ t33_ t34_ t35_ => rec Q44.k2 (Q44.st2 p_ k_ o_ t29_ t33_ t34_ t35_)) k_ t29_ := by kernel_rfl
theorem Q44.step2 (rec : RK Int) (p_ : TPos) (k_ o_ t29_ : Int) (t33_ : LInt) (t34_ t35_ : Int) : seg tb (Q44.G N) Q44.A 0 rec (Q44.fin N) segFuel (loopBody Q44.k2) (Q44.st2 p_ k_ o_ t29_ t33_ t34_ t35_) = Q44.s2 N p_ (fun k_ t16_ => rec Q44.k0 (Q44.st0 p_ k_ t16_)) (fun k_ t29_ => rec Q44.k1 (Q44.st1 p_ k_ t29_)) (fun k_ o_ t29_ t33_ t34_ t35_ => rec Q44.k2 (Q44.st2 p_ k_ o_ t29_ t33_ t34_ t35_)) k_ o_ t29_ t33_ t34_ t35_ := by kernel_rfl
theorem Q44.entry (rec : RK Int) (x : (argH Q44.as).den) : seg tb (Q44.G N) Q44.A 0 rec (Q44.fin N) segFuel [.code (bodyOf Try.f44)] (initSt Try.f44 (encArgs Q44.as x) (encMem Q44.as x)) = Q44.e N (fun k_ t16_ => rec Q44.k0 (Q44.st0 x.1 k_ t16_)) (fun k_ t29_ => rec Q44.k1 (Q44.st1 x.1 k_ t29_)) (fun k_ o_ t29_ t33_ t34_ t35_ => rec Q44.k2 (Q44.st2 x.1 k_ o_ t29_ t33_ t34_ t35_)) x.1 := by kernel_rfl
theorem Q44.runs (N : Nat) (p_ : TPos) : ∀ n, (∀ (k_ t16_ : Int), run tb (Q44.G N) Q44.A 0 (Q44.fin N) n Q44.k0 (Q44.st0 p_ k_ t16_) = Q44.l0 N p_ n k_ t16_) ∧ (∀ (k_ t29_ : Int), run tb (Q44.G N) Q44.A 0 (Q44.fin N) n Q44.k1 (Q44.st1 p_ k_ t29_) = Q44.l1 N p_ n k_ t29_) ∧ (∀ (k_ o_ t29_ : Int) (t33_ : LInt) (t34_ t35_ : Int), run tb (Q44.G N) Q44.A 0 (Q44.fin N) n Q44.k2 (Q44.st2 p_ k_ o_ t29_ t33_ t34_ t35_) = Q44.l2 N p_ n k_ o_ t29_ t33_ t34_ t35_)
 | 0 => ⟨fun _ _ => rfl, fun _ _ => rfl, fun _ _ _ _ _ _ => rfl⟩
 | n + 1 => by
  obtain ⟨h0, h1, h2⟩ := Q44.runs N p_ n
  have e0 : (fun (k_ t16_ : Int) => run tb (Q44.G N) Q44.A 0 (Q44.fin N) n Q44.k0 (Q44.st0 p_ k_ t16_)) = Q44.l0 N p_ n := by funext k_ t16_; exact h0 k_ t16_
  have e1 : (fun (k_ t29_ : Int) => run tb (Q44.G N) Q44.A 0 (Q44.fin N) n Q44.k1 (Q44.st1 p_ k_ t29_)) = Q44.l1 N p_ n := by funext k_ t29_; exact h1 k_ t29_
  have e2 : (fun (k_ o_ t29_ : Int) (t33_ : LInt) (t34_ t35_ : Int) => run tb (Q44.G N) Q44.A 0 (Q44.fin N) n Q44.k2 (Q44.st2 p_ k_ o_ t29_ t33_ t34_ t35_)) = Q44.l2 N p_ n := by funext k_ o_ t29_ t33_ t34_ t35_; exact h2 k_ o_ t29_ t33_ t34_ t35_
  have g0 : (∀ (k_ t16_ : Int), run tb (Q44.G N) Q44.A 0 (Q44.fin N) (n + 1) Q44.k0 (Q44.st0 p_ k_ t16_) = Q44.l0 N p_ (n + 1) k_ t16_) := by
   intro k_ t16_
   exact (run_succ (by kernel_rfl)).trans ((Q44.step0 N _ p_ k_ t16_).trans ((congr (congr (congrArg (fun r0 r1 r2 => Q44.s0 N p_ r0 r1 r2 k_ t16_) e0) e1) e2).trans (Q44.l0_s N p_ n k_ t16_).symm))
  have g1 : (∀ (k_ t29_ : Int), run tb (Q44.G N) Q44.A 0 (Q44.fin N) (n + 1) Q44.k1 (Q44.st1 p_ k_ t29_) = Q44.l1 N p_ (n + 1) k_ t29_) := by
   intro k_ t29_
   exact (run_succ (by kernel_rfl)).trans ((Q44.step1 N _ p_ k_ t29_).trans ((congr (congr (congrArg (fun r0 r1 r2 => Q44.s1 N p_ r0 r1 r2 k_ t29_) e0) e1) e2).trans (Q44.l1_s N p_ n k_ t29_).symm))
  have g2 : (∀ (k_ o_ t29_ : Int) (t33_ : LInt) (t34_ t35_ : Int), run tb (Q44.G N) Q44.A 0 (Q44.fin N) (n + 1) Q44.k2 (Q44.st2 p_ k_ o_ t29_ t33_ t34_ t35_) = Q44.l2 N p_ (n + 1) k_ o_ t29_ t33_ t34_ t35_) := by
   intro k_ o_ t29_ t33_ t34_ t35_
   exact (run_succ (by kernel_rfl)).trans ((Q44.step2 N _ p_ k_ o_ t29_ t33_ t34_ t35_).trans ((congr (congr (congrArg (fun r0 r1 r2 => Q44.s2 N p_ r0 r1 r2 k_ o_ t29_ t33_ t34_ t35_) e0) e1) e2).trans (Q44.l2_s N p_ n k_ o_ t29_ t33_ t34_ t35_).symm))
  exact ⟨g0, g1, g2⟩
theorem Q44.ok : FnOk Try.prog 44 (Q44.D N) := by
 refine fo ⟨Try.f44, Try.func44, by kernel_rfl, by kernel_rfl, fun x y h => ⟨Q44.G N, Q44.A, N, gamOf_ok (gc ⟨Q68.ok N, Q68.fit N⟩ (gc ⟨Q69.ok N, Q69.fit N⟩ (gc ⟨Q70.ok N, Q70.fit N⟩ gn))), ?_⟩⟩ (Q44.fit N)
 rw [absFn_n (n0 := 0) rfl (by kernel_rfl)]
 refine (Q44.entry N (run tb (Q44.G N) Q44.A 0 (Q44.fin N) N) x).trans ?_
 have e0 : (fun (k_ t16_ : Int) => run tb (Q44.G N) Q44.A 0 (Q44.fin N) N Q44.k0 (Q44.st0 x.1 k_ t16_)) = Q44.l0 N x.1 N := by funext k_ t16_; exact (Q44.runs N x.1 N).1 k_ t16_
 have e1 : (fun (k_ t29_ : Int) => run tb (Q44.G N) Q44.A 0 (Q44.fin N) N Q44.k1 (Q44.st1 x.1 k_ t29_)) = Q44.l1 N x.1 N := by funext k_ t29_; exact (Q44.runs N x.1 N).2.1 k_ t29_
 have e2 : (fun (k_ o_ t29_ : Int) (t33_ : LInt) (t34_ t35_ : Int) => run tb (Q44.G N) Q44.A 0 (Q44.fin N) N Q44.k2 (Q44.st2 x.1 k_ o_ t29_ t33_ t34_ t35_)) = Q44.l2 N x.1 N := by funext k_ o_ t29_ t33_ t34_ t35_; exact (Q44.runs N x.1 N).2.2 k_ o_ t29_ t33_ t34_ t35_
 have h' : (Q44.D N).f x = Q44.e N (Q44.l0 N x.1 N) (Q44.l1 N x.1 N) (Q44.l2 N x.1 N) x.1 := by kernel_rfl
 exact (congr (congr (congrArg (fun r0 r1 r2 => Q44.e N r0 r1 r2 x.1) e0) e1) e2).trans (h'.symm.trans h)
def Q20.as : List MK := [.d true qa, .d true qd]
def Q20.rs : List (Bool × HT) := [(false, (.opt 119 (.prod (.prod (.d .str) (.prod (.d tI) (.prod (.d tI) (.prod (.own 80 qb) (.prod (.own 3 tI) (.prod (.d .bool) (.prod (.d .bool) (.prod (.own 82 qe) (.d qc))))))))) (.prod (.prod (.own 3 tI) (.prod (.prod (.own 3 tI) (.own 3 tI)) (.d (.prod tI tI)))) (.prod (.d (.int .u64)) (.own 149 qf)))))), (false, (.d tI))]
def Q20.lc : List AC := []
def Q20.D : DFn := ⟨Q20.as, Q20.rs, ((Option TBoard) × Int), fun x => Q20 N x.1 x.2.1, fun r o => (r.1, r.2.1), fun b => (b.1, (b.2, ())), fun b => (), none⟩
theorem Q20.fit : (Q20.D N).Fit := ⟨fun _ _ => rfl, fun _ _ => rfl, by kernel_rfl, (fun _ _ h => nomatch h), by kernel_rfl⟩
noncomputable def Q20.G : Gam := gamOf [(36, Q36.D N), (42, Q42.D N), (43, Q43.D N), (44, Q44.D N)]
def Q20.A : LA := fun _ => none
noncomputable def Q20.fin : St → Option ((Option TBoard) × Int) := resK tb Try.f20.results.toList (decRes (Q20.D N) Q20.lc)
theorem Q20.entry (rec : RK ((Option TBoard) × Int)) (x : (argH Q20.as).den) : seg tb (Q20.G N) Q20.A 0 rec (Q20.fin N) segFuel [.code (bodyOf Try.f20)] (initSt Try.f20 (encArgs Q20.as x) (encMem Q20.as x)) = Q20.e N x.1 x.2.1 := by kernel_rfl
theorem Q20.ok : FnOk Try.prog 20 (Q20.D N) := by
 refine fo ⟨Try.f20, Try.func20, by kernel_rfl, by kernel_rfl, fun x y h => ⟨Q20.G N, Q20.A, N, gamOf_ok (gc ⟨Q36.ok N, Q36.fit N⟩ (gc ⟨Q42.ok N, Q42.fit N⟩ (gc ⟨Q43.ok N, Q43.fit N⟩ (gc ⟨Q44.ok N, Q44.fit N⟩ gn)))), ?_⟩⟩ (Q20.fit N)
 rw [absFn_n (n0 := 0) rfl (by kernel_rfl)]
 exact (Q20.entry N _ x).trans h
def Q21.as : List MK := [.d false tI]
def Q21.rs : List (Bool × HT) := [(false, (.opt 121 (.d tI))), (false, (.d tI))]
def Q21.lc : List AC := []
def Q21.D : DFn := ⟨Q21.as, Q21.rs, ((Option Int) × Int), fun x => Q21 N x.1, fun r o => (r.1, r.2.1), fun b => (b.1, (b.2, ())), fun b => (), none⟩
theorem Q21.fit : (Q21.D N).Fit := ⟨fun _ _ => rfl, fun _ _ => rfl, by kernel_rfl, (fun _ _ h => nomatch h), by kernel_rfl⟩
noncomputable def Q21.G (N : Nat) : Gam := gamOf []
def Q21.A : LA := fun _ => none
noncomputable def Q21.fin : St → Option ((Option Int) × Int) := resK tb Try.f21.results.toList (decRes (Q21.D N) Q21.lc)
theorem Q21.entry (rec : RK ((Option Int) × Int)) (x : (argH Q21.as).den) : seg tb (Q21.G N) Q21.A 0 rec (Q21.fin N) segFuel [.code (bodyOf Try.f21)] (initSt Try.f21 (encArgs Q21.as x) (encMem Q21.as x)) = Q21.e N x.1 := by kernel_rfl
theorem Q21.ok : FnOk Try.prog 21 (Q21.D N) := by
 refine fo ⟨Try.f21, Try.func21, by kernel_rfl, by kernel_rfl, fun x y h => ⟨Q21.G N, Q21.A, N, gamOf_ok (fun p hp => nomatch hp), ?_⟩⟩ (Q21.fit N)
 rw [absFn_n (n0 := 0) rfl (by kernel_rfl)]
 exact (Q21.entry N _ x).trans h
def Q75.as : List MK := [.d false tI]
def Q75.rs : List (Bool × HT) := [(false, (.d tI))]
def Q75.lc : List AC := []
def Q75.D : DFn := ⟨Q75.as, Q75.rs, Int, fun x => Q75 N x.1, fun r o => r.1, fun b => (b, ()), fun b => (), none⟩
theorem Q75.fit : (Q75.D N).Fit := ⟨fun _ _ => rfl, fun _ _ => rfl, by kernel_rfl, (fun _ _ h => nomatch h), by kernel_rfl⟩
noncomputable def Q75.G (N : Nat) : Gam := gamOf []
def Q75.A : LA := fun _ => none
noncomputable def Q75.fin : St → Option Int := resK tb Try.f75.results.toList (decRes (Q75.D N) Q75.lc)
theorem Q75.entry (rec : RK Int) (x : (argH Q75.as).den) : seg tb (Q75.G N) Q75.A 0 rec (Q75.fin N) segFuel [.code (bodyOf Try.f75)] (initSt Try.f75 (encArgs Q75.as x) (encMem Q75.as x)) = Q75.e N x.1 := by kernel_rfl
theorem Q75.ok : FnOk Try.prog 75 (Q75.D N) := by
 refine fo ⟨Try.f75, Try.func75, by kernel_rfl, by kernel_rfl, fun x y h => ⟨Q75.G N, Q75.A, N, gamOf_ok (fun p hp => nomatch hp), ?_⟩⟩ (Q75.fit N)
 rw [absFn_n (n0 := 0) rfl (by kernel_rfl)]
 exact (Q75.entry N _ x).trans h
def Q81.as : List MK := [.d true qa, .d true qd, .d false tI, .d false tI]
def Q81.rs : List (Bool × HT) := [(false, (.d .bool))]
def Q81.lc : List AC := []
def Q81.D : DFn := ⟨Q81.as, Q81.rs, Bool, fun x => Q81 N x.1 x.2.1 x.2.2.1 x.2.2.2.1, fun r o => r.1, fun b => (b, ()), fun b => (), none⟩
theorem Q81.fit : (Q81.D N).Fit := ⟨fun _ _ => rfl, fun _ _ => rfl, by kernel_rfl, (fun _ _ h => nomatch h), by kernel_rfl⟩
noncomputable def Q81.G : Gam := gamOf [(75, Q75.D N)]
def Q81.A : LA := fun k => bif Nat.beq k 0 then some ⟨[2, 3, 4, 5, 17, 18], [], [], [], [], 2, false⟩ else bif Nat.beq k 2 then some ⟨[2, 3, 4, 5, 9, 17, 18, 25, 26], [], [], [], [], 2, false⟩ else bif Nat.beq k 4 then some ⟨[2, 3, 4, 5, 9, 11, 12, 13, 14, 17, 18, 25, 26], [], [], [], [], 3, false⟩ else none
noncomputable def Q81.fin : St → Option Bool := resK tb Try.f81.results.toList (decRes (Q81.D N) Q81.lc)
noncomputable def Q81.k0 : List Item := stackAt [.r, .l, .r, .b] (bodyOf Try.f81) []
def Q81.st0 (r_ : TRules) (p_ : TPos) (player count t18_ : Int) : St := ⟨[oA, oA, oi player, oi count, .one (.ptr 0 0), .one (.ptr 1 0)] ++ rA 11 ++ [oi (p_.1.length : Int), oi t18_] ++ rA 71, [vR r_, vP p_]⟩
noncomputable def Q81.k1 : List Item := stackAt [.r, .l, .r, .b, .w, .r, .r, .l, .b, .r, .r, .b] (bodyOf Try.f81) []
def Q81.st1 (r_ : TRules) (p_ : TPos) (player count s_ t18_ t26_ : Int) : St := ⟨[oA, oA, oi player, oi count, .one (.ptr 0 0), .one (.ptr 1 0)] ++ rA 3 ++ [oi s_] ++ rA 7 ++ [oi (p_.1.length : Int), oi t18_] ++ rA 6 ++ [.agg [.int .i64 1, .int .i64 0, .int .i64 0, .int .i64 1, .int .i64 1, .int .i64 1, .int .i64 1, .int .i64 (-1)], oi t26_] ++ rA 63, [vR r_, vP p_]⟩
noncomputable def Q81.k2 : List Item := stackAt [.r, .l, .r, .b, .w, .r, .r, .l, .b, .r, .r, .b, .w, .r, .r, .l, .b, .r, .r, .l, .b] (bodyOf Try.f81) []
def Q81.st2 (r_ : TRules) (p_ : TPos) (player count s_ x_ y_ n_ t18_ t26_ d_ d_2 : Int) : St := ⟨[oA, oA, oi player, oi count, .one (.ptr 0 0), .one (.ptr 1 0)] ++ rA 3 ++ [oi s_, oA, .one (.ptr 2 0), oi x_, oi y_, oi n_, oA, oA, oi (p_.1.length : Int), oi t18_] ++ rA 6 ++ [.agg [.int .i64 1, .int .i64 0, .int .i64 0, .int .i64 1, .int .i64 1, .int .i64 1, .int .i64 1, .int .i64 (-1)], oi t26_] ++ rA 63, [vR r_, vP p_, .var 169 [.int .i64 d_, .int .i64 d_2]]⟩
theorem Q81.step0 (rec : RK Bool) (r_ : TRules) (p_ : TPos) (player count t18_ : Int) : seg tb (Q81.G N) Q81.A 0 rec (Q81.fin N) segFuel (loopBody Q81.k0) (Q81.st0 r_ p_ player count t18_) = Q81.s0 N r_ p_ player count (fun t18_ => rec Q81.k0 (Q81.st0 r_ p_ player count t18_)) (fun s_ t18_ t26_ => rec Q81.k1 (Q81.st1 r_ p_ player count s_ t18_ t26_)) (fun s_ x_ y_ n_ t18_ t26_ d_ d_2 => rec Q81.k2 (Q81.st2 r_ p_ player count s_ x_ y_ n_ t18_ t26_ d_ d_2)) t18_ := by kernel_rfl
theorem Q81.step1 (rec : RK Bool) (r_ : TRules) (p_ : TPos) (player count s_ t18_ t26_ : Int) : seg tb (Q81.G N) Q81.A 0 rec (Q81.fin N) segFuel (loopBody Q81.k1) (Q81.st1 r_ p_ player count s_ t18_ t26_) = Q81.s1 N r_ p_ player count (fun t18_ => rec Q81.k0 (Q81.st0 r_ p_ player count t18_)) (fun s_ t18_ t26_ => rec Q81.k1 (Q81.st1 r_ p_ player count s_ t18_ t26_)) (fun s_ x_ y_ n_ t18_ t26_ d_ d_2 => rec Q81.k2 (Q81.st2 r_ p_ player count s_ x_ y_ n_ t18_ t26_ d_ d_2)) s_ t18_ t26_ := by kernel_rfl
theorem Q81.step2 (rec : RK Bool) (r_ : TRules) (p_ : TPos) (player count s_ x_ y_ n_ t18_ t26_ d_ d_2 : Int) : seg tb (Q81.G N) Q81.A 0 rec (Q81.fin N) segFuel (loopBody Q81.k2) (Q81.st2 r_ p_ player count s_ x_ y_ n_ t18_ t26_ d_ d_2) = Q81.s2 N r_ p_ player count (fun t18_ => rec Q81.k0 (Q81.st0 r_ p_ player count t18_)) (fun s_ t18_ t26_ => rec Q81.k1 (Q81.st1 r_ p_ player count s_ t18_ t26_)) (fun s_ x_ y_ n_ t18_ t26_ d_ d_2 => rec Q81.k2 (Q81.st2 r_ p_ player count s_ x_ y_ n_ t18_ t26_ d_ d_2)) s_ x_ y_ n_ t18_ t26_ d_ d_2 := by kernel_rfl
theorem Q81.entry (rec : RK Bool) (x : (argH Q81.as).den) : seg tb (Q81.G N) Q81.A 0 rec (Q81.fin N) segFuel [.code (bodyOf Try.f81)] (initSt Try.f81 (encArgs Q81.as x) (encMem Q81.as x)) = Q81.e N (fun t18_ => rec Q81.k0 (Q81.st0 x.1 x.2.1 x.2.2.1 x.2.2.2.1 t18_)) (fun s_ t18_ t26_ => rec Q81.k1 (Q81.st1 x.1 x.2.1 x.2.2.1 x.2.2.2.1 s_ t18_ t26_)) (fun s_ x_ y_ n_ t18_ t26_ d_ d_2 => rec Q81.k2 (Q81.st2 x.1 x.2.1 x.2.2.1 x.2.2.2.1 s_ x_ y_ n_ t18_ t26_ d_ d_2)) x.1 x.2.1 x.2.2.1 x.2.2.2.1 := by kernel_rfl
theorem Q81.runs (N : Nat) (r_ : TRules) (p_ : TPos) (player count : Int) : ∀ n, (∀ (t18_ : Int), run tb (Q81.G N) Q81.A 0 (Q81.fin N) n Q81.k0 (Q81.st0 r_ p_ player count t18_) = Q81.l0 N r_ p_ player count n t18_) ∧ (∀ (s_ t18_ t26_ : Int), run tb (Q81.G N) Q81.A 0 (Q81.fin N) n Q81.k1 (Q81.st1 r_ p_ player count s_ t18_ t26_) = Q81.l1 N r_ p_ player count n s_ t18_ t26_) ∧ (∀ (s_ x_ y_ n_ t18_ t26_ d_ d_2 : Int), run tb (Q81.G N) Q81.A 0 (Q81.fin N) n Q81.k2 (Q81.st2 r_ p_ player count s_ x_ y_ n_ t18_ t26_ d_ d_2) = Q81.l2 N r_ p_ player count n s_ x_ y_ n_ t18_ t26_ d_ d_2)
 | 0 => ⟨fun _ => rfl, fun _ _ _ => rfl, fun _ _ _ _ _ _ _ _ => rfl⟩
 | n + 1 => by
  obtain ⟨h0, h1, h2⟩ := Q81.runs N r_ p_ player count n
  have e0 : (fun (t18_ : Int) => run tb (Q81.G N) Q81.A 0 (Q81.fin N) n Q81.k0 (Q81.st0 r_ p_ player count t18_)) = Q81.l0 N r_ p_ player count n := by funext t18_; exact h0 t18_
  have e1 : (fun (s_ t18_ t26_ : Int) => run tb (Q81.G N) Q81.A 0 (Q81.fin N) n Q81.k1 (Q81.st1 r_ p_ player count s_ t18_ t26_)) = Q81.l1 N r_ p_ player count n := by funext s_ t18_ t26_; exact h1 s_ t18_ t26_
  have e2 : (fun (s_ x_ y_ n_ t18_ t26_ d_ d_2 : Int) => run tb (Q81.G N) Q81.A 0 (Q81.fin N) n Q81.k2 (Q81.st2 r_ p_ player count s_ x_ y_ n_ t18_ t26_ d_ d_2)) = Q81.l2 N r_ p_ player count n := by funext s_ x_ y_ n_ t18_ t26_ d_ d_2; exact h2 s_ x_ y_ n_ t18_ t26_ d_ d_2
  have g0 : (∀ (t18_ : Int), run tb (Q81.G N) Q81.A 0 (Q81.fin N) (n + 1) Q81.k0 (Q81.st0 r_ p_ player count t18_) = Q81.l0 N r_ p_ player count (n + 1) t18_) := by
   intro t18_
   exact (run_succ (by kernel_rfl)).trans ((Q81.step0 N _ r_ p_ player count t18_).trans ((congr (congr (congrArg (fun r0 r1 r2 => Q81.s0 N r_ p_ player count r0 r1 r2 t18_) e0) e1) e2).trans (Q81.l0_s N r_ p_ player count n t18_).symm))
  have g1 : (∀ (s_ t18_ t26_ : Int), run tb (Q81.G N) Q81.A 0 (Q81.fin N) (n + 1) Q81.k1 (Q81.st1 r_ p_ player count s_ t18_ t26_) = Q81.l1 N r_ p_ player count (n + 1) s_ t18_ t26_) := by
   intro s_ t18_ t26_
   exact (run_succ (by kernel_rfl)).trans ((Q81.step1 N _ r_ p_ player count s_ t18_ t26_).trans ((congr (congr (congrArg (fun r0 r1 r2 => Q81.s1 N r_ p_ player count r0 r1 r2 s_ t18_ t26_) e0) e1) e2).trans (Q81.l1_s N r_ p_ player count n s_ t18_ t26_).symm))
  have g2 : (∀ (s_ x_ y_ n_ t18_ t26_ d_ d_2 : Int), run tb (Q81.G N) Q81.A 0 (Q81.fin N) (n + 1) Q81.k2 (Q81.st2 r_ p_ player count s_ x_ y_ n_ t18_ t26_ d_ d_2) = Q81.l2 N r_ p_ player count (n + 1) s_ x_ y_ n_ t18_ t26_ d_ d_2) := by
   intro s_ x_ y_ n_ t18_ t26_ d_ d_2
   exact (run_succ (by kernel_rfl)).trans ((Q81.step2 N _ r_ p_ player count s_ x_ y_ n_ t18_ t26_ d_ d_2).trans ((congr (congr (congrArg (fun r0 r1 r2 => Q81.s2 N r_ p_ player count r0 r1 r2 s_ x_ y_ n_ t18_ t26_ d_ d_2) e0) e1) e2).trans (Q81.l2_s N r_ p_ player count n s_ x_ y_ n_ t18_ t26_ d_ d_2).symm))
  exact ⟨g0, g1, g2⟩
theorem Q81.ok : FnOk Try.prog 81 (Q81.D N) := by
 refine fo ⟨Try.f81, Try.func81, by kernel_rfl, by kernel_rfl, fun x y h => ⟨Q81.G N, Q81.A, N, gamOf_ok (gc ⟨Q75.ok N, Q75.fit N⟩ gn), ?_⟩⟩ (Q81.fit N)
 rw [absFn_n (n0 := 0) rfl (by kernel_rfl)]
 refine (Q81.entry N (run tb (Q81.G N) Q81.A 0 (Q81.fin N) N) x).trans ?_
 have e0 : (fun (t18_ : Int) => run tb (Q81.G N) Q81.A 0 (Q81.fin N) N Q81.k0 (Q81.st0 x.1 x.2.1 x.2.2.1 x.2.2.2.1 t18_)) = Q81.l0 N x.1 x.2.1 x.2.2.1 x.2.2.2.1 N := by funext t18_; exact (Q81.runs N x.1 x.2.1 x.2.2.1 x.2.2.2.1 N).1 t18_
 have e1 : (fun (s_ t18_ t26_ : Int) => run tb (Q81.G N) Q81.A 0 (Q81.fin N) N Q81.k1 (Q81.st1 x.1 x.2.1 x.2.2.1 x.2.2.2.1 s_ t18_ t26_)) = Q81.l1 N x.1 x.2.1 x.2.2.1 x.2.2.2.1 N := by funext s_ t18_ t26_; exact (Q81.runs N x.1 x.2.1 x.2.2.1 x.2.2.2.1 N).2.1 s_ t18_ t26_
 have e2 : (fun (s_ x_ y_ n_ t18_ t26_ d_ d_2 : Int) => run tb (Q81.G N) Q81.A 0 (Q81.fin N) N Q81.k2 (Q81.st2 x.1 x.2.1 x.2.2.1 x.2.2.2.1 s_ x_ y_ n_ t18_ t26_ d_ d_2)) = Q81.l2 N x.1 x.2.1 x.2.2.1 x.2.2.2.1 N := by funext s_ x_ y_ n_ t18_ t26_ d_ d_2; exact (Q81.runs N x.1 x.2.1 x.2.2.1 x.2.2.2.1 N).2.2 s_ x_ y_ n_ t18_ t26_ d_ d_2
 have h' : (Q81.D N).f x = Q81.e N (Q81.l0 N x.1 x.2.1 x.2.2.1 x.2.2.2.1 N) (Q81.l1 N x.1 x.2.1 x.2.2.1 x.2.2.2.1 N) (Q81.l2 N x.1 x.2.1 x.2.2.1 x.2.2.2.1 N) x.1 x.2.1 x.2.2.1 x.2.2.2.1 := by kernel_rfl
 exact (congr (congr (congrArg (fun r0 r1 r2 => Q81.e N r0 r1 r2 x.1 x.2.1 x.2.2.1 x.2.2.2.1) e0) e1) e2).trans (h'.symm.trans h)
def Q56.as : List MK := [.d false tI, .d false tI]
def Q56.rs : List (Bool × HT) := [(false, (.d tI))]
def Q56.lc : List AC := []
def Q56.D : DFn := ⟨Q56.as, Q56.rs, Int, fun x => Q56 N x.1 x.2.1, fun r o => r.1, fun b => (b, ()), fun b => (), none⟩
theorem Q56.fit : (Q56.D N).Fit := ⟨fun _ _ => rfl, fun _ _ => rfl, by kernel_rfl, (fun _ _ h => nomatch h), by kernel_rfl⟩
noncomputable def Q56.G (N : Nat) : Gam := gamOf []
def Q56.A : LA := fun _ => none
noncomputable def Q56.fin : St → Option Int := resK tb Try.f56.results.toList (decRes (Q56.D N) Q56.lc)
theorem Q56.entry (rec : RK Int) (x : (argH Q56.as).den) : seg tb (Q56.G N) Q56.A 0 rec (Q56.fin N) segFuel [.code (bodyOf Try.f56)] (initSt Try.f56 (encArgs Q56.as x) (encMem Q56.as x)) = Q56.e N x.1 x.2.1 := by kernel_rfl
theorem Q56.ok : FnOk Try.prog 56 (Q56.D N) := by
 refine fo ⟨Try.f56, Try.func56, by kernel_rfl, by kernel_rfl, fun x y h => ⟨Q56.G N, Q56.A, N, gamOf_ok (fun p hp => nomatch hp), ?_⟩⟩ (Q56.fit N)
 rw [absFn_n (n0 := 0) rfl (by kernel_rfl)]
 exact (Q56.entry N _ x).trans h
def Q82.as : List MK := [.d true qa, .d false tI, .d false tI]
def Q82.rs : List (Bool × HT) := [(false, (.d .bool))]
def Q82.lc : List AC := []
def Q82.D : DFn := ⟨Q82.as, Q82.rs, Bool, fun x => Q82 N x.1 x.2.1 x.2.2.1, fun r o => r.1, fun b => (b, ()), fun b => (), none⟩
theorem Q82.fit : (Q82.D N).Fit := ⟨fun _ _ => rfl, fun _ _ => rfl, by kernel_rfl, (fun _ _ h => nomatch h), by kernel_rfl⟩
noncomputable def Q82.G (N : Nat) : Gam := gamOf []
def Q82.A : LA := fun _ => none
noncomputable def Q82.fin : St → Option Bool := resK tb Try.f82.results.toList (decRes (Q82.D N) Q82.lc)
theorem Q82.entry (rec : RK Bool) (x : (argH Q82.as).den) : seg tb (Q82.G N) Q82.A 0 rec (Q82.fin N) segFuel [.code (bodyOf Try.f82)] (initSt Try.f82 (encArgs Q82.as x) (encMem Q82.as x)) = Q82.e N x.1 x.2.1 x.2.2.1 := by kernel_rfl
theorem Q82.ok : FnOk Try.prog 82 (Q82.D N) := by
 refine fo ⟨Try.f82, Try.func82, by kernel_rfl, by kernel_rfl, fun x y h => ⟨Q82.G N, Q82.A, N, gamOf_ok (fun p hp => nomatch hp), ?_⟩⟩ (Q82.fit N)
 rw [absFn_n (n0 := 0) rfl (by kernel_rfl)]
 exact (Q82.entry N _ x).trans h
def Q60.as : List MK := [.d true qa, .d true qd, .d true qe]
def Q60.rs : List (Bool × HT) := [(false, (.d .bool))]
def Q60.lc : List AC := []
def Q60.D : DFn := ⟨Q60.as, Q60.rs, Bool, fun x => Q60 N x.1 x.2.1 x.2.2.1, fun r o => r.1, fun b => (b, ()), fun b => (), none⟩
theorem Q60.fit : (Q60.D N).Fit := ⟨fun _ _ => rfl, fun _ _ => rfl, by kernel_rfl, (fun _ _ h => nomatch h), by kernel_rfl⟩
noncomputable def Q60.G : Gam := gamOf [(81, Q81.D N), (56, Q56.D N), (82, Q82.D N)]
def Q60.A : LA := fun k => bif Nat.beq k 1 then some ⟨[3, 5, 7, 29, 30, 31], [], [], [], [1], 3, false⟩ else bif Nat.beq k 3 then some ⟨[4, 5, 10, 50, 51, 52], [], [], [], [0], 3, false⟩ else none
noncomputable def Q60.fin : St → Option Bool := resK tb Try.f60.results.toList (decRes (Q60.D N) Q60.lc)
noncomputable def Q60.k0 : List Item := stackAt [.r, .r, .l, .r, .b, .r, .e, .r, .t, .l, .r, .b] (bodyOf Try.f60) []
def Q60.st0 (r_ : TRules) (p_ : TPos) (x_ : TEnd) (t31_ : Int) : St := ⟨rA 3 ++ [.one (.ptr 0 0), oA, .one (.ptr 2 0), oA, oi (w64 (1 - p_.2.2.1))] ++ rA 21 ++ [.one (.fro 3 tI p_.1), oi (p_.1.length : Int), oi t31_] ++ rA 38, [vR r_, .gone, .var 82 [.int .i64 x_.1, .int .i64 x_.2.1, .int .i64 x_.2.2.1, .bool x_.2.2.2]]⟩
noncomputable def Q60.k1 : List Item := stackAt [.r, .r, .r, .r, .l, .r, .b] (bodyOf Try.f60) []
def Q60.st1 (r_ : TRules) (p_ : TPos) (x_ : TEnd) (n_ t52_ : Int) : St := ⟨rA 4 ++ [.one (.ptr 1 0), .one (.ptr 2 0)] ++ rA 4 ++ [oi n_] ++ rA 39 ++ [.one (.fro 3 tI p_.1), oi (p_.1.length : Int), oi t52_] ++ rA 17, [.gone, vP p_, .var 82 [.int .i64 x_.1, .int .i64 x_.2.1, .int .i64 x_.2.2.1, .bool x_.2.2.2]]⟩
theorem Q60.step0 (rec : RK Bool) (r_ : TRules) (p_ : TPos) (x_ : TEnd) (t31_ : Int) : seg tb (Q60.G N) Q60.A 0 rec (Q60.fin N) segFuel (loopBody Q60.k0) (Q60.st0 r_ p_ x_ t31_) = Q60.s0 N r_ p_ x_ (fun t31_ => rec Q60.k0 (Q60.st0 r_ p_ x_ t31_)) (fun n_ t52_ => rec Q60.k1 (Q60.st1 r_ p_ x_ n_ t52_)) t31_ := by kernel_rfl
theorem Q60.step1 (rec : RK Bool) (r_ : TRules) (p_ : TPos) (x_ : TEnd) (n_ t52_ : Int) : seg tb (Q60.G N) Q60.A 0 rec (Q60.fin N) segFuel (loopBody Q60.k1) (Q60.st1 r_ p_ x_ n_ t52_) = Q60.s1 N r_ p_ x_ (fun t31_ => rec Q60.k0 (Q60.st0 r_ p_ x_ t31_)) (fun n_ t52_ => rec Q60.k1 (Q60.st1 r_ p_ x_ n_ t52_)) n_ t52_ := by kernel_rfl
theorem Q60.entry (rec : RK Bool) (x : (argH Q60.as).den) : seg tb (Q60.G N) Q60.A 0 rec (Q60.fin N) segFuel [.code (bodyOf Try.f60)] (initSt Try.f60 (encArgs Q60.as x) (encMem Q60.as x)) = Q60.e N (fun t31_ => rec Q60.k0 (Q60.st0 x.1 x.2.1 x.2.2.1 t31_)) (fun n_ t52_ => rec Q60.k1 (Q60.st1 x.1 x.2.1 x.2.2.1 n_ t52_)) x.1 x.2.1 x.2.2.1 := by kernel_rfl
theorem Q60.runs (N : Nat) (r_ : TRules) (p_ : TPos) (x_ : TEnd) : ∀ n, (∀ (t31_ : Int), run tb (Q60.G N) Q60.A 0 (Q60.fin N) n Q60.k0 (Q60.st0 r_ p_ x_ t31_) = Q60.l0 N r_ p_ x_ n t31_) ∧ (∀ (n_ t52_ : Int), run tb (Q60.G N) Q60.A 0 (Q60.fin N) n Q60.k1 (Q60.st1 r_ p_ x_ n_ t52_) = Q60.l1 N r_ p_ x_ n n_ t52_)
 | 0 => ⟨fun _ => rfl, fun _ _ => rfl⟩
 | n + 1 => by
  obtain ⟨h0, h1⟩ := Q60.runs N r_ p_ x_ n
  have e0 : (fun (t31_ : Int) => run tb (Q60.G N) Q60.A 0 (Q60.fin N) n Q60.k0 (Q60.st0 r_ p_ x_ t31_)) = Q60.l0 N r_ p_ x_ n := by funext t31_; exact h0 t31_
  have e1 : (fun (n_ t52_ : Int) => run tb (Q60.G N) Q60.A 0 (Q60.fin N) n Q60.k1 (Q60.st1 r_ p_ x_ n_ t52_)) = Q60.l1 N r_ p_ x_ n := by funext n_ t52_; exact h1 n_ t52_
  have g0 : (∀ (t31_ : Int), run tb (Q60.G N) Q60.A 0 (Q60.fin N) (n + 1) Q60.k0 (Q60.st0 r_ p_ x_ t31_) = Q60.l0 N r_ p_ x_ (n + 1) t31_) := by
   intro t31_
   exact (run_succ (by kernel_rfl)).trans ((Q60.step0 N _ r_ p_ x_ t31_).trans ((congr (congrArg (fun r0 r1 => Q60.s0 N r_ p_ x_ r0 r1 t31_) e0) e1).trans (Q60.l0_s N r_ p_ x_ n t31_).symm))
  have g1 : (∀ (n_ t52_ : Int), run tb (Q60.G N) Q60.A 0 (Q60.fin N) (n + 1) Q60.k1 (Q60.st1 r_ p_ x_ n_ t52_) = Q60.l1 N r_ p_ x_ (n + 1) n_ t52_) := by
   intro n_ t52_
   exact (run_succ (by kernel_rfl)).trans ((Q60.step1 N _ r_ p_ x_ n_ t52_).trans ((congr (congrArg (fun r0 r1 => Q60.s1 N r_ p_ x_ r0 r1 n_ t52_) e0) e1).trans (Q60.l1_s N r_ p_ x_ n n_ t52_).symm))
  exact ⟨g0, g1⟩
theorem Q60.ok : FnOk Try.prog 60 (Q60.D N) := by
 refine fo ⟨Try.f60, Try.func60, by kernel_rfl, by kernel_rfl, fun x y h => ⟨Q60.G N, Q60.A, N, gamOf_ok (gc ⟨Q81.ok N, Q81.fit N⟩ (gc ⟨Q56.ok N, Q56.fit N⟩ (gc ⟨Q82.ok N, Q82.fit N⟩ gn))), ?_⟩⟩ (Q60.fit N)
 rw [absFn_n (n0 := 0) rfl (by kernel_rfl)]
 refine (Q60.entry N (run tb (Q60.G N) Q60.A 0 (Q60.fin N) N) x).trans ?_
 have e0 : (fun (t31_ : Int) => run tb (Q60.G N) Q60.A 0 (Q60.fin N) N Q60.k0 (Q60.st0 x.1 x.2.1 x.2.2.1 t31_)) = Q60.l0 N x.1 x.2.1 x.2.2.1 N := by funext t31_; exact (Q60.runs N x.1 x.2.1 x.2.2.1 N).1 t31_
 have e1 : (fun (n_ t52_ : Int) => run tb (Q60.G N) Q60.A 0 (Q60.fin N) N Q60.k1 (Q60.st1 x.1 x.2.1 x.2.2.1 n_ t52_)) = Q60.l1 N x.1 x.2.1 x.2.2.1 N := by funext n_ t52_; exact (Q60.runs N x.1 x.2.1 x.2.2.1 N).2 n_ t52_
 have h' : (Q60.D N).f x = Q60.e N (Q60.l0 N x.1 x.2.1 x.2.2.1 N) (Q60.l1 N x.1 x.2.1 x.2.2.1 N) x.1 x.2.1 x.2.2.1 := by kernel_rfl
 exact (congr (congrArg (fun r0 r1 => Q60.e N r0 r1 x.1 x.2.1 x.2.2.1) e0) e1).trans (h'.symm.trans h)
def Q61.as : List MK := [.d false tI]
def Q61.rs : List (Bool × HT) := [(false, (.d tI))]
def Q61.lc : List AC := []
def Q61.D : DFn := ⟨Q61.as, Q61.rs, Int, fun x => Q61 N x.1, fun r o => r.1, fun b => (b, ()), fun b => (), none⟩
theorem Q61.fit : (Q61.D N).Fit := ⟨fun _ _ => rfl, fun _ _ => rfl, by kernel_rfl, (fun _ _ h => nomatch h), by kernel_rfl⟩
noncomputable def Q61.G (N : Nat) : Gam := gamOf []
def Q61.A : LA := fun _ => none
noncomputable def Q61.fin : St → Option Int := resK tb Try.f61.results.toList (decRes (Q61.D N) Q61.lc)
theorem Q61.entry (rec : RK Int) (x : (argH Q61.as).den) : seg tb (Q61.G N) Q61.A 0 rec (Q61.fin N) segFuel [.code (bodyOf Try.f61)] (initSt Try.f61 (encArgs Q61.as x) (encMem Q61.as x)) = Q61.e N x.1 := by kernel_rfl
theorem Q61.ok : FnOk Try.prog 61 (Q61.D N) := by
 refine fo ⟨Try.f61, Try.func61, by kernel_rfl, by kernel_rfl, fun x y h => ⟨Q61.G N, Q61.A, N, gamOf_ok (fun p hp => nomatch hp), ?_⟩⟩ (Q61.fit N)
 rw [absFn_n (n0 := 0) rfl (by kernel_rfl)]
 exact (Q61.entry N _ x).trans h
def Q55.as : List MK := [.d false tI]
def Q55.rs : List (Bool × HT) := [(false, (.d tI))]
def Q55.lc : List AC := []
def Q55.D : DFn := ⟨Q55.as, Q55.rs, Int, fun x => Q55 N x.1, fun r o => r.1, fun b => (b, ()), fun b => (), none⟩
theorem Q55.fit : (Q55.D N).Fit := ⟨fun _ _ => rfl, fun _ _ => rfl, by kernel_rfl, (fun _ _ h => nomatch h), by kernel_rfl⟩
noncomputable def Q55.G (N : Nat) : Gam := gamOf []
def Q55.A : LA := fun _ => none
noncomputable def Q55.fin : St → Option Int := resK tb Try.f55.results.toList (decRes (Q55.D N) Q55.lc)
theorem Q55.entry (rec : RK Int) (x : (argH Q55.as).den) : seg tb (Q55.G N) Q55.A 0 rec (Q55.fin N) segFuel [.code (bodyOf Try.f55)] (initSt Try.f55 (encArgs Q55.as x) (encMem Q55.as x)) = Q55.e N x.1 := by kernel_rfl
theorem Q55.ok : FnOk Try.prog 55 (Q55.D N) := by
 refine fo ⟨Try.f55, Try.func55, by kernel_rfl, by kernel_rfl, fun x y h => ⟨Q55.G N, Q55.A, N, gamOf_ok (fun p hp => nomatch hp), ?_⟩⟩ (Q55.fit N)
 rw [absFn_n (n0 := 0) rfl (by kernel_rfl)]
 exact (Q55.entry N _ x).trans h
def Q103.as : List MK := [.d false (.int .u64)]
def Q103.rs : List (Bool × HT) := [(false, (.d tI))]
def Q103.lc : List AC := []
def Q103.D : DFn := ⟨Q103.as, Q103.rs, Int, fun x => Q103 N x.1, fun r o => r.1, fun b => (b, ()), fun b => (), none⟩
theorem Q103.fit : (Q103.D N).Fit := ⟨fun _ _ => rfl, fun _ _ => rfl, by kernel_rfl, (fun _ _ h => nomatch h), by kernel_rfl⟩
noncomputable def Q103.G (N : Nat) : Gam := gamOf []
def Q103.A : LA := fun _ => none
noncomputable def Q103.fin : St → Option Int := resK tb Try.f103.results.toList (decRes (Q103.D N) Q103.lc)
theorem Q103.entry (rec : RK Int) (x : (argH Q103.as).den) : seg tb (Q103.G N) Q103.A 0 rec (Q103.fin N) segFuel [.code (bodyOf Try.f103)] (initSt Try.f103 (encArgs Q103.as x) (encMem Q103.as x)) = Q103.e N x.1 := by kernel_rfl
theorem Q103.ok : FnOk Try.prog 103 (Q103.D N) := by
 refine fo ⟨Try.f103, Try.func103, by kernel_rfl, by kernel_rfl, fun x y h => ⟨Q103.G N, Q103.A, N, gamOf_ok (fun p hp => nomatch hp), ?_⟩⟩ (Q103.fit N)
 rw [absFn_n (n0 := 0) rfl (by kernel_rfl)]
 exact (Q103.entry N _ x).trans h
def Q90.as : List MK := [.d false (.int .u64)]
def Q90.rs : List (Bool × HT) := [(false, (.d tI))]
def Q90.lc : List AC := []
def Q90.D : DFn := ⟨Q90.as, Q90.rs, Int, fun x => Q90 N x.1, fun r o => r.1, fun b => (b, ()), fun b => (), none⟩
theorem Q90.fit : (Q90.D N).Fit := ⟨fun _ _ => rfl, fun _ _ => rfl, by kernel_rfl, (fun _ _ h => nomatch h), by kernel_rfl⟩
noncomputable def Q90.G : Gam := gamOf [(103, Q103.D N)]
def Q90.A : LA := fun _ => none
noncomputable def Q90.fin : St → Option Int := resK tb Try.f90.results.toList (decRes (Q90.D N) Q90.lc)
theorem Q90.entry (rec : RK Int) (x : (argH Q90.as).den) : seg tb (Q90.G N) Q90.A 0 rec (Q90.fin N) segFuel [.code (bodyOf Try.f90)] (initSt Try.f90 (encArgs Q90.as x) (encMem Q90.as x)) = Q90.e N x.1 := by kernel_rfl
theorem Q90.ok : FnOk Try.prog 90 (Q90.D N) := by
 refine fo ⟨Try.f90, Try.func90, by kernel_rfl, by kernel_rfl, fun x y h => ⟨Q90.G N, Q90.A, N, gamOf_ok (gc ⟨Q103.ok N, Q103.fit N⟩ gn), ?_⟩⟩ (Q90.fit N)
 rw [absFn_n (n0 := 0) rfl (by kernel_rfl)]
 exact (Q90.entry N _ x).trans h
def Q104.as : List MK := [.d false tI]
def Q104.rs : List (Bool × HT) := [(false, (.d .bool))]
def Q104.lc : List AC := []
def Q104.D : DFn := ⟨Q104.as, Q104.rs, Bool, fun x => Q104 N x.1, fun r o => r.1, fun b => (b, ()), fun b => (), none⟩
theorem Q104.fit : (Q104.D N).Fit := ⟨fun _ _ => rfl, fun _ _ => rfl, by kernel_rfl, (fun _ _ h => nomatch h), by kernel_rfl⟩
noncomputable def Q104.G (N : Nat) : Gam := gamOf []
def Q104.A : LA := fun _ => none
noncomputable def Q104.fin : St → Option Bool := resK tb Try.f104.results.toList (decRes (Q104.D N) Q104.lc)
theorem Q104.entry (rec : RK Bool) (x : (argH Q104.as).den) : seg tb (Q104.G N) Q104.A 0 rec (Q104.fin N) segFuel [.code (bodyOf Try.f104)] (initSt Try.f104 (encArgs Q104.as x) (encMem Q104.as x)) = Q104.e N x.1 := by kernel_rfl
theorem Q104.ok : FnOk Try.prog 104 (Q104.D N) := by
 refine fo ⟨Try.f104, Try.func104, by kernel_rfl, by kernel_rfl, fun x y h => ⟨Q104.G N, Q104.A, N, gamOf_ok (fun p hp => nomatch hp), ?_⟩⟩ (Q104.fit N)
 rw [absFn_n (n0 := 0) rfl (by kernel_rfl)]
 exact (Q104.entry N _ x).trans h
def Q92.as : List MK := [.d false tI, .d false tI]
def Q92.rs : List (Bool × HT) := [(false, (.d tI))]
def Q92.lc : List AC := []
def Q92.D : DFn := ⟨Q92.as, Q92.rs, Int, fun x => Q92 N x.1 x.2.1, fun r o => r.1, fun b => (b, ()), fun b => (), none⟩
theorem Q92.fit : (Q92.D N).Fit := ⟨fun _ _ => rfl, fun _ _ => rfl, by kernel_rfl, (fun _ _ h => nomatch h), by kernel_rfl⟩
noncomputable def Q92.G : Gam := gamOf [(104, Q104.D N)]
def Q92.A : LA := fun _ => none
noncomputable def Q92.fin : St → Option Int := resK tb Try.f92.results.toList (decRes (Q92.D N) Q92.lc)
theorem Q92.entry (rec : RK Int) (x : (argH Q92.as).den) : seg tb (Q92.G N) Q92.A 0 rec (Q92.fin N) segFuel [.code (bodyOf Try.f92)] (initSt Try.f92 (encArgs Q92.as x) (encMem Q92.as x)) = Q92.e N x.1 x.2.1 := by kernel_rfl
theorem Q92.ok : FnOk Try.prog 92 (Q92.D N) := by
 refine fo ⟨Try.f92, Try.func92, by kernel_rfl, by kernel_rfl, fun x y h => ⟨Q92.G N, Q92.A, N, gamOf_ok (gc ⟨Q104.ok N, Q104.fit N⟩ gn), ?_⟩⟩ (Q92.fit N)
 rw [absFn_n (n0 := 0) rfl (by kernel_rfl)]
 exact (Q92.entry N _ x).trans h
def Q91.as : List MK := [.d false (.slice 3 tI)]
def Q91.rs : List (Bool × HT) := [(false, (.d tI))]
def Q91.lc : List AC := []
def Q91.D : DFn := ⟨Q91.as, Q91.rs, Int, fun x => Q91 N x.1, fun r o => r.1, fun b => (b, ()), fun b => (), none⟩
theorem Q91.fit : (Q91.D N).Fit := ⟨fun _ _ => rfl, fun _ _ => rfl, by kernel_rfl, (fun _ _ h => nomatch h), by kernel_rfl⟩
noncomputable def Q91.G (N : Nat) : Gam := gamOf []
def Q91.A : LA := fun k => bif Nat.beq k 0 then some ⟨[3, 6, 7, 8], [], [], [], [], 0, false⟩ else none
noncomputable def Q91.fin : St → Option Int := resK tb Try.f91.results.toList (decRes (Q91.D N) Q91.lc)
noncomputable def Q91.k0 : List Item := stackAt [.r, .r, .l, .r, .b] (bodyOf Try.f91) []
def Q91.st0 (vals : LInt) (t8_ : Int) : St := ⟨rA 3 ++ [oi 0, oA, oA, .one (.fro 3 tI vals), oi (vals.length : Int), oi t8_] ++ rA 9, []⟩
theorem Q91.step0 (rec : RK Int) (vals : LInt) (t8_ : Int) : seg tb (Q91.G N) Q91.A 0 rec (Q91.fin N) segFuel (loopBody Q91.k0) (Q91.st0 vals t8_) = Q91.s0 N vals (fun t8_ => rec Q91.k0 (Q91.st0 vals t8_)) t8_ := by kernel_rfl
theorem Q91.entry (rec : RK Int) (x : (argH Q91.as).den) : seg tb (Q91.G N) Q91.A 0 rec (Q91.fin N) segFuel [.code (bodyOf Try.f91)] (initSt Try.f91 (encArgs Q91.as x) (encMem Q91.as x)) = Q91.e N (fun t8_ => rec Q91.k0 (Q91.st0 x.1 t8_)) x.1 := by kernel_rfl
theorem Q91.runs (N : Nat) (vals : LInt) : ∀ n, (∀ (t8_ : Int), run tb (Q91.G N) Q91.A 0 (Q91.fin N) n Q91.k0 (Q91.st0 vals t8_) = Q91.l0 N vals n t8_)
 | 0 => fun _ => rfl
 | n + 1 => by
  have h0 := Q91.runs N vals n
  have e0 : (fun (t8_ : Int) => run tb (Q91.G N) Q91.A 0 (Q91.fin N) n Q91.k0 (Q91.st0 vals t8_)) = Q91.l0 N vals n := by funext t8_; exact h0 t8_
  have g0 : (∀ (t8_ : Int), run tb (Q91.G N) Q91.A 0 (Q91.fin N) (n + 1) Q91.k0 (Q91.st0 vals t8_) = Q91.l0 N vals (n + 1) t8_) := by
   intro t8_
   exact (run_succ (by kernel_rfl)).trans ((Q91.step0 N _ vals t8_).trans ((congrArg (fun r0 => Q91.s0 N vals r0 t8_) e0).trans (Q91.l0_s N vals n t8_).symm))
  exact g0
theorem Q91.ok : FnOk Try.prog 91 (Q91.D N) := by
 refine fo ⟨Try.f91, Try.func91, by kernel_rfl, by kernel_rfl, fun x y h => ⟨Q91.G N, Q91.A, N, gamOf_ok (fun p hp => nomatch hp), ?_⟩⟩ (Q91.fit N)
 rw [absFn_n (n0 := 0) rfl (by kernel_rfl)]
 refine (Q91.entry N (run tb (Q91.G N) Q91.A 0 (Q91.fin N) N) x).trans ?_
 have e0 : (fun (t8_ : Int) => run tb (Q91.G N) Q91.A 0 (Q91.fin N) N Q91.k0 (Q91.st0 x.1 t8_)) = Q91.l0 N x.1 N := by funext t8_; exact (Q91.runs N x.1 N) t8_
 have h' : (Q91.D N).f x = Q91.e N (Q91.l0 N x.1 N) x.1 := by kernel_rfl
 exact (congrArg (fun r0 => Q91.e N r0 x.1) e0).trans (h'.symm.trans h)
def Q78.as : List MK := [.d true qc, .d true qc]
def Q78.rs : List (Bool × HT) := [(false, (.d tI))]
def Q78.lc : List AC := []
def Q78.D : DFn := ⟨Q78.as, Q78.rs, Int, fun x => Q78 N x.1 x.2.1, fun r o => r.1, fun b => (b, ()), fun b => (), none⟩
theorem Q78.fit : (Q78.D N).Fit := ⟨fun _ _ => rfl, fun _ _ => rfl, by kernel_rfl, (fun _ _ h => nomatch h), by kernel_rfl⟩
noncomputable def Q78.G : Gam := gamOf [(92, Q92.D N), (91, Q91.D N)]
def Q78.A : LA := fun _ => none
noncomputable def Q78.fin : St → Option Int := resK tb Try.f78.results.toList (decRes (Q78.D N) Q78.lc)
theorem Q78.entry (rec : RK Int) (x : (argH Q78.as).den) : seg tb (Q78.G N) Q78.A 0 rec (Q78.fin N) segFuel [.code (bodyOf Try.f78)] (initSt Try.f78 (encArgs Q78.as x) (encMem Q78.as x)) = Q78.e N x.1 x.2.1 := by kernel_rfl
theorem Q78.ok : FnOk Try.prog 78 (Q78.D N) := by
 refine fo ⟨Try.f78, Try.func78, by kernel_rfl, by kernel_rfl, fun x y h => ⟨Q78.G N, Q78.A, N, gamOf_ok (gc ⟨Q92.ok N, Q92.fit N⟩ (gc ⟨Q91.ok N, Q91.fit N⟩ gn)), ?_⟩⟩ (Q78.fit N)
 rw [absFn_n (n0 := 0) rfl (by kernel_rfl)]
 exact (Q78.entry N _ x).trans h
def Q94.as : List MK := [.o (.own 37 qc) true, .d false tI, .d false tI, .f 78]
def Q94.rs : List (Bool × HT) := []
def Q94.lc : List AC := [.own 0]
def Q94.D : DFn := ⟨Q94.as, Q94.rs, LMv, fun x => Q94 N x.1 x.2.1 x.2.2.1, fun r o => o.1, fun b => (), fun b => (b, ()), none⟩
theorem Q94.fit : (Q94.D N).Fit := ⟨fun _ _ => rfl, fun _ _ => rfl, by kernel_rfl, (fun _ _ h => nomatch h), by kernel_rfl⟩
noncomputable def Q94.G : Gam := gamOf [(78, Q78.D N)]
def Q94.A : LA := fun k => bif Nat.beq k 0 then some ⟨[0, 1, 2, 3, 8], [], [], [], [], 1, false⟩ else bif Nat.beq k 2 then some ⟨[0, 1, 2, 3, 8, 9], [], [], [], [], 1, false⟩ else none
noncomputable def Q94.fin : St → Option LMv := resK tb Try.f94.results.toList (decRes (Q94.D N) Q94.lc)
noncomputable def Q94.k0 : List Item := stackAt [.r, .b] (bodyOf Try.f94) []
def Q94.st0 (data : LMv) (a_ b_ i_ : Int) (data2 : LMv) : St := ⟨[.one (.own 0), oi a_, oi b_, .one (.fn 78)] ++ rA 4 ++ [oi i_] ++ rA 44, [.row 37 qc data2]⟩
noncomputable def Q94.k1 : List Item := stackAt [.r, .b, .w, .r, .l, .b, .r, .b] (bodyOf Try.f94) []
def Q94.st1 (data : LMv) (a_ b_ i_ j_ : Int) (data2 : LMv) : St := ⟨[.one (.own 0), oi a_, oi b_, .one (.fn 78)] ++ rA 4 ++ [oi i_, oi j_] ++ rA 43, [.row 37 qc data2]⟩
theorem Q94.step0 (rec : RK LMv) (data : LMv) (a_ b_ i_ : Int) (data2 : LMv) : seg tb (Q94.G N) Q94.A 1 rec (Q94.fin N) segFuel (loopBody Q94.k0) (Q94.st0 data a_ b_ i_ data2) = Q94.s0 N data a_ b_ (fun i_ data2 => rec Q94.k0 (Q94.st0 data a_ b_ i_ data2)) (fun i_ j_ data2 => rec Q94.k1 (Q94.st1 data a_ b_ i_ j_ data2)) i_ data2 := by kernel_rfl
theorem Q94.step1 (rec : RK LMv) (data : LMv) (a_ b_ i_ j_ : Int) (data2 : LMv) : seg tb (Q94.G N) Q94.A 1 rec (Q94.fin N) segFuel (loopBody Q94.k1) (Q94.st1 data a_ b_ i_ j_ data2) = Q94.s1 N data a_ b_ (fun i_ data2 => rec Q94.k0 (Q94.st0 data a_ b_ i_ data2)) (fun i_ j_ data2 => rec Q94.k1 (Q94.st1 data a_ b_ i_ j_ data2)) i_ j_ data2 := by kernel_rfl
theorem Q94.entry (rec : RK LMv) (x : (argH Q94.as).den) : seg tb (Q94.G N) Q94.A 1 rec (Q94.fin N) segFuel [.code (bodyOf Try.f94)] (initSt Try.f94 (encArgs Q94.as x) (encMem Q94.as x)) = Q94.e N (fun i_ data2 => rec Q94.k0 (Q94.st0 x.1 x.2.1 x.2.2.1 i_ data2)) (fun i_ j_ data2 => rec Q94.k1 (Q94.st1 x.1 x.2.1 x.2.2.1 i_ j_ data2)) x.1 x.2.1 x.2.2.1 := by kernel_rfl
theorem Q94.runs (N : Nat) (data : LMv) (a_ b_ : Int) : ∀ n, (∀ (i_ : Int) (data2 : LMv), run tb (Q94.G N) Q94.A 1 (Q94.fin N) n Q94.k0 (Q94.st0 data a_ b_ i_ data2) = Q94.l0 N data a_ b_ n i_ data2) ∧ (∀ (i_ j_ : Int) (data2 : LMv), run tb (Q94.G N) Q94.A 1 (Q94.fin N) n Q94.k1 (Q94.st1 data a_ b_ i_ j_ data2) = Q94.l1 N data a_ b_ n i_ j_ data2)
 | 0 => ⟨fun _ _ => rfl, fun _ _ _ => rfl⟩
 | n + 1 => by
  obtain ⟨h0, h1⟩ := Q94.runs N data a_ b_ n
  have e0 : (fun (i_ : Int) (data2 : LMv) => run tb (Q94.G N) Q94.A 1 (Q94.fin N) n Q94.k0 (Q94.st0 data a_ b_ i_ data2)) = Q94.l0 N data a_ b_ n := by funext i_ data2; exact h0 i_ data2
  have e1 : (fun (i_ j_ : Int) (data2 : LMv) => run tb (Q94.G N) Q94.A 1 (Q94.fin N) n Q94.k1 (Q94.st1 data a_ b_ i_ j_ data2)) = Q94.l1 N data a_ b_ n := by funext i_ j_ data2; exact h1 i_ j_ data2
  have g0 : (∀ (i_ : Int) (data2 : LMv), run tb (Q94.G N) Q94.A 1 (Q94.fin N) (n + 1) Q94.k0 (Q94.st0 data a_ b_ i_ data2) = Q94.l0 N data a_ b_ (n + 1) i_ data2) := by
   intro i_ data2
   exact (run_succ (by kernel_rfl)).trans ((Q94.step0 N _ data a_ b_ i_ data2).trans ((congr (congrArg (fun r0 r1 => Q94.s0 N data a_ b_ r0 r1 i_ data2) e0) e1).trans (Q94.l0_s N data a_ b_ n i_ data2).symm))
  have g1 : (∀ (i_ j_ : Int) (data2 : LMv), run tb (Q94.G N) Q94.A 1 (Q94.fin N) (n + 1) Q94.k1 (Q94.st1 data a_ b_ i_ j_ data2) = Q94.l1 N data a_ b_ (n + 1) i_ j_ data2) := by
   intro i_ j_ data2
   exact (run_succ (by kernel_rfl)).trans ((Q94.step1 N _ data a_ b_ i_ j_ data2).trans ((congr (congrArg (fun r0 r1 => Q94.s1 N data a_ b_ r0 r1 i_ j_ data2) e0) e1).trans (Q94.l1_s N data a_ b_ n i_ j_ data2).symm))
  exact ⟨g0, g1⟩
theorem Q94.ok : FnOk Try.prog 94 (Q94.D N) := by
 refine fo ⟨Try.f94, Try.func94, by kernel_rfl, by kernel_rfl, fun x y h => ⟨Q94.G N, Q94.A, N, gamOf_ok (gc ⟨Q78.ok N, Q78.fit N⟩ gn), ?_⟩⟩ (Q94.fit N)
 rw [absFn_n (n0 := 1) rfl (by kernel_rfl)]
 refine (Q94.entry N (run tb (Q94.G N) Q94.A 1 (Q94.fin N) N) x).trans ?_
 have e0 : (fun (i_ : Int) (data2 : LMv) => run tb (Q94.G N) Q94.A 1 (Q94.fin N) N Q94.k0 (Q94.st0 x.1 x.2.1 x.2.2.1 i_ data2)) = Q94.l0 N x.1 x.2.1 x.2.2.1 N := by funext i_ data2; exact (Q94.runs N x.1 x.2.1 x.2.2.1 N).1 i_ data2
 have e1 : (fun (i_ j_ : Int) (data2 : LMv) => run tb (Q94.G N) Q94.A 1 (Q94.fin N) N Q94.k1 (Q94.st1 x.1 x.2.1 x.2.2.1 i_ j_ data2)) = Q94.l1 N x.1 x.2.1 x.2.2.1 N := by funext i_ j_ data2; exact (Q94.runs N x.1 x.2.1 x.2.2.1 N).2 i_ j_ data2
 have h' : (Q94.D N).f x = Q94.e N (Q94.l0 N x.1 x.2.1 x.2.2.1 N) (Q94.l1 N x.1 x.2.1 x.2.2.1 N) x.1 x.2.1 x.2.2.1 := by kernel_rfl
 exact (congr (congrArg (fun r0 r1 => Q94.e N r0 r1 x.1 x.2.1 x.2.2.1) e0) e1).trans (h'.symm.trans h)
def Q105.as : List MK := [.o (.own 37 qc) true, .d false tI, .d false tI, .d false tI, .f 78]
def Q105.rs : List (Bool × HT) := []
def Q105.lc : List AC := [.own 0]
def Q105.D : DFn := ⟨Q105.as, Q105.rs, LMv, fun x => Q105 N x.1 x.2.1 x.2.2.1 x.2.2.2.1, fun r o => o.1, fun b => (), fun b => (b, ()), none⟩
theorem Q105.fit : (Q105.D N).Fit := ⟨fun _ _ => rfl, fun _ _ => rfl, by kernel_rfl, (fun _ _ h => nomatch h), by kernel_rfl⟩
noncomputable def Q105.G : Gam := gamOf [(78, Q78.D N)]
def Q105.A : LA := fun k => bif Nat.beq k 0 then some ⟨[0, 2, 3, 4, 10], [], [], [], [], 1, false⟩ else none
noncomputable def Q105.fin : St → Option LMv := resK tb Try.f105.results.toList (decRes (Q105.D N) Q105.lc)
noncomputable def Q105.k0 : List Item := stackAt [.r, .b] (bodyOf Try.f105) []
def Q105.st0 (data : LMv) (lo hi first root : Int) (data2 : LMv) : St := ⟨[.one (.own 0), oA, oi hi, oi first, .one (.fn 78)] ++ rA 5 ++ [oi root] ++ rA 71, [.row 37 qc data2]⟩
theorem Q105.step0 (rec : RK LMv) (data : LMv) (lo hi first root : Int) (data2 : LMv) : seg tb (Q105.G N) Q105.A 1 rec (Q105.fin N) segFuel (loopBody Q105.k0) (Q105.st0 data lo hi first root data2) = Q105.s0 N data lo hi first (fun root data2 => rec Q105.k0 (Q105.st0 data lo hi first root data2)) root data2 := by kernel_rfl
theorem Q105.entry (rec : RK LMv) (x : (argH Q105.as).den) : seg tb (Q105.G N) Q105.A 1 rec (Q105.fin N) segFuel [.code (bodyOf Try.f105)] (initSt Try.f105 (encArgs Q105.as x) (encMem Q105.as x)) = Q105.e N (fun root data2 => rec Q105.k0 (Q105.st0 x.1 x.2.1 x.2.2.1 x.2.2.2.1 root data2)) x.1 x.2.1 x.2.2.1 x.2.2.2.1 := by kernel_rfl
theorem Q105.runs (N : Nat) (data : LMv) (lo hi first : Int) : ∀ n, (∀ (root : Int) (data2 : LMv), run tb (Q105.G N) Q105.A 1 (Q105.fin N) n Q105.k0 (Q105.st0 data lo hi first root data2) = Q105.l0 N data lo hi first n root data2)
 | 0 => fun _ _ => rfl
 | n + 1 => by
  have h0 := Q105.runs N data lo hi first n
  have e0 : (fun (root : Int) (data2 : LMv) => run tb (Q105.G N) Q105.A 1 (Q105.fin N) n Q105.k0 (Q105.st0 data lo hi first root data2)) = Q105.l0 N data lo hi first n := by funext root data2; exact h0 root data2
  have g0 : (∀ (root : Int) (data2 : LMv), run tb (Q105.G N) Q105.A 1 (Q105.fin N) (n + 1) Q105.k0 (Q105.st0 data lo hi first root data2) = Q105.l0 N data lo hi first (n + 1) root data2) := by
   intro root data2
   exact (run_succ (by kernel_rfl)).trans ((Q105.step0 N _ data lo hi first root data2).trans ((congrArg (fun r0 => Q105.s0 N data lo hi first r0 root data2) e0).trans (Q105.l0_s N data lo hi first n root data2).symm))
  exact g0
theorem Q105.ok : FnOk Try.prog 105 (Q105.D N) := by
 refine fo ⟨Try.f105, Try.func105, by kernel_rfl, by kernel_rfl, fun x y h => ⟨Q105.G N, Q105.A, N, gamOf_ok (gc ⟨Q78.ok N, Q78.fit N⟩ gn), ?_⟩⟩ (Q105.fit N)
 rw [absFn_n (n0 := 1) rfl (by kernel_rfl)]
 refine (Q105.entry N (run tb (Q105.G N) Q105.A 1 (Q105.fin N) N) x).trans ?_
 have e0 : (fun (root : Int) (data2 : LMv) => run tb (Q105.G N) Q105.A 1 (Q105.fin N) N Q105.k0 (Q105.st0 x.1 x.2.1 x.2.2.1 x.2.2.2.1 root data2)) = Q105.l0 N x.1 x.2.1 x.2.2.1 x.2.2.2.1 N := by funext root data2; exact (Q105.runs N x.1 x.2.1 x.2.2.1 x.2.2.2.1 N) root data2
 have h' : (Q105.D N).f x = Q105.e N (Q105.l0 N x.1 x.2.1 x.2.2.1 x.2.2.2.1 N) x.1 x.2.1 x.2.2.1 x.2.2.2.1 := by kernel_rfl
 exact (congrArg (fun r0 => Q105.e N r0 x.1 x.2.1 x.2.2.1 x.2.2.2.1) e0).trans (h'.symm.trans h)
def Q95.as : List MK := [.o (.own 37 qc) true, .d false tI, .d false tI, .f 78]
def Q95.rs : List (Bool × HT) := []
def Q95.lc : List AC := [.own 0]
def Q95.D : DFn := ⟨Q95.as, Q95.rs, LMv, fun x => Q95 N x.1 x.2.1 x.2.2.1, fun r o => o.1, fun b => (), fun b => (b, ()), none⟩
theorem Q95.fit : (Q95.D N).Fit := ⟨fun _ _ => rfl, fun _ _ => rfl, by kernel_rfl, (fun _ _ h => nomatch h), by kernel_rfl⟩
noncomputable def Q95.G : Gam := gamOf [(105, Q105.D N)]
def Q95.A : LA := fun k => bif Nat.beq k 0 then some ⟨[0, 3, 8, 9, 10, 11], [], [], [], [], 1, false⟩ else bif Nat.beq k 2 then some ⟨[0, 3, 8, 9, 12], [], [], [], [], 1, false⟩ else none
noncomputable def Q95.fin : St → Option LMv := resK tb Try.f95.results.toList (decRes (Q95.D N) Q95.lc)
noncomputable def Q95.k0 : List Item := stackAt [.r, .r, .r, .l, .r, .b] (bodyOf Try.f95) []
def Q95.st0 (data : LMv) (a_ b_ i_ : Int) (data2 : LMv) : St := ⟨[.one (.own 0), oA, oA, .one (.fn 78)] ++ rA 4 ++ [oi a_, oi 0, oi (w64 (b_ - a_)), oi i_] ++ rA 48, [.row 37 qc data2]⟩
noncomputable def Q95.k1 : List Item := stackAt [.r, .r, .r, .r, .r, .b] (bodyOf Try.f95) []
def Q95.st1 (data : LMv) (a_ b_ i_ : Int) (data2 : LMv) : St := ⟨[.one (.own 0), oA, oA, .one (.fn 78)] ++ rA 4 ++ [oi a_, oi 0, oA, oA, oi i_] ++ rA 47, [.row 37 qc data2]⟩
theorem Q95.step0 (rec : RK LMv) (data : LMv) (a_ b_ i_ : Int) (data2 : LMv) : seg tb (Q95.G N) Q95.A 1 rec (Q95.fin N) segFuel (loopBody Q95.k0) (Q95.st0 data a_ b_ i_ data2) = Q95.s0 N data a_ b_ (fun i_ data2 => rec Q95.k0 (Q95.st0 data a_ b_ i_ data2)) (fun i_ data2 => rec Q95.k1 (Q95.st1 data a_ b_ i_ data2)) i_ data2 := by kernel_rfl
theorem Q95.step1 (rec : RK LMv) (data : LMv) (a_ b_ i_ : Int) (data2 : LMv) : seg tb (Q95.G N) Q95.A 1 rec (Q95.fin N) segFuel (loopBody Q95.k1) (Q95.st1 data a_ b_ i_ data2) = Q95.s1 N data a_ b_ (fun i_ data2 => rec Q95.k0 (Q95.st0 data a_ b_ i_ data2)) (fun i_ data2 => rec Q95.k1 (Q95.st1 data a_ b_ i_ data2)) i_ data2 := by kernel_rfl
theorem Q95.entry (rec : RK LMv) (x : (argH Q95.as).den) : seg tb (Q95.G N) Q95.A 1 rec (Q95.fin N) segFuel [.code (bodyOf Try.f95)] (initSt Try.f95 (encArgs Q95.as x) (encMem Q95.as x)) = Q95.e N (fun i_ data2 => rec Q95.k0 (Q95.st0 x.1 x.2.1 x.2.2.1 i_ data2)) (fun i_ data2 => rec Q95.k1 (Q95.st1 x.1 x.2.1 x.2.2.1 i_ data2)) x.1 x.2.1 x.2.2.1 := by kernel_rfl
theorem Q95.runs (N : Nat) (data : LMv) (a_ b_ : Int) : ∀ n, (∀ (i_ : Int) (data2 : LMv), run tb (Q95.G N) Q95.A 1 (Q95.fin N) n Q95.k0 (Q95.st0 data a_ b_ i_ data2) = Q95.l0 N data a_ b_ n i_ data2) ∧ (∀ (i_ : Int) (data2 : LMv), run tb (Q95.G N) Q95.A 1 (Q95.fin N) n Q95.k1 (Q95.st1 data a_ b_ i_ data2) = Q95.l1 N data a_ b_ n i_ data2)
 | 0 => ⟨fun _ _ => rfl, fun _ _ => rfl⟩
 | n + 1 => by
  obtain ⟨h0, h1⟩ := Q95.runs N data a_ b_ n
  have e0 : (fun (i_ : Int) (data2 : LMv) => run tb (Q95.G N) Q95.A 1 (Q95.fin N) n Q95.k0 (Q95.st0 data a_ b_ i_ data2)) = Q95.l0 N data a_ b_ n := by funext i_ data2; exact h0 i_ data2
  have e1 : (fun (i_ : Int) (data2 : LMv) => run tb (Q95.G N) Q95.A 1 (Q95.fin N) n Q95.k1 (Q95.st1 data a_ b_ i_ data2)) = Q95.l1 N data a_ b_ n := by funext i_ data2; exact h1 i_ data2
  have g0 : (∀ (i_ : Int) (data2 : LMv), run tb (Q95.G N) Q95.A 1 (Q95.fin N) (n + 1) Q95.k0 (Q95.st0 data a_ b_ i_ data2) = Q95.l0 N data a_ b_ (n + 1) i_ data2) := by
   intro i_ data2
   exact (run_succ (by kernel_rfl)).trans ((Q95.step0 N _ data a_ b_ i_ data2).trans ((congr (congrArg (fun r0 r1 => Q95.s0 N data a_ b_ r0 r1 i_ data2) e0) e1).trans (Q95.l0_s N data a_ b_ n i_ data2).symm))
  have g1 : (∀ (i_ : Int) (data2 : LMv), run tb (Q95.G N) Q95.A 1 (Q95.fin N) (n + 1) Q95.k1 (Q95.st1 data a_ b_ i_ data2) = Q95.l1 N data a_ b_ (n + 1) i_ data2) := by
   intro i_ data2
   exact (run_succ (by kernel_rfl)).trans ((Q95.step1 N _ data a_ b_ i_ data2).trans ((congr (congrArg (fun r0 r1 => Q95.s1 N data a_ b_ r0 r1 i_ data2) e0) e1).trans (Q95.l1_s N data a_ b_ n i_ data2).symm))
  exact ⟨g0, g1⟩
theorem Q95.ok : FnOk Try.prog 95 (Q95.D N) := by
 refine fo ⟨Try.f95, Try.func95, by kernel_rfl, by kernel_rfl, fun x y h => ⟨Q95.G N, Q95.A, N, gamOf_ok (gc ⟨Q105.ok N, Q105.fit N⟩ gn), ?_⟩⟩ (Q95.fit N)
 rw [absFn_n (n0 := 1) rfl (by kernel_rfl)]
 refine (Q95.entry N (run tb (Q95.G N) Q95.A 1 (Q95.fin N) N) x).trans ?_
 have e0 : (fun (i_ : Int) (data2 : LMv) => run tb (Q95.G N) Q95.A 1 (Q95.fin N) N Q95.k0 (Q95.st0 x.1 x.2.1 x.2.2.1 i_ data2)) = Q95.l0 N x.1 x.2.1 x.2.2.1 N := by funext i_ data2; exact (Q95.runs N x.1 x.2.1 x.2.2.1 N).1 i_ data2
 have e1 : (fun (i_ : Int) (data2 : LMv) => run tb (Q95.G N) Q95.A 1 (Q95.fin N) N Q95.k1 (Q95.st1 x.1 x.2.1 x.2.2.1 i_ data2)) = Q95.l1 N x.1 x.2.1 x.2.2.1 N := by funext i_ data2; exact (Q95.runs N x.1 x.2.1 x.2.2.1 N).2 i_ data2
 have h' : (Q95.D N).f x = Q95.e N (Q95.l0 N x.1 x.2.1 x.2.2.1 N) (Q95.l1 N x.1 x.2.1 x.2.2.1 N) x.1 x.2.1 x.2.2.1 := by kernel_rfl
 exact (congr (congrArg (fun r0 r1 => Q95.e N r0 r1 x.1 x.2.1 x.2.2.1) e0) e1).trans (h'.symm.trans h)
def Q110.as : List MK := [.d false (.slice 37 qc), .d false tI, .d false tI, .o (.ptr 3 (.d tI)) true, .f 78]
def Q110.rs : List (Bool × HT) := [(false, (.d tI)), (false, (.d tI))]
def Q110.lc : List AC := [.ptr 0 0]
def Q110.D : DFn := ⟨Q110.as, Q110.rs, (Int × Int × Int), fun x => Q110 N x.1 x.2.1 x.2.2.1 x.2.2.2.1, fun r o => (r.1, r.2.1, o.1), fun b => (b.1, (b.2.1, ())), fun b => (b.2.2, ()), none⟩
theorem Q110.fit : (Q110.D N).Fit := ⟨fun _ _ => rfl, fun _ _ => rfl, by kernel_rfl, (fun _ _ h => nomatch h), by kernel_rfl⟩
noncomputable def Q110.G : Gam := gamOf [(78, Q78.D N)]
def Q110.A : LA := fun _ => none
noncomputable def Q110.fin : St → Option (Int × Int × Int) := resK tb Try.f110.results.toList (decRes (Q110.D N) Q110.lc)
theorem Q110.entry (rec : RK (Int × Int × Int)) (x : (argH Q110.as).den) : seg tb (Q110.G N) Q110.A 1 rec (Q110.fin N) segFuel [.code (bodyOf Try.f110)] (initSt Try.f110 (encArgs Q110.as x) (encMem Q110.as x)) = Q110.e N x.1 x.2.1 x.2.2.1 x.2.2.2.1 := by kernel_rfl
theorem Q110.ok : FnOk Try.prog 110 (Q110.D N) := by
 refine fo ⟨Try.f110, Try.func110, by kernel_rfl, by kernel_rfl, fun x y h => ⟨Q110.G N, Q110.A, N, gamOf_ok (gc ⟨Q78.ok N, Q78.fit N⟩ gn), ?_⟩⟩ (Q110.fit N)
 rw [absFn_n (n0 := 1) rfl (by kernel_rfl)]
 exact (Q110.entry N _ x).trans h
def Q109.as : List MK := [.d false (.slice 37 qc), .d false tI, .d false tI, .d false tI, .o (.ptr 3 (.d tI)) true, .f 78]
def Q109.rs : List (Bool × HT) := [(false, (.d tI))]
def Q109.lc : List AC := [.ptr 0 0]
def Q109.D : DFn := ⟨Q109.as, Q109.rs, (Int × Int), fun x => Q109 N x.1 x.2.1 x.2.2.1 x.2.2.2.1 x.2.2.2.2.1, fun r o => (r.1, o.1), fun b => (b.1, ()), fun b => (b.2, ()), none⟩
theorem Q109.fit : (Q109.D N).Fit := ⟨fun _ _ => rfl, fun _ _ => rfl, by kernel_rfl, (fun _ _ h => nomatch h), by kernel_rfl⟩
noncomputable def Q109.G : Gam := gamOf [(110, Q110.D N)]
def Q109.A : LA := fun _ => none
noncomputable def Q109.fin : St → Option (Int × Int) := resK tb Try.f109.results.toList (decRes (Q109.D N) Q109.lc)
theorem Q109.entry (rec : RK (Int × Int)) (x : (argH Q109.as).den) : seg tb (Q109.G N) Q109.A 1 rec (Q109.fin N) segFuel [.code (bodyOf Try.f109)] (initSt Try.f109 (encArgs Q109.as x) (encMem Q109.as x)) = Q109.e N x.1 x.2.1 x.2.2.1 x.2.2.2.1 x.2.2.2.2.1 := by kernel_rfl
theorem Q109.ok : FnOk Try.prog 109 (Q109.D N) := by
 refine fo ⟨Try.f109, Try.func109, by kernel_rfl, by kernel_rfl, fun x y h => ⟨Q109.G N, Q109.A, N, gamOf_ok (gc ⟨Q110.ok N, Q110.fit N⟩ gn), ?_⟩⟩ (Q109.fit N)
 rw [absFn_n (n0 := 1) rfl (by kernel_rfl)]
 exact (Q109.entry N _ x).trans h
def Q108.as : List MK := [.d false (.slice 37 qc), .d false tI, .o (.ptr 3 (.d tI)) true, .f 78]
def Q108.rs : List (Bool × HT) := [(false, (.d tI))]
def Q108.lc : List AC := [.ptr 0 0]
def Q108.D : DFn := ⟨Q108.as, Q108.rs, (Int × Int), fun x => Q108 N x.1 x.2.1 x.2.2.1, fun r o => (r.1, o.1), fun b => (b.1, ()), fun b => (b.2, ()), none⟩
theorem Q108.fit : (Q108.D N).Fit := ⟨fun _ _ => rfl, fun _ _ => rfl, by kernel_rfl, (fun _ _ h => nomatch h), by kernel_rfl⟩
noncomputable def Q108.G : Gam := gamOf [(109, Q109.D N)]
def Q108.A : LA := fun _ => none
noncomputable def Q108.fin : St → Option (Int × Int) := resK tb Try.f108.results.toList (decRes (Q108.D N) Q108.lc)
theorem Q108.entry (rec : RK (Int × Int)) (x : (argH Q108.as).den) : seg tb (Q108.G N) Q108.A 1 rec (Q108.fin N) segFuel [.code (bodyOf Try.f108)] (initSt Try.f108 (encArgs Q108.as x) (encMem Q108.as x)) = Q108.e N x.1 x.2.1 x.2.2.1 := by kernel_rfl
theorem Q108.ok : FnOk Try.prog 108 (Q108.D N) := by
 refine fo ⟨Try.f108, Try.func108, by kernel_rfl, by kernel_rfl, fun x y h => ⟨Q108.G N, Q108.A, N, gamOf_ok (gc ⟨Q109.ok N, Q109.fit N⟩ gn), ?_⟩⟩ (Q108.fit N)
 rw [absFn_n (n0 := 1) rfl (by kernel_rfl)]
 exact (Q108.entry N _ x).trans h
end Go.Proofs.Ytnddjmhpofhfjaa.Am
