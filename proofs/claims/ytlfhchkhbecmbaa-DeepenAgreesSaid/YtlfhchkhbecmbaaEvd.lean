/- PRINTED by gen.py: the abstract machine evaluates the loaded code to these functions. -/
import Derived.Test.YtlfhchkhbecmbaaFnd1
import Derived.Test.YtlfhchkhbecmbaaChecked
import Derived.Eval
set_option linter.unusedVariables false
set_option linter.unusedSimpArgs false
namespace Go.Proofs.Ytlfhchkhbecmbaa.Am
open Go
variable (N : Nat)
abbrev tI : Ty := .int .i64
abbrev qa : Ty := .prod .str (.prod tI (.prod tI (.prod (.slice 61 (.prod (.int .u8) (.prod tI (.prod tI (.slice 115 (.prod tI (.prod tI (.prod tI tI)))))))) (.prod (.slice 3 tI) (.prod .bool (.prod .bool (.prod (.slice 63 (.prod tI (.prod tI (.prod tI .bool)))) (.prod tI (.prod tI tI)))))))))
abbrev qb : Ty := .prod (.int .u8) (.prod tI (.prod tI (.slice 115 (.prod tI (.prod tI (.prod tI tI))))))
abbrev qc : Ty := .prod tI (.prod tI tI)
abbrev qd : Ty := .prod (.slice 3 tI) (.prod (.prod (.slice 3 tI) (.slice 3 tI)) (.prod tI tI))
abbrev qe : Ty := .prod tI (.prod tI (.prod tI .bool))
abbrev qf : Ty := .prod qc (.prod tI (.prod tI (.prod .bool (.prod tI (.int .u64)))))
abbrev oi (x : Int) : AV := .one (.int .i64 x)
abbrev oA : AV := .one .any
abbrev rA (n : Nat) : List AV := List.replicate n (.one .any)
abbrev vR (x : TRules) : AO := .var 26 [.str x.1, .int .i64 x.2.1, .int .i64 x.2.2.1, .fro 61 qb x.2.2.2.1, .fro 3 tI x.2.2.2.2.1, .bool x.2.2.2.2.2.1, .bool x.2.2.2.2.2.2.1, .fro 63 qe x.2.2.2.2.2.2.2.1, .int .i64 x.2.2.2.2.2.2.2.2.1, .int .i64 x.2.2.2.2.2.2.2.2.2.1, .int .i64 x.2.2.2.2.2.2.2.2.2.2]
abbrev vP (x : TPos) : AO := .var 29 [.fro 3 tI x.1, .fro 3 tI x.2.1.1, .fro 3 tI x.2.1.2, .int .i64 x.2.2.1, .int .i64 x.2.2.2]
theorem gc {P : Program} {k : Nat} {D : DFn} {l : List (Nat × DFn)} (h : FnOk P k D ∧ D.Fit) (t : ∀ p ∈ l, FnOk P p.1 p.2 ∧ p.2.Fit) : ∀ p ∈ (k, D) :: l, FnOk P p.1 p.2 ∧ p.2.Fit := List.forall_mem_cons.2 ⟨h, t⟩
theorem gn {P : Program} : ∀ p ∈ ([] : List (Nat × DFn)), FnOk P p.1 p.2 ∧ p.2.Fit := fun _ h => nomatch h
abbrev RK (R : Type) := List Item → St → Option R
abbrev LA := Nat → Option LoopAnn
set_option maxRecDepth 100000
def ti3 : TI := ⟨.int .i64, 1, 8, some tI, [.int .i64 0], false, some (false, tI), none⟩
def ti4 : TI := ⟨.bool, 1, 1, some .bool, [.bool false], false, none, none⟩
def ti5 : TI := ⟨.int .u8, 1, 1, some (.int .u8), [.int .u8 0], false, none, none⟩
def ti9 : TI := ⟨.str, 1, 16, some .str, [.str (⟨#[]⟩ : ByteArray)], false, none, none⟩
def ti22 : TI := ⟨.slice 61, 1, 24, some (.slice 61 qb), [.nilS], false, none, none⟩
def ti23 : TI := ⟨.slice 3, 1, 24, some (.slice 3 tI), [.nilS], false, none, none⟩
def ti24 : TI := ⟨.slice 63, 1, 24, some (.slice 63 qe), [.nilS], false, none, none⟩
def ti26 : TI := ⟨.struct [(0, 9), (1, 3), (2, 3), (3, 22), (4, 23), (5, 4), (6, 4), (7, 24), (8, 3), (9, 3), (10, 3)], 11, 136, some qa, [.str (⟨#[]⟩ : ByteArray), .int .i64 0, .int .i64 0, .nilS, .nilS, .bool false, .bool false, .nilS, .int .i64 0, .int .i64 0, .int .i64 0], false, none, none⟩
def ti27 : TI := ⟨.array 2 23, 2, 48, some (.prod (.slice 3 tI) (.slice 3 tI)), [.nilS, .nilS], false, none, none⟩
def ti29 : TI := ⟨.struct [(0, 23), (1, 27), (3, 3), (4, 3)], 5, 88, some qd, [.nilS, .nilS, .nilS, .int .i64 0, .int .i64 0], false, none, none⟩
def ti31 : TI := ⟨.struct [(0, 3), (1, 3), (2, 3)], 3, 24, some qc, [.int .i64 0, .int .i64 0, .int .i64 0], true, some (true, qc), none⟩
def ti33 : TI := ⟨.struct [(0, 31), (3, 3), (4, 3), (5, 3)], 6, 48, some (.prod qc qc), [.int .i64 0, .int .i64 0, .int .i64 0, .int .i64 0, .int .i64 0, .int .i64 0], true, none, none⟩
def ti34 : TI := ⟨.int .i64, 1, 8, some tI, [.int .i64 0], false, none, none⟩
def ti48 : TI := ⟨.ptr 81, 1, 8, none, [.nilP], false, none, none⟩
def ti54 : TI := ⟨.other, 1, 8, none, [.nilF], false, none, none⟩
def ti56 : TI := ⟨.map 3 31, 1, 8, none, [.nilM], false, none, none⟩
def ti59 : TI := ⟨.slice 115, 1, 24, some (.slice 115 (.prod tI qc)), [.nilS], false, none, none⟩
def ti61 : TI := ⟨.struct [(0, 5), (1, 3), (2, 3), (3, 59)], 4, 48, some qb, [.int .u8 0, .int .i64 0, .int .i64 0, .nilS], false, none, none⟩
def ti63 : TI := ⟨.struct [(0, 3), (1, 3), (2, 3), (3, 4)], 4, 32, some qe, [.int .i64 0, .int .i64 0, .int .i64 0, .bool false], false, none, none⟩
def ti67 : TI := ⟨.ptr 69, 1, 8, none, [.nilP], false, none, none⟩
def ti69 : TI := ⟨.struct [(0, 3)], 1, 8, some tI, [.int .i64 0], false, none, none⟩
def ti71 : TI := ⟨.slice 34, 1, 24, some (.slice 34 tI), [.nilS], false, none, none⟩
def ti73 : TI := ⟨.other, 1, 8, none, [.nilF], false, none, none⟩
def ti77 : TI := ⟨.int .u64, 1, 8, some (.int .u64), [.int .u64 0], false, none, none⟩
def ti79 : TI := ⟨.slice 107, 1, 24, some (.slice 107 qf), [.nilS], false, none, none⟩
def ti81 : TI := ⟨.struct [(0, 26), (11, 29), (16, 77), (17, 79)], 18, 256, some (.prod qa (.prod qd (.prod (.int .u64) (.slice 107 qf)))), [.str (⟨#[]⟩ : ByteArray), .int .i64 0, .int .i64 0, .nilS, .nilS, .bool false, .bool false, .nilS, .int .i64 0, .int .i64 0, .int .i64 0, .nilS, .nilS, .nilS, .int .i64 0, .int .i64 0, .int .u64 0, .nilS], false, none, none⟩
def ti83 : TI := ⟨.slice 31, 1, 24, some (.slice 31 qc), [.nilS], false, none, none⟩
def ti87 : TI := ⟨.ptr 89, 1, 8, none, [.nilP], false, none, none⟩
def ti89 : TI := ⟨.struct [(0, 3)], 1, 8, some tI, [.int .i64 0], false, none, none⟩
def ti107 : TI := ⟨.struct [(0, 31), (3, 3), (4, 3), (5, 4), (6, 3), (7, 77)], 8, 64, some qf, [.int .i64 0, .int .i64 0, .int .i64 0, .int .i64 0, .int .i64 0, .bool false, .int .i64 0, .int .u64 0], false, none, none⟩
def ti115 : TI := ⟨.struct [(0, 3), (1, 3), (2, 3), (3, 3)], 4, 32, some (.prod tI qc), [.int .i64 0, .int .i64 0, .int .i64 0, .int .i64 0], false, none, none⟩
def ti118 : TI := ⟨.other, 1, 8, none, [.nilF], false, none, none⟩
def ti121 : TI := ⟨.int .u64, 1, 8, some (.int .u64), [.int .u64 0], false, none, none⟩
def ti122 : TI := ⟨.array 2 3, 2, 16, some (.prod tI tI), [.int .i64 0, .int .i64 0], false, none, none⟩
def ti123 : TI := ⟨.array 4 122, 8, 64, some (.prod (.prod tI tI) (.prod (.prod tI tI) (.prod (.prod tI tI) (.prod tI tI)))), [.int .i64 0, .int .i64 0, .int .i64 0, .int .i64 0, .int .i64 0, .int .i64 0, .int .i64 0, .int .i64 0], false, none, none⟩
def ti130 : TI := ⟨.int .i64, 1, 8, some tI, [.int .i64 0], false, none, none⟩
def ti141 : TI := ⟨.int .u64, 1, 8, some (.int .u64), [.int .u64 0], false, none, none⟩
def ti145 : TI := ⟨.ptr 3, 1, 8, none, [.nilP], false, none, none⟩
def ti147 : TI := ⟨.ptr 141, 1, 8, none, [.nilP], false, none, none⟩
def tbt : TT := (.node 67 ti67 (.node 29 ti29 (.node 22 ti22 (.node 5 ti5 (.node 4 ti4 (.node 3 ti3 .nil .nil) .nil) (.node 9 ti9 .nil .nil)) (.node 26 ti26 (.node 24 ti24 (.node 23 ti23 .nil .nil) .nil) (.node 27 ti27 .nil .nil))) (.node 54 ti54 (.node 34 ti34 (.node 33 ti33 (.node 31 ti31 .nil .nil) .nil) (.node 48 ti48 .nil .nil)) (.node 61 ti61 (.node 59 ti59 (.node 56 ti56 .nil .nil) .nil) (.node 63 ti63 .nil .nil)))) (.node 107 ti107 (.node 79 ti79 (.node 73 ti73 (.node 71 ti71 (.node 69 ti69 .nil .nil) .nil) (.node 77 ti77 .nil .nil)) (.node 87 ti87 (.node 83 ti83 (.node 81 ti81 .nil .nil) .nil) (.node 89 ti89 .nil .nil))) (.node 123 ti123 (.node 121 ti121 (.node 118 ti118 (.node 115 ti115 .nil .nil) .nil) (.node 122 ti122 .nil .nil)) (.node 145 ti145 (.node 141 ti141 (.node 130 ti130 .nil .nil) .nil) (.node 147 ti147 .nil .nil)))))
def tb : Tab := tbt.get
theorem ti3_ok : TIok Try.prog tb 3 ti3 := TIok_mk (by kernel_rfl) (by kernel_rfl) ⟨rfl, rfl⟩ (by kernel_rfl) rfl ⟨rfl, rfl, Maps.int_keyed (by kernel_rfl : Try.prog.underlying 3 = some (TypeDesc.int .i64)), fun x hx => ⟨_, Maps.keyOf_int_mk (by kernel_rfl : Try.prog.underlying 3 = some (TypeDesc.int .i64)) hx⟩, by kernel_rfl⟩ trivial (by kernel_rfl)
theorem ti4_ok : TIok Try.prog tb 4 ti4 := TIok_mk (by kernel_rfl) (by kernel_rfl) ⟨rfl, rfl⟩ (by kernel_rfl) rfl trivial trivial (by kernel_rfl)
theorem ti5_ok : TIok Try.prog tb 5 ti5 := TIok_mk (by kernel_rfl) (by kernel_rfl) ⟨rfl, rfl⟩ (by kernel_rfl) rfl trivial trivial (by kernel_rfl)
theorem ti9_ok : TIok Try.prog tb 9 ti9 := TIok_mk (by kernel_rfl) (by kernel_rfl) ⟨rfl, rfl⟩ (by kernel_rfl) rfl trivial trivial (by kernel_rfl)
theorem ti22_ok : TIok Try.prog tb 22 ti22 := TIok_mk (by kernel_rfl) (by kernel_rfl) ⟨rfl, rfl⟩ (by kernel_rfl) rfl trivial trivial (by kernel_rfl)
theorem ti23_ok : TIok Try.prog tb 23 ti23 := TIok_mk (by kernel_rfl) (by kernel_rfl) ⟨rfl, rfl⟩ (by kernel_rfl) rfl trivial trivial (by kernel_rfl)
theorem ti24_ok : TIok Try.prog tb 24 ti24 := TIok_mk (by kernel_rfl) (by kernel_rfl) ⟨rfl, rfl⟩ (by kernel_rfl) rfl trivial trivial (by kernel_rfl)
theorem ti26_ok : TIok Try.prog tb 26 ti26 := TIok_mk (by kernel_rfl) (by kernel_rfl) ⟨rfl, rfl⟩ (by kernel_rfl) rfl trivial trivial (by kernel_rfl)
theorem ti27_ok : TIok Try.prog tb 27 ti27 := TIok_mk (by kernel_rfl) (by kernel_rfl) ⟨rfl, rfl⟩ (by kernel_rfl) rfl trivial trivial (by kernel_rfl)
theorem ti29_ok : TIok Try.prog tb 29 ti29 := TIok_mk (by kernel_rfl) (by kernel_rfl) ⟨rfl, rfl⟩ (by kernel_rfl) rfl trivial trivial (by kernel_rfl)
theorem ti31_ok : TIok Try.prog tb 31 ti31 := TIok_mk (by kernel_rfl) (by kernel_rfl) ⟨rfl, rfl⟩ (by kernel_rfl) rfl ⟨rfl, rfl, Maps.Keyed.of_law (deep_law_gate (by kernel_rfl) (Nat.le_of_ble_eq_true (by kernel_rfl)) (Nat.le_of_ble_eq_true (by kernel_rfl)) (by kernel_rfl) (by kernel_rfl)), fun x hx => keyOf_triple (P := Try.prog) (T := 31) (f1 := (fld Try.prog 31 0)) (f2 := (fld Try.prog 31 1)) (f3 := (fld Try.prog 31 2)) (k1 := .i64) (k2 := .i64) (k3 := .i64) (by kernel_rfl) (by kernel_rfl) (by kernel_rfl) (by kernel_rfl) (by kernel_rfl) (by kernel_rfl) (by kernel_rfl) (by kernel_rfl) (by kernel_rfl) (by kernel_rfl) (by kernel_rfl) (by kernel_rfl) (by kernel_rfl) hx, by kernel_rfl⟩ trivial (by kernel_rfl)
theorem ti33_ok : TIok Try.prog tb 33 ti33 := TIok_mk (by kernel_rfl) (by kernel_rfl) ⟨rfl, rfl⟩ (by kernel_rfl) rfl trivial trivial (by kernel_rfl)
theorem ti34_ok : TIok Try.prog tb 34 ti34 := TIok_mk (by kernel_rfl) (by kernel_rfl) ⟨rfl, rfl⟩ (by kernel_rfl) rfl trivial trivial (by kernel_rfl)
theorem ti48_ok : TIok Try.prog tb 48 ti48 := TIok_mk (by kernel_rfl) (by kernel_rfl) trivial (by kernel_rfl) rfl trivial trivial (by kernel_rfl)
theorem ti54_ok : TIok Try.prog tb 54 ti54 := TIok_mk (by kernel_rfl) (by kernel_rfl) trivial (by kernel_rfl) rfl trivial trivial (by kernel_rfl)
theorem ti56_ok : TIok Try.prog tb 56 ti56 := TIok_mk (by kernel_rfl) (by kernel_rfl) trivial (by kernel_rfl) rfl trivial trivial (by kernel_rfl)
theorem ti59_ok : TIok Try.prog tb 59 ti59 := TIok_mk (by kernel_rfl) (by kernel_rfl) ⟨rfl, rfl⟩ (by kernel_rfl) rfl trivial trivial (by kernel_rfl)
theorem ti61_ok : TIok Try.prog tb 61 ti61 := TIok_mk (by kernel_rfl) (by kernel_rfl) ⟨rfl, rfl⟩ (by kernel_rfl) rfl trivial trivial (by kernel_rfl)
theorem ti63_ok : TIok Try.prog tb 63 ti63 := TIok_mk (by kernel_rfl) (by kernel_rfl) ⟨rfl, rfl⟩ (by kernel_rfl) rfl trivial trivial (by kernel_rfl)
theorem ti67_ok : TIok Try.prog tb 67 ti67 := TIok_mk (by kernel_rfl) (by kernel_rfl) trivial (by kernel_rfl) rfl trivial trivial (by kernel_rfl)
theorem ti69_ok : TIok Try.prog tb 69 ti69 := TIok_mk (by kernel_rfl) (by kernel_rfl) ⟨rfl, rfl⟩ (by kernel_rfl) rfl trivial trivial (by kernel_rfl)
theorem ti71_ok : TIok Try.prog tb 71 ti71 := TIok_mk (by kernel_rfl) (by kernel_rfl) ⟨rfl, rfl⟩ (by kernel_rfl) rfl trivial trivial (by kernel_rfl)
theorem ti73_ok : TIok Try.prog tb 73 ti73 := TIok_mk (by kernel_rfl) (by kernel_rfl) trivial (by kernel_rfl) rfl trivial trivial (by kernel_rfl)
theorem ti77_ok : TIok Try.prog tb 77 ti77 := TIok_mk (by kernel_rfl) (by kernel_rfl) ⟨rfl, rfl⟩ (by kernel_rfl) rfl trivial trivial (by kernel_rfl)
theorem ti79_ok : TIok Try.prog tb 79 ti79 := TIok_mk (by kernel_rfl) (by kernel_rfl) ⟨rfl, rfl⟩ (by kernel_rfl) rfl trivial trivial (by kernel_rfl)
theorem ti81_ok : TIok Try.prog tb 81 ti81 := TIok_mk (by kernel_rfl) (by kernel_rfl) ⟨rfl, rfl⟩ (by kernel_rfl) rfl trivial trivial (by kernel_rfl)
theorem ti83_ok : TIok Try.prog tb 83 ti83 := TIok_mk (by kernel_rfl) (by kernel_rfl) ⟨rfl, rfl⟩ (by kernel_rfl) rfl trivial trivial (by kernel_rfl)
theorem ti87_ok : TIok Try.prog tb 87 ti87 := TIok_mk (by kernel_rfl) (by kernel_rfl) trivial (by kernel_rfl) rfl trivial trivial (by kernel_rfl)
theorem ti89_ok : TIok Try.prog tb 89 ti89 := TIok_mk (by kernel_rfl) (by kernel_rfl) ⟨rfl, rfl⟩ (by kernel_rfl) rfl trivial trivial (by kernel_rfl)
theorem ti107_ok : TIok Try.prog tb 107 ti107 := TIok_mk (by kernel_rfl) (by kernel_rfl) ⟨rfl, rfl⟩ (by kernel_rfl) rfl trivial trivial (by kernel_rfl)
theorem ti115_ok : TIok Try.prog tb 115 ti115 := TIok_mk (by kernel_rfl) (by kernel_rfl) ⟨rfl, rfl⟩ (by kernel_rfl) rfl trivial trivial (by kernel_rfl)
theorem ti118_ok : TIok Try.prog tb 118 ti118 := TIok_mk (by kernel_rfl) (by kernel_rfl) trivial (by kernel_rfl) rfl trivial trivial (by kernel_rfl)
theorem ti121_ok : TIok Try.prog tb 121 ti121 := TIok_mk (by kernel_rfl) (by kernel_rfl) ⟨rfl, rfl⟩ (by kernel_rfl) rfl trivial trivial (by kernel_rfl)
theorem ti122_ok : TIok Try.prog tb 122 ti122 := TIok_mk (by kernel_rfl) (by kernel_rfl) ⟨rfl, rfl⟩ (by kernel_rfl) rfl trivial trivial (by kernel_rfl)
theorem ti123_ok : TIok Try.prog tb 123 ti123 := TIok_mk (by kernel_rfl) (by kernel_rfl) ⟨rfl, rfl⟩ (by kernel_rfl) rfl trivial trivial (by kernel_rfl)
theorem ti130_ok : TIok Try.prog tb 130 ti130 := TIok_mk (by kernel_rfl) (by kernel_rfl) ⟨rfl, rfl⟩ (by kernel_rfl) rfl trivial trivial (by kernel_rfl)
theorem ti141_ok : TIok Try.prog tb 141 ti141 := TIok_mk (by kernel_rfl) (by kernel_rfl) ⟨rfl, rfl⟩ (by kernel_rfl) rfl trivial trivial (by kernel_rfl)
theorem ti145_ok : TIok Try.prog tb 145 ti145 := TIok_mk (by kernel_rfl) (by kernel_rfl) trivial (by kernel_rfl) rfl trivial trivial (by kernel_rfl)
theorem ti147_ok : TIok Try.prog tb 147 ti147 := TIok_mk (by kernel_rfl) (by kernel_rfl) trivial (by kernel_rfl) rfl trivial trivial (by kernel_rfl)
theorem tb_ok : TabOk Try.prog tb := TT.ok ⟨ti67_ok, ⟨ti29_ok, ⟨ti22_ok, ⟨ti5_ok, ⟨ti4_ok, ⟨ti3_ok, trivial, trivial⟩, trivial⟩, ⟨ti9_ok, trivial, trivial⟩⟩, ⟨ti26_ok, ⟨ti24_ok, ⟨ti23_ok, trivial, trivial⟩, trivial⟩, ⟨ti27_ok, trivial, trivial⟩⟩⟩, ⟨ti54_ok, ⟨ti34_ok, ⟨ti33_ok, ⟨ti31_ok, trivial, trivial⟩, trivial⟩, ⟨ti48_ok, trivial, trivial⟩⟩, ⟨ti61_ok, ⟨ti59_ok, ⟨ti56_ok, trivial, trivial⟩, trivial⟩, ⟨ti63_ok, trivial, trivial⟩⟩⟩⟩, ⟨ti107_ok, ⟨ti79_ok, ⟨ti73_ok, ⟨ti71_ok, ⟨ti69_ok, trivial, trivial⟩, trivial⟩, ⟨ti77_ok, trivial, trivial⟩⟩, ⟨ti87_ok, ⟨ti83_ok, ⟨ti81_ok, trivial, trivial⟩, trivial⟩, ⟨ti89_ok, trivial, trivial⟩⟩⟩, ⟨ti123_ok, ⟨ti121_ok, ⟨ti118_ok, ⟨ti115_ok, trivial, trivial⟩, trivial⟩, ⟨ti122_ok, trivial, trivial⟩⟩, ⟨ti145_ok, ⟨ti141_ok, ⟨ti130_ok, trivial, trivial⟩, trivial⟩, ⟨ti147_ok, trivial, trivial⟩⟩⟩⟩⟩
theorem fo {f : Nat} {D : DFn} (hD : DOk Try.prog tb f D) (h : D.Fit) : FnOk Try.prog f D := FnOk_of tb_ok (Checked.mixed Try.checked) hD h
def Q5.as : List MK := []
def Q5.rs : List (Bool × HT) := [(true, (.prod (.d .str) (.prod (.d tI) (.prod (.d tI) (.prod (.own 61 qb) (.prod (.own 3 tI) (.prod (.d .bool) (.prod (.d .bool) (.prod (.own 63 qe) (.d qc))))))))))]
def Q5.lc : List AC := []
def Q5.D : DFn := ⟨Q5.as, Q5.rs, TRules, fun x => Q5 N, fun r o => r.1, fun b => (b, ()), fun b => (), none⟩
theorem Q5.fit : (Q5.D N).Fit := ⟨fun _ _ => rfl, fun _ _ => rfl, by kernel_rfl, (fun _ _ h => nomatch h), by kernel_rfl⟩
noncomputable def Q5.G (N : Nat) : Gam := gamOf []
def Q5.A : LA := fun _ => none
noncomputable def Q5.fin : St → Option TRules := resK tb Try.f5.results.toList (decRes (Q5.D N) Q5.lc)
theorem Q5.entry (rec : RK TRules) (x : (argH Q5.as).den) : seg tb (Q5.G N) Q5.A 0 rec (Q5.fin N) segFuel [.code (bodyOf Try.f5)] (initSt Try.f5 (encArgs Q5.as x) (encMem Q5.as x)) = Q5.e N := by kernel_rfl
theorem Q5.ok : FnOk Try.prog 5 (Q5.D N) := by
 refine fo ⟨Try.f5, Try.func5, by kernel_rfl, by kernel_rfl, fun x y h => ⟨Q5.G N, Q5.A, N, gamOf_ok (fun p hp => nomatch hp), ?_⟩⟩ (Q5.fit N)
 rw [absFn_n (n0 := 0) rfl (by kernel_rfl)]
 exact (Q5.entry N _ x).trans h
def Q6.as : List MK := []
def Q6.rs : List (Bool × HT) := [(true, (.prod (.own 3 tI) (.prod (.prod (.own 3 tI) (.own 3 tI)) (.d (.prod tI tI)))))]
def Q6.lc : List AC := []
def Q6.D : DFn := ⟨Q6.as, Q6.rs, TPos, fun x => Q6 N, fun r o => r.1, fun b => (b, ()), fun b => (), none⟩
theorem Q6.fit : (Q6.D N).Fit := ⟨fun _ _ => rfl, fun _ _ => rfl, by kernel_rfl, (fun _ _ h => nomatch h), by kernel_rfl⟩
noncomputable def Q6.G (N : Nat) : Gam := gamOf []
def Q6.A : LA := fun _ => none
noncomputable def Q6.fin : St → Option TPos := resK tb Try.f6.results.toList (decRes (Q6.D N) Q6.lc)
theorem Q6.entry (rec : RK TPos) (x : (argH Q6.as).den) : seg tb (Q6.G N) Q6.A 0 rec (Q6.fin N) segFuel [.code (bodyOf Try.f6)] (initSt Try.f6 (encArgs Q6.as x) (encMem Q6.as x)) = Q6.e N := by kernel_rfl
theorem Q6.ok : FnOk Try.prog 6 (Q6.D N) := by
 refine fo ⟨Try.f6, Try.func6, by kernel_rfl, by kernel_rfl, fun x y h => ⟨Q6.G N, Q6.A, N, gamOf_ok (fun p hp => nomatch hp), ?_⟩⟩ (Q6.fit N)
 rw [absFn_n (n0 := 0) rfl (by kernel_rfl)]
 exact (Q6.entry N _ x).trans h
def Q58.as : List MK := [.d false .str]
def Q58.rs : List (Bool × HT) := [(false, (.d .bool))]
def Q58.lc : List AC := []
def Q58.D : DFn := ⟨Q58.as, Q58.rs, Bool, fun x => Q58 N x.1, fun r o => r.1, fun b => (b, ()), fun b => (), none⟩
theorem Q58.fit : (Q58.D N).Fit := ⟨fun _ _ => rfl, fun _ _ => rfl, by kernel_rfl, (fun _ _ h => nomatch h), by kernel_rfl⟩
noncomputable def Q58.G (N : Nat) : Gam := gamOf []
def Q58.A : LA := fun k => bif Nat.beq k 0 then some ⟨[0, 22, 23], [], [], [], [], 0, false⟩ else none
noncomputable def Q58.fin : St → Option Bool := resK tb Try.f58.results.toList (decRes (Q58.D N) Q58.lc)
noncomputable def Q58.k0 : List Item := stackAt [.r, .r, .l, .r, .b] (bodyOf Try.f58) []
def Q58.st0 (s_ : ByteArray) (t23_ : Int) : St := ⟨[.one (.str s_)] ++ rA 21 ++ [oi (s_.size : Int), oi t23_] ++ rA 25, []⟩
theorem Q58.step0 (rec : RK Bool) (s_ : ByteArray) (t23_ : Int) : seg tb (Q58.G N) Q58.A 0 rec (Q58.fin N) segFuel (loopBody Q58.k0) (Q58.st0 s_ t23_) = Q58.s0 N s_ (fun t23_ => rec Q58.k0 (Q58.st0 s_ t23_)) t23_ := by kernel_rfl
theorem Q58.entry (rec : RK Bool) (x : (argH Q58.as).den) : seg tb (Q58.G N) Q58.A 0 rec (Q58.fin N) segFuel [.code (bodyOf Try.f58)] (initSt Try.f58 (encArgs Q58.as x) (encMem Q58.as x)) = Q58.e N (fun t23_ => rec Q58.k0 (Q58.st0 x.1 t23_)) x.1 := by kernel_rfl
theorem Q58.runs (N : Nat) (s_ : ByteArray) : ∀ n, (∀ (t23_ : Int), run tb (Q58.G N) Q58.A 0 (Q58.fin N) n Q58.k0 (Q58.st0 s_ t23_) = Q58.l0 N s_ n t23_)
 | 0 => fun _ => rfl
 | n + 1 => by
  have h0 := Q58.runs N s_ n
  have e0 : (fun (t23_ : Int) => run tb (Q58.G N) Q58.A 0 (Q58.fin N) n Q58.k0 (Q58.st0 s_ t23_)) = Q58.l0 N s_ n := by funext t23_; exact h0 t23_
  have g0 : (∀ (t23_ : Int), run tb (Q58.G N) Q58.A 0 (Q58.fin N) (n + 1) Q58.k0 (Q58.st0 s_ t23_) = Q58.l0 N s_ (n + 1) t23_) := by
   intro t23_
   exact (run_succ (by kernel_rfl)).trans ((Q58.step0 N _ s_ t23_).trans ((congrArg (fun r0 => Q58.s0 N s_ r0 t23_) e0).trans (Q58.l0_s N s_ n t23_).symm))
  exact g0
theorem Q58.ok : FnOk Try.prog 58 (Q58.D N) := by
 refine fo ⟨Try.f58, Try.func58, by kernel_rfl, by kernel_rfl, fun x y h => ⟨Q58.G N, Q58.A, N, gamOf_ok (fun p hp => nomatch hp), ?_⟩⟩ (Q58.fit N)
 rw [absFn_n (n0 := 0) rfl (by kernel_rfl)]
 refine (Q58.entry N (run tb (Q58.G N) Q58.A 0 (Q58.fin N) N) x).trans ?_
 have e0 : (fun (t23_ : Int) => run tb (Q58.G N) Q58.A 0 (Q58.fin N) N Q58.k0 (Q58.st0 x.1 t23_)) = Q58.l0 N x.1 N := by funext t23_; exact (Q58.runs N x.1 N) t23_
 have h' : (Q58.D N).f x = Q58.e N (Q58.l0 N x.1 N) x.1 := by kernel_rfl
 exact (congrArg (fun r0 => Q58.e N r0 x.1) e0).trans (h'.symm.trans h)
def Q71.as : List MK := [.d true (.prod tI qc)]
def Q71.rs : List (Bool × HT) := [(false, (.d tI))]
def Q71.lc : List AC := []
def Q71.D : DFn := ⟨Q71.as, Q71.rs, Int, fun x => Q71 N x.1, fun r o => r.1, fun b => (b, ()), fun b => (), none⟩
theorem Q71.fit : (Q71.D N).Fit := ⟨fun _ _ => rfl, fun _ _ => rfl, by kernel_rfl, (fun _ _ h => nomatch h), by kernel_rfl⟩
noncomputable def Q71.G (N : Nat) : Gam := gamOf []
def Q71.A : LA := fun _ => none
noncomputable def Q71.fin : St → Option Int := resK tb Try.f71.results.toList (decRes (Q71.D N) Q71.lc)
theorem Q71.entry (rec : RK Int) (x : (argH Q71.as).den) : seg tb (Q71.G N) Q71.A 0 rec (Q71.fin N) segFuel [.code (bodyOf Try.f71)] (initSt Try.f71 (encArgs Q71.as x) (encMem Q71.as x)) = Q71.e N x.1 := by kernel_rfl
theorem Q71.ok : FnOk Try.prog 71 (Q71.D N) := by
 refine fo ⟨Try.f71, Try.func71, by kernel_rfl, by kernel_rfl, fun x y h => ⟨Q71.G N, Q71.A, N, gamOf_ok (fun p hp => nomatch hp), ?_⟩⟩ (Q71.fit N)
 rw [absFn_n (n0 := 0) rfl (by kernel_rfl)]
 exact (Q71.entry N _ x).trans h
def Q59.as : List MK := [.d false (.slice 61 qb)]
def Q59.rs : List (Bool × HT) := [(false, (.d tI))]
def Q59.lc : List AC := []
def Q59.D : DFn := ⟨Q59.as, Q59.rs, Int, fun x => Q59 N x.1, fun r o => r.1, fun b => (b, ()), fun b => (), none⟩
theorem Q59.fit : (Q59.D N).Fit := ⟨fun _ _ => rfl, fun _ _ => rfl, by kernel_rfl, (fun _ _ h => nomatch h), by kernel_rfl⟩
noncomputable def Q59.G : Gam := gamOf [(71, Q71.D N)]
def Q59.A : LA := fun k => bif Nat.beq k 1 then some ⟨[0, 18, 19, 20], [], [], [], [], 0, false⟩ else bif Nat.beq k 3 then some ⟨[0, 4, 18, 19, 20, 35, 36, 37], [], [], [], [], 1, false⟩ else bif Nat.beq k 5 then some ⟨[0, 18, 19, 20, 72, 73, 74], [], [], [], [], 0, false⟩ else none
noncomputable def Q59.fin : St → Option Int := resK tb Try.f59.results.toList (decRes (Q59.D N) Q59.lc)
noncomputable def Q59.k0 : List Item := stackAt [.r, .r, .l, .r, .b] (bodyOf Try.f59) []
def Q59.st0 (l_ : (List TPiece)) (t20_ : Int) : St := ⟨[.one (.fro 61 qb l_)] ++ rA 17 ++ [.one (.fro 61 qb l_), oi (l_.length : Int), oi t20_] ++ rA 64, []⟩
noncomputable def Q59.k1 : List Item := stackAt [.r, .r, .l, .r, .b, .w, .r, .r, .l, .b, .r, .r, .l, .r, .b] (bodyOf Try.f59) []
def Q59.st1 (l_ : (List TPiece)) (t20_ : Int) (t35_ : (List TPiece)) (t36_ t37_ p_ p_2 p_3 : Int) (p_4 : (List TWay)) : St := ⟨[.one (.fro 61 qb l_)] ++ rA 3 ++ [.one (.ptr 0 0)] ++ rA 13 ++ [.one (.fro 61 qb l_), oi (l_.length : Int), oi t20_] ++ rA 14 ++ [.one (.fro 61 qb t35_), oi t36_, oi t37_] ++ rA 47, [.var 61 [.int .u8 p_, .int .i64 p_2, .int .i64 p_3, .fro 115 (.prod tI qc) p_4]]⟩
noncomputable def Q59.k2 : List Item := stackAt [.r, .r, .l, .r, .b, .w, .r, .r, .l, .b, .r, .r, .r, .r, .r, .r, .b] (bodyOf Try.f59) []
def Q59.st2 (l_ : (List TPiece)) (t20_ : Int) (t72_ : (List TWay)) (t73_ t74_ : Int) : St := ⟨[.one (.fro 61 qb l_)] ++ rA 17 ++ [.one (.fro 61 qb l_), oi (l_.length : Int), oi t20_] ++ rA 51 ++ [.one (.fro 115 (.prod tI qc) t72_), oi t73_, oi t74_] ++ rA 10, []⟩
theorem Q59.step0 (rec : RK Int) (l_ : (List TPiece)) (t20_ : Int) : seg tb (Q59.G N) Q59.A 0 rec (Q59.fin N) segFuel (loopBody Q59.k0) (Q59.st0 l_ t20_) = Q59.s0 N l_ (fun t20_ => rec Q59.k0 (Q59.st0 l_ t20_)) (fun t20_ t35_ t36_ t37_ p_ p_2 p_3 p_4 => rec Q59.k1 (Q59.st1 l_ t20_ t35_ t36_ t37_ p_ p_2 p_3 p_4)) (fun t20_ t72_ t73_ t74_ => rec Q59.k2 (Q59.st2 l_ t20_ t72_ t73_ t74_)) t20_ := by kernel_rfl
theorem Q59.step1 (rec : RK Int) (l_ : (List TPiece)) (t20_ : Int) (t35_ : (List TPiece)) (t36_ t37_ p_ p_2 p_3 : Int) (p_4 : (List TWay)) : seg tb (Q59.G N) Q59.A 0 rec (Q59.fin N) segFuel (loopBody Q59.k1) (Q59.st1 l_ t20_ t35_ t36_ t37_ p_ p_2 p_3 p_4) = Q59.s1 N l_ (fun t20_ => rec Q59.k0 (Q59.st0 l_ t20_)) (fun t20_ t35_ t36_ t37_ p_ p_2 p_3 p_4 => rec Q59.k1 (Q59.st1 l_ t20_ t35_ t36_ t37_ p_ p_2 p_3 p_4)) (fun t20_ t72_ t73_ t74_ => rec Q59.k2 (Q59.st2 l_ t20_ t72_ t73_ t74_)) t20_ t35_ t36_ t37_ p_ p_2 p_3 p_4 := by kernel_rfl
theorem Q59.step2 (rec : RK Int) (l_ : (List TPiece)) (t20_ : Int) (t72_ : (List TWay)) (t73_ t74_ : Int) : seg tb (Q59.G N) Q59.A 0 rec (Q59.fin N) segFuel (loopBody Q59.k2) (Q59.st2 l_ t20_ t72_ t73_ t74_) = Q59.s2 N l_ (fun t20_ => rec Q59.k0 (Q59.st0 l_ t20_)) (fun t20_ t35_ t36_ t37_ p_ p_2 p_3 p_4 => rec Q59.k1 (Q59.st1 l_ t20_ t35_ t36_ t37_ p_ p_2 p_3 p_4)) (fun t20_ t72_ t73_ t74_ => rec Q59.k2 (Q59.st2 l_ t20_ t72_ t73_ t74_)) t20_ t72_ t73_ t74_ := by kernel_rfl
theorem Q59.entry (rec : RK Int) (x : (argH Q59.as).den) : seg tb (Q59.G N) Q59.A 0 rec (Q59.fin N) segFuel [.code (bodyOf Try.f59)] (initSt Try.f59 (encArgs Q59.as x) (encMem Q59.as x)) = Q59.e N (fun t20_ => rec Q59.k0 (Q59.st0 x.1 t20_)) (fun t20_ t35_ t36_ t37_ p_ p_2 p_3 p_4 => rec Q59.k1 (Q59.st1 x.1 t20_ t35_ t36_ t37_ p_ p_2 p_3 p_4)) (fun t20_ t72_ t73_ t74_ => rec Q59.k2 (Q59.st2 x.1 t20_ t72_ t73_ t74_)) x.1 := by kernel_rfl
theorem Q59.runs (N : Nat) (l_ : (List TPiece)) : ∀ n, (∀ (t20_ : Int), run tb (Q59.G N) Q59.A 0 (Q59.fin N) n Q59.k0 (Q59.st0 l_ t20_) = Q59.l0 N l_ n t20_) ∧ (∀ (t20_ : Int) (t35_ : (List TPiece)) (t36_ t37_ p_ p_2 p_3 : Int) (p_4 : (List TWay)), run tb (Q59.G N) Q59.A 0 (Q59.fin N) n Q59.k1 (Q59.st1 l_ t20_ t35_ t36_ t37_ p_ p_2 p_3 p_4) = Q59.l1 N l_ n t20_ t35_ t36_ t37_ p_ p_2 p_3 p_4) ∧ (∀ (t20_ : Int) (t72_ : (List TWay)) (t73_ t74_ : Int), run tb (Q59.G N) Q59.A 0 (Q59.fin N) n Q59.k2 (Q59.st2 l_ t20_ t72_ t73_ t74_) = Q59.l2 N l_ n t20_ t72_ t73_ t74_)
 | 0 => ⟨fun _ => rfl, fun _ _ _ _ _ _ _ _ => rfl, fun _ _ _ _ => rfl⟩
 | n + 1 => by
  obtain ⟨h0, h1, h2⟩ := Q59.runs N l_ n
  have e0 : (fun (t20_ : Int) => run tb (Q59.G N) Q59.A 0 (Q59.fin N) n Q59.k0 (Q59.st0 l_ t20_)) = Q59.l0 N l_ n := by funext t20_; exact h0 t20_
  have e1 : (fun (t20_ : Int) (t35_ : (List TPiece)) (t36_ t37_ p_ p_2 p_3 : Int) (p_4 : (List TWay)) => run tb (Q59.G N) Q59.A 0 (Q59.fin N) n Q59.k1 (Q59.st1 l_ t20_ t35_ t36_ t37_ p_ p_2 p_3 p_4)) = Q59.l1 N l_ n := by funext t20_ t35_ t36_ t37_ p_ p_2 p_3 p_4; exact h1 t20_ t35_ t36_ t37_ p_ p_2 p_3 p_4
  have e2 : (fun (t20_ : Int) (t72_ : (List TWay)) (t73_ t74_ : Int) => run tb (Q59.G N) Q59.A 0 (Q59.fin N) n Q59.k2 (Q59.st2 l_ t20_ t72_ t73_ t74_)) = Q59.l2 N l_ n := by funext t20_ t72_ t73_ t74_; exact h2 t20_ t72_ t73_ t74_
  have g0 : (∀ (t20_ : Int), run tb (Q59.G N) Q59.A 0 (Q59.fin N) (n + 1) Q59.k0 (Q59.st0 l_ t20_) = Q59.l0 N l_ (n + 1) t20_) := by
   intro t20_
   exact (run_succ (by kernel_rfl)).trans ((Q59.step0 N _ l_ t20_).trans ((congr (congr (congrArg (fun r0 r1 r2 => Q59.s0 N l_ r0 r1 r2 t20_) e0) e1) e2).trans (Q59.l0_s N l_ n t20_).symm))
  have g1 : (∀ (t20_ : Int) (t35_ : (List TPiece)) (t36_ t37_ p_ p_2 p_3 : Int) (p_4 : (List TWay)), run tb (Q59.G N) Q59.A 0 (Q59.fin N) (n + 1) Q59.k1 (Q59.st1 l_ t20_ t35_ t36_ t37_ p_ p_2 p_3 p_4) = Q59.l1 N l_ (n + 1) t20_ t35_ t36_ t37_ p_ p_2 p_3 p_4) := by
   intro t20_ t35_ t36_ t37_ p_ p_2 p_3 p_4
   exact (run_succ (by kernel_rfl)).trans ((Q59.step1 N _ l_ t20_ t35_ t36_ t37_ p_ p_2 p_3 p_4).trans ((congr (congr (congrArg (fun r0 r1 r2 => Q59.s1 N l_ r0 r1 r2 t20_ t35_ t36_ t37_ p_ p_2 p_3 p_4) e0) e1) e2).trans (Q59.l1_s N l_ n t20_ t35_ t36_ t37_ p_ p_2 p_3 p_4).symm))
  have g2 : (∀ (t20_ : Int) (t72_ : (List TWay)) (t73_ t74_ : Int), run tb (Q59.G N) Q59.A 0 (Q59.fin N) (n + 1) Q59.k2 (Q59.st2 l_ t20_ t72_ t73_ t74_) = Q59.l2 N l_ (n + 1) t20_ t72_ t73_ t74_) := by
   intro t20_ t72_ t73_ t74_
   exact (run_succ (by kernel_rfl)).trans ((Q59.step2 N _ l_ t20_ t72_ t73_ t74_).trans ((congr (congr (congrArg (fun r0 r1 r2 => Q59.s2 N l_ r0 r1 r2 t20_ t72_ t73_ t74_) e0) e1) e2).trans (Q59.l2_s N l_ n t20_ t72_ t73_ t74_).symm))
  exact ⟨g0, g1, g2⟩
theorem Q59.ok : FnOk Try.prog 59 (Q59.D N) := by
 refine fo ⟨Try.f59, Try.func59, by kernel_rfl, by kernel_rfl, fun x y h => ⟨Q59.G N, Q59.A, N, gamOf_ok (gc ⟨Q71.ok N, Q71.fit N⟩ gn), ?_⟩⟩ (Q59.fit N)
 rw [absFn_n (n0 := 0) rfl (by kernel_rfl)]
 refine (Q59.entry N (run tb (Q59.G N) Q59.A 0 (Q59.fin N) N) x).trans ?_
 have e0 : (fun (t20_ : Int) => run tb (Q59.G N) Q59.A 0 (Q59.fin N) N Q59.k0 (Q59.st0 x.1 t20_)) = Q59.l0 N x.1 N := by funext t20_; exact (Q59.runs N x.1 N).1 t20_
 have e1 : (fun (t20_ : Int) (t35_ : (List TPiece)) (t36_ t37_ p_ p_2 p_3 : Int) (p_4 : (List TWay)) => run tb (Q59.G N) Q59.A 0 (Q59.fin N) N Q59.k1 (Q59.st1 x.1 t20_ t35_ t36_ t37_ p_ p_2 p_3 p_4)) = Q59.l1 N x.1 N := by funext t20_ t35_ t36_ t37_ p_ p_2 p_3 p_4; exact (Q59.runs N x.1 N).2.1 t20_ t35_ t36_ t37_ p_ p_2 p_3 p_4
 have e2 : (fun (t20_ : Int) (t72_ : (List TWay)) (t73_ t74_ : Int) => run tb (Q59.G N) Q59.A 0 (Q59.fin N) N Q59.k2 (Q59.st2 x.1 t20_ t72_ t73_ t74_)) = Q59.l2 N x.1 N := by funext t20_ t72_ t73_ t74_; exact (Q59.runs N x.1 N).2.2 t20_ t72_ t73_ t74_
 have h' : (Q59.D N).f x = Q59.e N (Q59.l0 N x.1 N) (Q59.l1 N x.1 N) (Q59.l2 N x.1 N) x.1 := by kernel_rfl
 exact (congr (congr (congrArg (fun r0 r1 r2 => Q59.e N r0 r1 r2 x.1) e0) e1) e2).trans (h'.symm.trans h)
def Q60.as : List MK := [.d true qe, .d false tI]
def Q60.rs : List (Bool × HT) := [(false, (.d tI))]
def Q60.lc : List AC := []
def Q60.D : DFn := ⟨Q60.as, Q60.rs, Int, fun x => Q60 N x.1 x.2.1, fun r o => r.1, fun b => (b, ()), fun b => (), none⟩
theorem Q60.fit : (Q60.D N).Fit := ⟨fun _ _ => rfl, fun _ _ => rfl, by kernel_rfl, (fun _ _ h => nomatch h), by kernel_rfl⟩
noncomputable def Q60.G (N : Nat) : Gam := gamOf []
def Q60.A : LA := fun _ => none
noncomputable def Q60.fin : St → Option Int := resK tb Try.f60.results.toList (decRes (Q60.D N) Q60.lc)
theorem Q60.entry (rec : RK Int) (x : (argH Q60.as).den) : seg tb (Q60.G N) Q60.A 0 rec (Q60.fin N) segFuel [.code (bodyOf Try.f60)] (initSt Try.f60 (encArgs Q60.as x) (encMem Q60.as x)) = Q60.e N x.1 x.2.1 := by kernel_rfl
theorem Q60.ok : FnOk Try.prog 60 (Q60.D N) := by
 refine fo ⟨Try.f60, Try.func60, by kernel_rfl, by kernel_rfl, fun x y h => ⟨Q60.G N, Q60.A, N, gamOf_ok (fun p hp => nomatch hp), ?_⟩⟩ (Q60.fit N)
 rw [absFn_n (n0 := 0) rfl (by kernel_rfl)]
 exact (Q60.entry N _ x).trans h
def Q43.as : List MK := [.d true qa]
def Q43.rs : List (Bool × HT) := [(false, (.d tI))]
def Q43.lc : List AC := []
def Q43.D : DFn := ⟨Q43.as, Q43.rs, Int, fun x => Q43 N x.1, fun r o => r.1, fun b => (b, ()), fun b => (), none⟩
theorem Q43.fit : (Q43.D N).Fit := ⟨fun _ _ => rfl, fun _ _ => rfl, by kernel_rfl, (fun _ _ h => nomatch h), by kernel_rfl⟩
noncomputable def Q43.G : Gam := gamOf [(58, Q58.D N), (59, Q59.D N), (60, Q60.D N)]
def Q43.A : LA := fun k => bif Nat.beq k 1 then some ⟨[1, 49, 50, 51], [], [], [], [], 1, false⟩ else bif Nat.beq k 3 then some ⟨[1, 71, 72, 73], [], [], [], [], 1, false⟩ else none
noncomputable def Q43.fin : St → Option Int := resK tb Try.f43.results.toList (decRes (Q43.D N) Q43.lc)
noncomputable def Q43.k0 : List Item := stackAt [.r, .r, .r, .r, .l, .r, .b] (bodyOf Try.f43) []
def Q43.st0 (r_ : TRules) (t50_ t51_ : Int) : St := ⟨[oA, .one (.ptr 0 0)] ++ rA 47 ++ [.one (.fro 3 tI r_.2.2.2.2.1), oi t50_, oi t51_] ++ rA 67, [vR r_]⟩
noncomputable def Q43.k1 : List Item := stackAt [.r, .r, .r, .r, .r, .r, .l, .r, .b] (bodyOf Try.f43) []
def Q43.st1 (r_ : TRules) (t72_ t73_ : Int) : St := ⟨[oA, .one (.ptr 0 0)] ++ rA 69 ++ [.one (.fro 63 qe r_.2.2.2.2.2.2.2.1), oi t72_, oi t73_] ++ rA 45, [vR r_]⟩
theorem Q43.step0 (rec : RK Int) (r_ : TRules) (t50_ t51_ : Int) : seg tb (Q43.G N) Q43.A 0 rec (Q43.fin N) segFuel (loopBody Q43.k0) (Q43.st0 r_ t50_ t51_) = Q43.s0 N r_ (fun t50_ t51_ => rec Q43.k0 (Q43.st0 r_ t50_ t51_)) (fun t72_ t73_ => rec Q43.k1 (Q43.st1 r_ t72_ t73_)) t50_ t51_ := by kernel_rfl
theorem Q43.step1 (rec : RK Int) (r_ : TRules) (t72_ t73_ : Int) : seg tb (Q43.G N) Q43.A 0 rec (Q43.fin N) segFuel (loopBody Q43.k1) (Q43.st1 r_ t72_ t73_) = Q43.s1 N r_ (fun t50_ t51_ => rec Q43.k0 (Q43.st0 r_ t50_ t51_)) (fun t72_ t73_ => rec Q43.k1 (Q43.st1 r_ t72_ t73_)) t72_ t73_ := by kernel_rfl
theorem Q43.entry (rec : RK Int) (x : (argH Q43.as).den) : seg tb (Q43.G N) Q43.A 0 rec (Q43.fin N) segFuel [.code (bodyOf Try.f43)] (initSt Try.f43 (encArgs Q43.as x) (encMem Q43.as x)) = Q43.e N (fun t50_ t51_ => rec Q43.k0 (Q43.st0 x.1 t50_ t51_)) (fun t72_ t73_ => rec Q43.k1 (Q43.st1 x.1 t72_ t73_)) x.1 := by kernel_rfl
theorem Q43.runs (N : Nat) (r_ : TRules) : ∀ n, (∀ (t50_ t51_ : Int), run tb (Q43.G N) Q43.A 0 (Q43.fin N) n Q43.k0 (Q43.st0 r_ t50_ t51_) = Q43.l0 N r_ n t50_ t51_) ∧ (∀ (t72_ t73_ : Int), run tb (Q43.G N) Q43.A 0 (Q43.fin N) n Q43.k1 (Q43.st1 r_ t72_ t73_) = Q43.l1 N r_ n t72_ t73_)
 | 0 => ⟨fun _ _ => rfl, fun _ _ => rfl⟩
 | n + 1 => by
  obtain ⟨h0, h1⟩ := Q43.runs N r_ n
  have e0 : (fun (t50_ t51_ : Int) => run tb (Q43.G N) Q43.A 0 (Q43.fin N) n Q43.k0 (Q43.st0 r_ t50_ t51_)) = Q43.l0 N r_ n := by funext t50_ t51_; exact h0 t50_ t51_
  have e1 : (fun (t72_ t73_ : Int) => run tb (Q43.G N) Q43.A 0 (Q43.fin N) n Q43.k1 (Q43.st1 r_ t72_ t73_)) = Q43.l1 N r_ n := by funext t72_ t73_; exact h1 t72_ t73_
  have g0 : (∀ (t50_ t51_ : Int), run tb (Q43.G N) Q43.A 0 (Q43.fin N) (n + 1) Q43.k0 (Q43.st0 r_ t50_ t51_) = Q43.l0 N r_ (n + 1) t50_ t51_) := by
   intro t50_ t51_
   exact (run_succ (by kernel_rfl)).trans ((Q43.step0 N _ r_ t50_ t51_).trans ((congr (congrArg (fun r0 r1 => Q43.s0 N r_ r0 r1 t50_ t51_) e0) e1).trans (Q43.l0_s N r_ n t50_ t51_).symm))
  have g1 : (∀ (t72_ t73_ : Int), run tb (Q43.G N) Q43.A 0 (Q43.fin N) (n + 1) Q43.k1 (Q43.st1 r_ t72_ t73_) = Q43.l1 N r_ (n + 1) t72_ t73_) := by
   intro t72_ t73_
   exact (run_succ (by kernel_rfl)).trans ((Q43.step1 N _ r_ t72_ t73_).trans ((congr (congrArg (fun r0 r1 => Q43.s1 N r_ r0 r1 t72_ t73_) e0) e1).trans (Q43.l1_s N r_ n t72_ t73_).symm))
  exact ⟨g0, g1⟩
theorem Q43.ok : FnOk Try.prog 43 (Q43.D N) := by
 refine fo ⟨Try.f43, Try.func43, by kernel_rfl, by kernel_rfl, fun x y h => ⟨Q43.G N, Q43.A, N, gamOf_ok (gc ⟨Q58.ok N, Q58.fit N⟩ (gc ⟨Q59.ok N, Q59.fit N⟩ (gc ⟨Q60.ok N, Q60.fit N⟩ gn))), ?_⟩⟩ (Q43.fit N)
 rw [absFn_n (n0 := 0) rfl (by kernel_rfl)]
 refine (Q43.entry N (run tb (Q43.G N) Q43.A 0 (Q43.fin N) N) x).trans ?_
 have e0 : (fun (t50_ t51_ : Int) => run tb (Q43.G N) Q43.A 0 (Q43.fin N) N Q43.k0 (Q43.st0 x.1 t50_ t51_)) = Q43.l0 N x.1 N := by funext t50_ t51_; exact (Q43.runs N x.1 N).1 t50_ t51_
 have e1 : (fun (t72_ t73_ : Int) => run tb (Q43.G N) Q43.A 0 (Q43.fin N) N Q43.k1 (Q43.st1 x.1 t72_ t73_)) = Q43.l1 N x.1 N := by funext t72_ t73_; exact (Q43.runs N x.1 N).2 t72_ t73_
 have h' : (Q43.D N).f x = Q43.e N (Q43.l0 N x.1 N) (Q43.l1 N x.1 N) x.1 := by kernel_rfl
 exact (congr (congrArg (fun r0 r1 => Q43.e N r0 r1 x.1) e0) e1).trans (h'.symm.trans h)
def Q27.as : List MK := [.d true qa, .d true qd]
def Q27.rs : List (Bool × HT) := [(false, (.d tI))]
def Q27.lc : List AC := []
def Q27.D : DFn := ⟨Q27.as, Q27.rs, Int, fun x => Q27 N x.1 x.2.1, fun r o => r.1, fun b => (b, ()), fun b => (), none⟩
theorem Q27.fit : (Q27.D N).Fit := ⟨fun _ _ => rfl, fun _ _ => rfl, by kernel_rfl, (fun _ _ h => nomatch h), by kernel_rfl⟩
noncomputable def Q27.G : Gam := gamOf [(43, Q43.D N)]
def Q27.A : LA := fun k => bif Nat.beq k 0 then some ⟨[2, 3, 47, 48, 49], [], [], [], [], 2, false⟩ else bif Nat.beq k 2 then some ⟨[3, 65, 66], [], [], [], [0], 2, false⟩ else bif Nat.beq k 4 then some ⟨[3, 65, 66, 69, 70, 71], [], [], [], [], 2, false⟩ else none
noncomputable def Q27.fin : St → Option Int := resK tb Try.f27.results.toList (decRes (Q27.D N) Q27.lc)
noncomputable def Q27.k0 : List Item := stackAt [.r, .r, .r, .l, .r, .b] (bodyOf Try.f27) []
def Q27.st0 (r_ : TRules) (p_ : TPos) (t49_ : Int) : St := ⟨[oA, oA, .one (.ptr 0 0), .one (.ptr 1 0)] ++ rA 43 ++ [.one (.fro 3 tI p_.1), oi (p_.1.length : Int), oi t49_] ++ rA 51, [vR r_, vP p_]⟩
noncomputable def Q27.k1 : List Item := stackAt [.r, .r, .r, .r, .l, .r, .b] (bodyOf Try.f27) []
def Q27.st1 (r_ : TRules) (p_ : TPos) (t66_ : Int) : St := ⟨rA 3 ++ [.one (.ptr 1 0)] ++ rA 61 ++ [.agg [.fro 3 tI p_.2.1.1, .fro 3 tI p_.2.1.2], oi t66_] ++ rA 34, [.gone, vP p_]⟩
noncomputable def Q27.k2 : List Item := stackAt [.r, .r, .r, .r, .l, .r, .b, .w, .r, .r, .l, .b, .r, .r, .b] (bodyOf Try.f27) []
def Q27.st2 (r_ : TRules) (p_ : TPos) (t66_ : Int) (t69_ : LInt) (t70_ t71_ : Int) : St := ⟨rA 3 ++ [.one (.ptr 1 0)] ++ rA 61 ++ [.agg [.fro 3 tI p_.2.1.1, .fro 3 tI p_.2.1.2], oi t66_, oA, oA, .one (.fro 3 tI t69_), oi t70_, oi t71_] ++ rA 29, [.gone, vP p_]⟩
theorem Q27.step0 (rec : RK Int) (r_ : TRules) (p_ : TPos) (t49_ : Int) : seg tb (Q27.G N) Q27.A 0 rec (Q27.fin N) segFuel (loopBody Q27.k0) (Q27.st0 r_ p_ t49_) = Q27.s0 N r_ p_ (fun t49_ => rec Q27.k0 (Q27.st0 r_ p_ t49_)) (fun t66_ => rec Q27.k1 (Q27.st1 r_ p_ t66_)) (fun t66_ t69_ t70_ t71_ => rec Q27.k2 (Q27.st2 r_ p_ t66_ t69_ t70_ t71_)) t49_ := by kernel_rfl
theorem Q27.step1 (rec : RK Int) (r_ : TRules) (p_ : TPos) (t66_ : Int) : seg tb (Q27.G N) Q27.A 0 rec (Q27.fin N) segFuel (loopBody Q27.k1) (Q27.st1 r_ p_ t66_) = Q27.s1 N r_ p_ (fun t49_ => rec Q27.k0 (Q27.st0 r_ p_ t49_)) (fun t66_ => rec Q27.k1 (Q27.st1 r_ p_ t66_)) (fun t66_ t69_ t70_ t71_ => rec Q27.k2 (Q27.st2 r_ p_ t66_ t69_ t70_ t71_)) t66_ := by kernel_rfl
theorem Q27.step2 (rec : RK Int) (r_ : TRules) (p_ : TPos) (t66_ : Int) (t69_ : LInt) (t70_ t71_ : Int) : seg tb (Q27.G N) Q27.A 0 rec (Q27.fin N) segFuel (loopBody Q27.k2) (Q27.st2 r_ p_ t66_ t69_ t70_ t71_) = Q27.s2 N r_ p_ (fun t49_ => rec Q27.k0 (Q27.st0 r_ p_ t49_)) (fun t66_ => rec Q27.k1 (Q27.st1 r_ p_ t66_)) (fun t66_ t69_ t70_ t71_ => rec Q27.k2 (Q27.st2 r_ p_ t66_ t69_ t70_ t71_)) t66_ t69_ t70_ t71_ := by kernel_rfl
theorem Q27.entry (rec : RK Int) (x : (argH Q27.as).den) : seg tb (Q27.G N) Q27.A 0 rec (Q27.fin N) segFuel [.code (bodyOf Try.f27)] (initSt Try.f27 (encArgs Q27.as x) (encMem Q27.as x)) = Q27.e N (fun t49_ => rec Q27.k0 (Q27.st0 x.1 x.2.1 t49_)) (fun t66_ => rec Q27.k1 (Q27.st1 x.1 x.2.1 t66_)) (fun t66_ t69_ t70_ t71_ => rec Q27.k2 (Q27.st2 x.1 x.2.1 t66_ t69_ t70_ t71_)) x.1 x.2.1 := by kernel_rfl
theorem Q27.runs (N : Nat) (r_ : TRules) (p_ : TPos) : ∀ n, (∀ (t49_ : Int), run tb (Q27.G N) Q27.A 0 (Q27.fin N) n Q27.k0 (Q27.st0 r_ p_ t49_) = Q27.l0 N r_ p_ n t49_) ∧ (∀ (t66_ : Int), run tb (Q27.G N) Q27.A 0 (Q27.fin N) n Q27.k1 (Q27.st1 r_ p_ t66_) = Q27.l1 N r_ p_ n t66_) ∧ (∀ (t66_ : Int) (t69_ : LInt) (t70_ t71_ : Int), run tb (Q27.G N) Q27.A 0 (Q27.fin N) n Q27.k2 (Q27.st2 r_ p_ t66_ t69_ t70_ t71_) = Q27.l2 N r_ p_ n t66_ t69_ t70_ t71_)
 | 0 => ⟨fun _ => rfl, fun _ => rfl, fun _ _ _ _ => rfl⟩
 | n + 1 => by
  obtain ⟨h0, h1, h2⟩ := Q27.runs N r_ p_ n
  have e0 : (fun (t49_ : Int) => run tb (Q27.G N) Q27.A 0 (Q27.fin N) n Q27.k0 (Q27.st0 r_ p_ t49_)) = Q27.l0 N r_ p_ n := by funext t49_; exact h0 t49_
  have e1 : (fun (t66_ : Int) => run tb (Q27.G N) Q27.A 0 (Q27.fin N) n Q27.k1 (Q27.st1 r_ p_ t66_)) = Q27.l1 N r_ p_ n := by funext t66_; exact h1 t66_
  have e2 : (fun (t66_ : Int) (t69_ : LInt) (t70_ t71_ : Int) => run tb (Q27.G N) Q27.A 0 (Q27.fin N) n Q27.k2 (Q27.st2 r_ p_ t66_ t69_ t70_ t71_)) = Q27.l2 N r_ p_ n := by funext t66_ t69_ t70_ t71_; exact h2 t66_ t69_ t70_ t71_
  have g0 : (∀ (t49_ : Int), run tb (Q27.G N) Q27.A 0 (Q27.fin N) (n + 1) Q27.k0 (Q27.st0 r_ p_ t49_) = Q27.l0 N r_ p_ (n + 1) t49_) := by
   intro t49_
   exact (run_succ (by kernel_rfl)).trans ((Q27.step0 N _ r_ p_ t49_).trans ((congr (congr (congrArg (fun r0 r1 r2 => Q27.s0 N r_ p_ r0 r1 r2 t49_) e0) e1) e2).trans (Q27.l0_s N r_ p_ n t49_).symm))
  have g1 : (∀ (t66_ : Int), run tb (Q27.G N) Q27.A 0 (Q27.fin N) (n + 1) Q27.k1 (Q27.st1 r_ p_ t66_) = Q27.l1 N r_ p_ (n + 1) t66_) := by
   intro t66_
   exact (run_succ (by kernel_rfl)).trans ((Q27.step1 N _ r_ p_ t66_).trans ((congr (congr (congrArg (fun r0 r1 r2 => Q27.s1 N r_ p_ r0 r1 r2 t66_) e0) e1) e2).trans (Q27.l1_s N r_ p_ n t66_).symm))
  have g2 : (∀ (t66_ : Int) (t69_ : LInt) (t70_ t71_ : Int), run tb (Q27.G N) Q27.A 0 (Q27.fin N) (n + 1) Q27.k2 (Q27.st2 r_ p_ t66_ t69_ t70_ t71_) = Q27.l2 N r_ p_ (n + 1) t66_ t69_ t70_ t71_) := by
   intro t66_ t69_ t70_ t71_
   exact (run_succ (by kernel_rfl)).trans ((Q27.step2 N _ r_ p_ t66_ t69_ t70_ t71_).trans ((congr (congr (congrArg (fun r0 r1 r2 => Q27.s2 N r_ p_ r0 r1 r2 t66_ t69_ t70_ t71_) e0) e1) e2).trans (Q27.l2_s N r_ p_ n t66_ t69_ t70_ t71_).symm))
  exact ⟨g0, g1, g2⟩
theorem Q27.ok : FnOk Try.prog 27 (Q27.D N) := by
 refine fo ⟨Try.f27, Try.func27, by kernel_rfl, by kernel_rfl, fun x y h => ⟨Q27.G N, Q27.A, N, gamOf_ok (gc ⟨Q43.ok N, Q43.fit N⟩ gn), ?_⟩⟩ (Q27.fit N)
 rw [absFn_n (n0 := 0) rfl (by kernel_rfl)]
 refine (Q27.entry N (run tb (Q27.G N) Q27.A 0 (Q27.fin N) N) x).trans ?_
 have e0 : (fun (t49_ : Int) => run tb (Q27.G N) Q27.A 0 (Q27.fin N) N Q27.k0 (Q27.st0 x.1 x.2.1 t49_)) = Q27.l0 N x.1 x.2.1 N := by funext t49_; exact (Q27.runs N x.1 x.2.1 N).1 t49_
 have e1 : (fun (t66_ : Int) => run tb (Q27.G N) Q27.A 0 (Q27.fin N) N Q27.k1 (Q27.st1 x.1 x.2.1 t66_)) = Q27.l1 N x.1 x.2.1 N := by funext t66_; exact (Q27.runs N x.1 x.2.1 N).2.1 t66_
 have e2 : (fun (t66_ : Int) (t69_ : LInt) (t70_ t71_ : Int) => run tb (Q27.G N) Q27.A 0 (Q27.fin N) N Q27.k2 (Q27.st2 x.1 x.2.1 t66_ t69_ t70_ t71_)) = Q27.l2 N x.1 x.2.1 N := by funext t66_ t69_ t70_ t71_; exact (Q27.runs N x.1 x.2.1 N).2.2 t66_ t69_ t70_ t71_
 have h' : (Q27.D N).f x = Q27.e N (Q27.l0 N x.1 x.2.1 N) (Q27.l1 N x.1 x.2.1 N) (Q27.l2 N x.1 x.2.1 N) x.1 x.2.1 := by kernel_rfl
 exact (congr (congr (congrArg (fun r0 r1 r2 => Q27.e N r0 r1 r2 x.1 x.2.1) e0) e1) e2).trans (h'.symm.trans h)
def Q28.as : List MK := [.d true qa]
def Q28.rs : List (Bool × HT) := [(true, (.prod (.d .str) (.prod (.d tI) (.prod (.d tI) (.prod (.own 61 qb) (.prod (.own 3 tI) (.prod (.d .bool) (.prod (.d .bool) (.prod (.own 63 qe) (.d qc))))))))))]
def Q28.lc : List AC := []
def Q28.D : DFn := ⟨Q28.as, Q28.rs, TRules, fun x => Q28 N x.1, fun r o => r.1, fun b => (b, ()), fun b => (), none⟩
theorem Q28.fit : (Q28.D N).Fit := ⟨fun _ _ => rfl, fun _ _ => rfl, by kernel_rfl, (fun _ _ h => nomatch h), by kernel_rfl⟩
noncomputable def Q28.G (N : Nat) : Gam := gamOf []
def Q28.A : LA := fun k => bif Nat.beq k 0 then some ⟨[1, 2, 3, 13, 14, 15], [], [], [], [], 4, false⟩ else none
noncomputable def Q28.fin : St → Option TRules := resK tb Try.f28.results.toList (decRes (Q28.D N) Q28.lc)
noncomputable def Q28.k0 : List Item := stackAt [.r, .r, .r, .l, .r, .b] (bodyOf Try.f28) []
def Q28.st0 (r_ : TRules) (t14_ t15_ : Int) (m3_ : (List TPiece)) : St := ⟨[oA, .one (.ptr 0 0), .one (.ptr 1 0), .one (.ptr 2 0)] ++ rA 9 ++ [.one (.fro 61 qb r_.2.2.2.1), oi t14_, oi t15_] ++ rA 23, [vR r_, .var 26 [.str (⟨#[]⟩ : ByteArray), .int .i64 0, .int .i64 0, .nilS, .nilS, .bool false, .bool false, .nilS, .int .i64 0, .int .i64 0, .int .i64 0], .var 26 [.str r_.1, .int .i64 r_.2.1, .int .i64 r_.2.2.1, .own 3, .fro 3 tI r_.2.2.2.2.1, .bool r_.2.2.2.2.2.1, .bool r_.2.2.2.2.2.2.1, .fro 63 qe r_.2.2.2.2.2.2.2.1, .int .i64 r_.2.2.2.2.2.2.2.2.1, .int .i64 r_.2.2.2.2.2.2.2.2.2.1, .int .i64 r_.2.2.2.2.2.2.2.2.2.2], .row 61 qb m3_]⟩
theorem Q28.step0 (rec : RK TRules) (r_ : TRules) (t14_ t15_ : Int) (m3_ : (List TPiece)) : seg tb (Q28.G N) Q28.A 0 rec (Q28.fin N) segFuel (loopBody Q28.k0) (Q28.st0 r_ t14_ t15_ m3_) = Q28.s0 N r_ (fun t14_ t15_ m3_ => rec Q28.k0 (Q28.st0 r_ t14_ t15_ m3_)) t14_ t15_ m3_ := by kernel_rfl
theorem Q28.entry (rec : RK TRules) (x : (argH Q28.as).den) : seg tb (Q28.G N) Q28.A 0 rec (Q28.fin N) segFuel [.code (bodyOf Try.f28)] (initSt Try.f28 (encArgs Q28.as x) (encMem Q28.as x)) = Q28.e N (fun t14_ t15_ m3_ => rec Q28.k0 (Q28.st0 x.1 t14_ t15_ m3_)) x.1 := by kernel_rfl
theorem Q28.runs (N : Nat) (r_ : TRules) : ∀ n, (∀ (t14_ t15_ : Int) (m3_ : (List TPiece)), run tb (Q28.G N) Q28.A 0 (Q28.fin N) n Q28.k0 (Q28.st0 r_ t14_ t15_ m3_) = Q28.l0 N r_ n t14_ t15_ m3_)
 | 0 => fun _ _ _ => rfl
 | n + 1 => by
  have h0 := Q28.runs N r_ n
  have e0 : (fun (t14_ t15_ : Int) (m3_ : (List TPiece)) => run tb (Q28.G N) Q28.A 0 (Q28.fin N) n Q28.k0 (Q28.st0 r_ t14_ t15_ m3_)) = Q28.l0 N r_ n := by funext t14_ t15_ m3_; exact h0 t14_ t15_ m3_
  have g0 : (∀ (t14_ t15_ : Int) (m3_ : (List TPiece)), run tb (Q28.G N) Q28.A 0 (Q28.fin N) (n + 1) Q28.k0 (Q28.st0 r_ t14_ t15_ m3_) = Q28.l0 N r_ (n + 1) t14_ t15_ m3_) := by
   intro t14_ t15_ m3_
   exact (run_succ (by kernel_rfl)).trans ((Q28.step0 N _ r_ t14_ t15_ m3_).trans ((congrArg (fun r0 => Q28.s0 N r_ r0 t14_ t15_ m3_) e0).trans (Q28.l0_s N r_ n t14_ t15_ m3_).symm))
  exact g0
theorem Q28.ok : FnOk Try.prog 28 (Q28.D N) := by
 refine fo ⟨Try.f28, Try.func28, by kernel_rfl, by kernel_rfl, fun x y h => ⟨Q28.G N, Q28.A, N, gamOf_ok (fun p hp => nomatch hp), ?_⟩⟩ (Q28.fit N)
 rw [absFn_n (n0 := 0) rfl (by kernel_rfl)]
 refine (Q28.entry N (run tb (Q28.G N) Q28.A 0 (Q28.fin N) N) x).trans ?_
 have e0 : (fun (t14_ t15_ : Int) (m3_ : (List TPiece)) => run tb (Q28.G N) Q28.A 0 (Q28.fin N) N Q28.k0 (Q28.st0 x.1 t14_ t15_ m3_)) = Q28.l0 N x.1 N := by funext t14_ t15_ m3_; exact (Q28.runs N x.1 N) t14_ t15_ m3_
 have h' : (Q28.D N).f x = Q28.e N (Q28.l0 N x.1 N) x.1 := by kernel_rfl
 exact (congrArg (fun r0 => Q28.e N r0 x.1) e0).trans (h'.symm.trans h)
def Q44.as : List MK := [.d false (.slice 3 tI)]
def Q44.rs : List (Bool × HT) := [(false, (.own 3 tI))]
def Q44.lc : List AC := []
def Q44.D : DFn := ⟨Q44.as, Q44.rs, LInt, fun x => Q44 N x.1, fun r o => r.1, fun b => (b, ()), fun b => (), none⟩
theorem Q44.fit : (Q44.D N).Fit := ⟨fun _ _ => rfl, fun _ _ => rfl, by kernel_rfl, (fun _ _ h => nomatch h), by kernel_rfl⟩
noncomputable def Q44.G (N : Nat) : Gam := gamOf []
def Q44.A : LA := fun _ => none
noncomputable def Q44.fin : St → Option LInt := resK tb Try.f44.results.toList (decRes (Q44.D N) Q44.lc)
theorem Q44.entry0 (rec : RK LInt) : seg tb (Q44.G N) Q44.A 0 rec (Q44.fin N) segFuel [.code (bodyOf Try.f44)] (initSt Try.f44 [.one .nilS] []) = some [] := by kernel_rfl
theorem Q44.entry (rec : RK LInt) (x : LInt) : seg tb (Q44.G N) Q44.A 0 rec (Q44.fin N) segFuel [.code (bodyOf Try.f44)] (initSt Try.f44 [.one (.frn 3 tI x)] []) = Q44.e N x := by kernel_rfl
theorem Q44.ok : FnOk Try.prog 44 (Q44.D N) := by
 refine FnOk_ofN (e := 3) (t := tI) (h := rfl) tb_ok (Checked.mixed Try.checked) ⟨Try.f44, Try.func44, by kernel_rfl, by kernel_rfl, fun x y h => ⟨Q44.G N, Q44.A, N, gamOf_ok (fun p hp => nomatch hp), fun hx => ?_, ?_⟩⟩ (Q44.fit N)
 ·subst hx; rw [absFn_n (n0 := 0) rfl (by kernel_rfl)]; exact (Q44.entry0 N _).trans h
 ·rw [absFn_n (n0 := 0) rfl (by kernel_rfl)]; exact (Q44.entry N _ x).trans h
def Q29.as : List MK := [.d true qd]
def Q29.rs : List (Bool × HT) := [(true, (.prod (.own 3 tI) (.prod (.prod (.own 3 tI) (.own 3 tI)) (.d (.prod tI tI)))))]
def Q29.lc : List AC := []
def Q29.D : DFn := ⟨Q29.as, Q29.rs, TPos, fun x => Q29 N x.1, fun r o => r.1, fun b => (b, ()), fun b => (), none⟩
theorem Q29.fit : (Q29.D N).Fit := ⟨fun _ _ => rfl, fun _ _ => rfl, by kernel_rfl, (fun _ _ h => nomatch h), by kernel_rfl⟩
noncomputable def Q29.G : Gam := gamOf [(44, Q44.D N)]
def Q29.A : LA := fun k => bif Nat.beq k 0 then some ⟨[], [], [], [], [], 0, true⟩ else none
noncomputable def Q29.fin : St → Option TPos := resK tb Try.f29.results.toList (decRes (Q29.D N) Q29.lc)
theorem Q29.entry (rec : RK TPos) (x : (argH Q29.as).den) : seg tb (Q29.G N) Q29.A 0 rec (Q29.fin N) segFuel [.code (bodyOf Try.f29)] (initSt Try.f29 (encArgs Q29.as x) (encMem Q29.as x)) = Q29.e N x.1 := by kernel_rfl
theorem Q29.ok : FnOk Try.prog 29 (Q29.D N) := by
 refine fo ⟨Try.f29, Try.func29, by kernel_rfl, by kernel_rfl, fun x y h => ⟨Q29.G N, Q29.A, N, gamOf_ok (gc ⟨Q44.ok N, Q44.fit N⟩ gn), ?_⟩⟩ (Q29.fit N)
 rw [absFn_n (n0 := 0) rfl (by kernel_rfl)]
 exact (Q29.entry N _ x).trans h
def Q61.as : List MK := [.d false tI]
def Q61.rs : List (Bool × HT) := [(false, (.d (.int .u64)))]
def Q61.lc : List AC := []
def Q61.D : DFn := ⟨Q61.as, Q61.rs, Int, fun x => Q61 N x.1, fun r o => r.1, fun b => (b, ()), fun b => (), none⟩
theorem Q61.fit : (Q61.D N).Fit := ⟨fun _ _ => rfl, fun _ _ => rfl, by kernel_rfl, (fun _ _ h => nomatch h), by kernel_rfl⟩
noncomputable def Q61.G (N : Nat) : Gam := gamOf []
def Q61.A : LA := fun _ => none
noncomputable def Q61.fin : St → Option Int := resK tb Try.f61.results.toList (decRes (Q61.D N) Q61.lc)
theorem Q61.entry (rec : RK Int) (x : (argH Q61.as).den) : seg tb (Q61.G N) Q61.A 0 rec (Q61.fin N) segFuel [.code (bodyOf Try.f61)] (initSt Try.f61 (encArgs Q61.as x) (encMem Q61.as x)) = Q61.e N x.1 := by kernel_rfl
theorem Q61.ok : FnOk Try.prog 61 (Q61.D N) := by
 refine fo ⟨Try.f61, Try.func61, by kernel_rfl, by kernel_rfl, fun x y h => ⟨Q61.G N, Q61.A, N, gamOf_ok (fun p hp => nomatch hp), ?_⟩⟩ (Q61.fit N)
 rw [absFn_n (n0 := 0) rfl (by kernel_rfl)]
 exact (Q61.entry N _ x).trans h
def Q45.as : List MK := [.d false tI]
def Q45.rs : List (Bool × HT) := [(false, (.d (.int .u64)))]
def Q45.lc : List AC := []
def Q45.D : DFn := ⟨Q45.as, Q45.rs, Int, fun x => Q45 N x.1, fun r o => r.1, fun b => (b, ()), fun b => (), none⟩
theorem Q45.fit : (Q45.D N).Fit := ⟨fun _ _ => rfl, fun _ _ => rfl, by kernel_rfl, (fun _ _ h => nomatch h), by kernel_rfl⟩
noncomputable def Q45.G : Gam := gamOf [(61, Q61.D N)]
def Q45.A : LA := fun _ => none
noncomputable def Q45.fin : St → Option Int := resK tb Try.f45.results.toList (decRes (Q45.D N) Q45.lc)
theorem Q45.entry (rec : RK Int) (x : (argH Q45.as).den) : seg tb (Q45.G N) Q45.A 0 rec (Q45.fin N) segFuel [.code (bodyOf Try.f45)] (initSt Try.f45 (encArgs Q45.as x) (encMem Q45.as x)) = Q45.e N x.1 := by kernel_rfl
theorem Q45.ok : FnOk Try.prog 45 (Q45.D N) := by
 refine fo ⟨Try.f45, Try.func45, by kernel_rfl, by kernel_rfl, fun x y h => ⟨Q45.G N, Q45.A, N, gamOf_ok (gc ⟨Q61.ok N, Q61.fit N⟩ gn), ?_⟩⟩ (Q45.fit N)
 rw [absFn_n (n0 := 0) rfl (by kernel_rfl)]
 exact (Q45.entry N _ x).trans h
def Q46.as : List MK := [.d false tI, .d false tI]
def Q46.rs : List (Bool × HT) := [(false, (.d (.int .u64)))]
def Q46.lc : List AC := []
def Q46.D : DFn := ⟨Q46.as, Q46.rs, Int, fun x => Q46 N x.1 x.2.1, fun r o => r.1, fun b => (b, ()), fun b => (), none⟩
theorem Q46.fit : (Q46.D N).Fit := ⟨fun _ _ => rfl, fun _ _ => rfl, by kernel_rfl, (fun _ _ h => nomatch h), by kernel_rfl⟩
noncomputable def Q46.G : Gam := gamOf [(61, Q61.D N)]
def Q46.A : LA := fun _ => none
noncomputable def Q46.fin : St → Option Int := resK tb Try.f46.results.toList (decRes (Q46.D N) Q46.lc)
theorem Q46.entry (rec : RK Int) (x : (argH Q46.as).den) : seg tb (Q46.G N) Q46.A 0 rec (Q46.fin N) segFuel [.code (bodyOf Try.f46)] (initSt Try.f46 (encArgs Q46.as x) (encMem Q46.as x)) = Q46.e N x.1 x.2.1 := by kernel_rfl
theorem Q46.ok : FnOk Try.prog 46 (Q46.D N) := by
 refine fo ⟨Try.f46, Try.func46, by kernel_rfl, by kernel_rfl, fun x y h => ⟨Q46.G N, Q46.A, N, gamOf_ok (gc ⟨Q61.ok N, Q61.fit N⟩ gn), ?_⟩⟩ (Q46.fit N)
 rw [absFn_n (n0 := 0) rfl (by kernel_rfl)]
 exact (Q46.entry N _ x).trans h
def Q47.as : List MK := [.d false tI, .d false tI, .d false tI]
def Q47.rs : List (Bool × HT) := [(false, (.d (.int .u64)))]
def Q47.lc : List AC := []
def Q47.D : DFn := ⟨Q47.as, Q47.rs, Int, fun x => Q47 N x.1 x.2.1 x.2.2.1, fun r o => r.1, fun b => (b, ()), fun b => (), none⟩
theorem Q47.fit : (Q47.D N).Fit := ⟨fun _ _ => rfl, fun _ _ => rfl, by kernel_rfl, (fun _ _ h => nomatch h), by kernel_rfl⟩
noncomputable def Q47.G : Gam := gamOf [(61, Q61.D N)]
def Q47.A : LA := fun _ => none
noncomputable def Q47.fin : St → Option Int := resK tb Try.f47.results.toList (decRes (Q47.D N) Q47.lc)
theorem Q47.entry (rec : RK Int) (x : (argH Q47.as).den) : seg tb (Q47.G N) Q47.A 0 rec (Q47.fin N) segFuel [.code (bodyOf Try.f47)] (initSt Try.f47 (encArgs Q47.as x) (encMem Q47.as x)) = Q47.e N x.1 x.2.1 x.2.2.1 := by kernel_rfl
theorem Q47.ok : FnOk Try.prog 47 (Q47.D N) := by
 refine fo ⟨Try.f47, Try.func47, by kernel_rfl, by kernel_rfl, fun x y h => ⟨Q47.G N, Q47.A, N, gamOf_ok (gc ⟨Q61.ok N, Q61.fit N⟩ gn), ?_⟩⟩ (Q47.fit N)
 rw [absFn_n (n0 := 0) rfl (by kernel_rfl)]
 exact (Q47.entry N _ x).trans h
def Q30.as : List MK := [.d true qd]
def Q30.rs : List (Bool × HT) := [(false, (.d (.int .u64)))]
def Q30.lc : List AC := []
def Q30.D : DFn := ⟨Q30.as, Q30.rs, Int, fun x => Q30 N x.1, fun r o => r.1, fun b => (b, ()), fun b => (), none⟩
theorem Q30.fit : (Q30.D N).Fit := ⟨fun _ _ => rfl, fun _ _ => rfl, by kernel_rfl, (fun _ _ h => nomatch h), by kernel_rfl⟩
noncomputable def Q30.G : Gam := gamOf [(45, Q45.D N), (46, Q46.D N), (47, Q47.D N)]
def Q30.A : LA := fun k => bif Nat.beq k 0 then some ⟨[1, 3, 14, 15, 16], [], [], [], [], 1, false⟩ else bif Nat.beq k 2 then some ⟨[3, 28, 29], [], [], [], [], 0, false⟩ else bif Nat.beq k 4 then some ⟨[3, 6, 28, 29, 33, 34, 35], [], [], [], [], 0, false⟩ else none
noncomputable def Q30.fin : St → Option Int := resK tb Try.f30.results.toList (decRes (Q30.D N) Q30.lc)
noncomputable def Q30.k0 : List Item := stackAt [.r, .r, .l, .r, .b] (bodyOf Try.f30) []
def Q30.st0 (p_ : TPos) (k_ t16_ : Int) : St := ⟨[oA, .one (.ptr 0 0), oA, .one (.int .u64 k_)] ++ rA 10 ++ [.one (.fro 3 tI p_.1), oi (p_.1.length : Int), oi t16_] ++ rA 32, [vP p_]⟩
noncomputable def Q30.k1 : List Item := stackAt [.r, .r, .r, .l, .r, .b] (bodyOf Try.f30) []
def Q30.st1 (p_ : TPos) (k_ t29_ : Int) : St := ⟨rA 3 ++ [.one (.int .u64 k_)] ++ rA 24 ++ [.agg [.fro 3 tI p_.2.1.1, .fro 3 tI p_.2.1.2], oi t29_] ++ rA 19, []⟩
noncomputable def Q30.k2 : List Item := stackAt [.r, .r, .r, .l, .r, .b, .w, .r, .r, .l, .b, .r, .r, .b] (bodyOf Try.f30) []
def Q30.st2 (p_ : TPos) (k_ o_ t29_ : Int) (t33_ : LInt) (t34_ t35_ : Int) : St := ⟨rA 3 ++ [.one (.int .u64 k_), oA, oA, oi o_] ++ rA 21 ++ [.agg [.fro 3 tI p_.2.1.1, .fro 3 tI p_.2.1.2], oi t29_] ++ rA 3 ++ [.one (.fro 3 tI t33_), oi t34_, oi t35_] ++ rA 13, []⟩
theorem Q30.step0 (rec : RK Int) (p_ : TPos) (k_ t16_ : Int) : seg tb (Q30.G N) Q30.A 0 rec (Q30.fin N) segFuel (loopBody Q30.k0) (Q30.st0 p_ k_ t16_) = Q30.s0 N p_ (fun k_ t16_ => rec Q30.k0 (Q30.st0 p_ k_ t16_)) (fun k_ t29_ => rec Q30.k1 (Q30.st1 p_ k_ t29_)) (fun k_ o_ t29_ t33_ t34_ t35_ => rec Q30.k2 (Q30.st2 p_ k_ o_ t29_ t33_ t34_ t35_)) k_ t16_ := by kernel_rfl
theorem Q30.step1 (rec : RK Int) (p_ : TPos) (k_ t29_ : Int) : seg tb (Q30.G N) Q30.A 0 rec (Q30.fin N) segFuel (loopBody Q30.k1) (Q30.st1 p_ k_ t29_) = Q30.s1 N p_ (fun k_ t16_ => rec Q30.k0 (Q30.st0 p_ k_ t16_)) (fun k_ t29_ => rec Q30.k1 (Q30.st1 p_ k_ t29_)) (fun k_ o_ t29_ t33_ t34_ t35_ => rec Q30.k2 (Q30.st2 p_ k_ o_ t29_ t33_ t34_ t35_)) k_ t29_ := by kernel_rfl
theorem Q30.step2 (rec : RK Int) (p_ : TPos) (k_ o_ t29_ : Int) (t33_ : LInt) (t34_ t35_ : Int) : seg tb (Q30.G N) Q30.A 0 rec (Q30.fin N) segFuel (loopBody Q30.k2) (Q30.st2 p_ k_ o_ t29_ t33_ t34_ t35_) = Q30.s2 N p_ (fun k_ t16_ => rec Q30.k0 (Q30.st0 p_ k_ t16_)) (fun k_ t29_ => rec Q30.k1 (Q30.st1 p_ k_ t29_)) (fun k_ o_ t29_ t33_ t34_ t35_ => rec Q30.k2 (Q30.st2 p_ k_ o_ t29_ t33_ t34_ t35_)) k_ o_ t29_ t33_ t34_ t35_ := by kernel_rfl
theorem Q30.entry (rec : RK Int) (x : (argH Q30.as).den) : seg tb (Q30.G N) Q30.A 0 rec (Q30.fin N) segFuel [.code (bodyOf Try.f30)] (initSt Try.f30 (encArgs Q30.as x) (encMem Q30.as x)) = Q30.e N (fun k_ t16_ => rec Q30.k0 (Q30.st0 x.1 k_ t16_)) (fun k_ t29_ => rec Q30.k1 (Q30.st1 x.1 k_ t29_)) (fun k_ o_ t29_ t33_ t34_ t35_ => rec Q30.k2 (Q30.st2 x.1 k_ o_ t29_ t33_ t34_ t35_)) x.1 := by kernel_rfl
theorem Q30.runs (N : Nat) (p_ : TPos) : ∀ n, (∀ (k_ t16_ : Int), run tb (Q30.G N) Q30.A 0 (Q30.fin N) n Q30.k0 (Q30.st0 p_ k_ t16_) = Q30.l0 N p_ n k_ t16_) ∧ (∀ (k_ t29_ : Int), run tb (Q30.G N) Q30.A 0 (Q30.fin N) n Q30.k1 (Q30.st1 p_ k_ t29_) = Q30.l1 N p_ n k_ t29_) ∧ (∀ (k_ o_ t29_ : Int) (t33_ : LInt) (t34_ t35_ : Int), run tb (Q30.G N) Q30.A 0 (Q30.fin N) n Q30.k2 (Q30.st2 p_ k_ o_ t29_ t33_ t34_ t35_) = Q30.l2 N p_ n k_ o_ t29_ t33_ t34_ t35_)
 | 0 => ⟨fun _ _ => rfl, fun _ _ => rfl, fun _ _ _ _ _ _ => rfl⟩
 | n + 1 => by
  obtain ⟨h0, h1, h2⟩ := Q30.runs N p_ n
  have e0 : (fun (k_ t16_ : Int) => run tb (Q30.G N) Q30.A 0 (Q30.fin N) n Q30.k0 (Q30.st0 p_ k_ t16_)) = Q30.l0 N p_ n := by funext k_ t16_; exact h0 k_ t16_
  have e1 : (fun (k_ t29_ : Int) => run tb (Q30.G N) Q30.A 0 (Q30.fin N) n Q30.k1 (Q30.st1 p_ k_ t29_)) = Q30.l1 N p_ n := by funext k_ t29_; exact h1 k_ t29_
  have e2 : (fun (k_ o_ t29_ : Int) (t33_ : LInt) (t34_ t35_ : Int) => run tb (Q30.G N) Q30.A 0 (Q30.fin N) n Q30.k2 (Q30.st2 p_ k_ o_ t29_ t33_ t34_ t35_)) = Q30.l2 N p_ n := by funext k_ o_ t29_ t33_ t34_ t35_; exact h2 k_ o_ t29_ t33_ t34_ t35_
  have g0 : (∀ (k_ t16_ : Int), run tb (Q30.G N) Q30.A 0 (Q30.fin N) (n + 1) Q30.k0 (Q30.st0 p_ k_ t16_) = Q30.l0 N p_ (n + 1) k_ t16_) := by
   intro k_ t16_
   exact (run_succ (by kernel_rfl)).trans ((Q30.step0 N _ p_ k_ t16_).trans ((congr (congr (congrArg (fun r0 r1 r2 => Q30.s0 N p_ r0 r1 r2 k_ t16_) e0) e1) e2).trans (Q30.l0_s N p_ n k_ t16_).symm))
  have g1 : (∀ (k_ t29_ : Int), run tb (Q30.G N) Q30.A 0 (Q30.fin N) (n + 1) Q30.k1 (Q30.st1 p_ k_ t29_) = Q30.l1 N p_ (n + 1) k_ t29_) := by
   intro k_ t29_
   exact (run_succ (by kernel_rfl)).trans ((Q30.step1 N _ p_ k_ t29_).trans ((congr (congr (congrArg (fun r0 r1 r2 => Q30.s1 N p_ r0 r1 r2 k_ t29_) e0) e1) e2).trans (Q30.l1_s N p_ n k_ t29_).symm))
  have g2 : (∀ (k_ o_ t29_ : Int) (t33_ : LInt) (t34_ t35_ : Int), run tb (Q30.G N) Q30.A 0 (Q30.fin N) (n + 1) Q30.k2 (Q30.st2 p_ k_ o_ t29_ t33_ t34_ t35_) = Q30.l2 N p_ (n + 1) k_ o_ t29_ t33_ t34_ t35_) := by
   intro k_ o_ t29_ t33_ t34_ t35_
   exact (run_succ (by kernel_rfl)).trans ((Q30.step2 N _ p_ k_ o_ t29_ t33_ t34_ t35_).trans ((congr (congr (congrArg (fun r0 r1 r2 => Q30.s2 N p_ r0 r1 r2 k_ o_ t29_ t33_ t34_ t35_) e0) e1) e2).trans (Q30.l2_s N p_ n k_ o_ t29_ t33_ t34_ t35_).symm))
  exact ⟨g0, g1, g2⟩
theorem Q30.ok : FnOk Try.prog 30 (Q30.D N) := by
 refine fo ⟨Try.f30, Try.func30, by kernel_rfl, by kernel_rfl, fun x y h => ⟨Q30.G N, Q30.A, N, gamOf_ok (gc ⟨Q45.ok N, Q45.fit N⟩ (gc ⟨Q46.ok N, Q46.fit N⟩ (gc ⟨Q47.ok N, Q47.fit N⟩ gn))), ?_⟩⟩ (Q30.fit N)
 rw [absFn_n (n0 := 0) rfl (by kernel_rfl)]
 refine (Q30.entry N (run tb (Q30.G N) Q30.A 0 (Q30.fin N) N) x).trans ?_
 have e0 : (fun (k_ t16_ : Int) => run tb (Q30.G N) Q30.A 0 (Q30.fin N) N Q30.k0 (Q30.st0 x.1 k_ t16_)) = Q30.l0 N x.1 N := by funext k_ t16_; exact (Q30.runs N x.1 N).1 k_ t16_
 have e1 : (fun (k_ t29_ : Int) => run tb (Q30.G N) Q30.A 0 (Q30.fin N) N Q30.k1 (Q30.st1 x.1 k_ t29_)) = Q30.l1 N x.1 N := by funext k_ t29_; exact (Q30.runs N x.1 N).2.1 k_ t29_
 have e2 : (fun (k_ o_ t29_ : Int) (t33_ : LInt) (t34_ t35_ : Int) => run tb (Q30.G N) Q30.A 0 (Q30.fin N) N Q30.k2 (Q30.st2 x.1 k_ o_ t29_ t33_ t34_ t35_)) = Q30.l2 N x.1 N := by funext k_ o_ t29_ t33_ t34_ t35_; exact (Q30.runs N x.1 N).2.2 k_ o_ t29_ t33_ t34_ t35_
 have h' : (Q30.D N).f x = Q30.e N (Q30.l0 N x.1 N) (Q30.l1 N x.1 N) (Q30.l2 N x.1 N) x.1 := by kernel_rfl
 exact (congr (congr (congrArg (fun r0 r1 r2 => Q30.e N r0 r1 r2 x.1) e0) e1) e2).trans (h'.symm.trans h)
def Q14.as : List MK := [.d true qa, .d true qd]
def Q14.rs : List (Bool × HT) := [(false, (.opt 81 (.prod (.prod (.d .str) (.prod (.d tI) (.prod (.d tI) (.prod (.own 61 qb) (.prod (.own 3 tI) (.prod (.d .bool) (.prod (.d .bool) (.prod (.own 63 qe) (.d qc))))))))) (.prod (.prod (.own 3 tI) (.prod (.prod (.own 3 tI) (.own 3 tI)) (.d (.prod tI tI)))) (.prod (.d (.int .u64)) (.own 107 qf)))))), (false, (.d tI))]
def Q14.lc : List AC := []
def Q14.D : DFn := ⟨Q14.as, Q14.rs, ((Option TBoard) × Int), fun x => Q14 N x.1 x.2.1, fun r o => (r.1, r.2.1), fun b => (b.1, (b.2, ())), fun b => (), none⟩
theorem Q14.fit : (Q14.D N).Fit := ⟨fun _ _ => rfl, fun _ _ => rfl, by kernel_rfl, (fun _ _ h => nomatch h), by kernel_rfl⟩
noncomputable def Q14.G : Gam := gamOf [(27, Q27.D N), (28, Q28.D N), (29, Q29.D N), (30, Q30.D N)]
def Q14.A : LA := fun _ => none
noncomputable def Q14.fin : St → Option ((Option TBoard) × Int) := resK tb Try.f14.results.toList (decRes (Q14.D N) Q14.lc)
theorem Q14.entry (rec : RK ((Option TBoard) × Int)) (x : (argH Q14.as).den) : seg tb (Q14.G N) Q14.A 0 rec (Q14.fin N) segFuel [.code (bodyOf Try.f14)] (initSt Try.f14 (encArgs Q14.as x) (encMem Q14.as x)) = Q14.e N x.1 x.2.1 := by kernel_rfl
theorem Q14.ok : FnOk Try.prog 14 (Q14.D N) := by
 refine fo ⟨Try.f14, Try.func14, by kernel_rfl, by kernel_rfl, fun x y h => ⟨Q14.G N, Q14.A, N, gamOf_ok (gc ⟨Q27.ok N, Q27.fit N⟩ (gc ⟨Q28.ok N, Q28.fit N⟩ (gc ⟨Q29.ok N, Q29.fit N⟩ (gc ⟨Q30.ok N, Q30.fit N⟩ gn)))), ?_⟩⟩ (Q14.fit N)
 rw [absFn_n (n0 := 0) rfl (by kernel_rfl)]
 exact (Q14.entry N _ x).trans h
def Q65.as : List MK := [.d false tI]
def Q65.rs : List (Bool × HT) := [(false, (.d tI))]
def Q65.lc : List AC := []
def Q65.D : DFn := ⟨Q65.as, Q65.rs, Int, fun x => Q65 N x.1, fun r o => r.1, fun b => (b, ()), fun b => (), none⟩
theorem Q65.fit : (Q65.D N).Fit := ⟨fun _ _ => rfl, fun _ _ => rfl, by kernel_rfl, (fun _ _ h => nomatch h), by kernel_rfl⟩
noncomputable def Q65.G (N : Nat) : Gam := gamOf []
def Q65.A : LA := fun _ => none
noncomputable def Q65.fin : St → Option Int := resK tb Try.f65.results.toList (decRes (Q65.D N) Q65.lc)
theorem Q65.entry (rec : RK Int) (x : (argH Q65.as).den) : seg tb (Q65.G N) Q65.A 0 rec (Q65.fin N) segFuel [.code (bodyOf Try.f65)] (initSt Try.f65 (encArgs Q65.as x) (encMem Q65.as x)) = Q65.e N x.1 := by kernel_rfl
theorem Q65.ok : FnOk Try.prog 65 (Q65.D N) := by
 refine fo ⟨Try.f65, Try.func65, by kernel_rfl, by kernel_rfl, fun x y h => ⟨Q65.G N, Q65.A, N, gamOf_ok (fun p hp => nomatch hp), ?_⟩⟩ (Q65.fit N)
 rw [absFn_n (n0 := 0) rfl (by kernel_rfl)]
 exact (Q65.entry N _ x).trans h
def Q62.as : List MK := [.d true qa, .d true qd, .d false tI, .d false tI]
def Q62.rs : List (Bool × HT) := [(false, (.d .bool))]
def Q62.lc : List AC := []
def Q62.D : DFn := ⟨Q62.as, Q62.rs, Bool, fun x => Q62 N x.1 x.2.1 x.2.2.1 x.2.2.2.1, fun r o => r.1, fun b => (b, ()), fun b => (), none⟩
theorem Q62.fit : (Q62.D N).Fit := ⟨fun _ _ => rfl, fun _ _ => rfl, by kernel_rfl, (fun _ _ h => nomatch h), by kernel_rfl⟩
noncomputable def Q62.G : Gam := gamOf [(65, Q65.D N)]
def Q62.A : LA := fun k => bif Nat.beq k 0 then some ⟨[2, 3, 4, 5, 17, 18], [], [], [], [], 2, false⟩ else bif Nat.beq k 2 then some ⟨[2, 3, 4, 5, 9, 17, 18, 25, 26], [], [], [], [], 2, false⟩ else bif Nat.beq k 4 then some ⟨[2, 3, 4, 5, 9, 11, 12, 13, 14, 17, 18, 25, 26], [], [], [], [], 3, false⟩ else none
noncomputable def Q62.fin : St → Option Bool := resK tb Try.f62.results.toList (decRes (Q62.D N) Q62.lc)
noncomputable def Q62.k0 : List Item := stackAt [.r, .l, .r, .b] (bodyOf Try.f62) []
def Q62.st0 (r_ : TRules) (p_ : TPos) (player count t18_ : Int) : St := ⟨[oA, oA, oi player, oi count, .one (.ptr 0 0), .one (.ptr 1 0)] ++ rA 11 ++ [oi (p_.1.length : Int), oi t18_] ++ rA 71, [vR r_, vP p_]⟩
noncomputable def Q62.k1 : List Item := stackAt [.r, .l, .r, .b, .w, .r, .r, .l, .b, .r, .r, .b] (bodyOf Try.f62) []
def Q62.st1 (r_ : TRules) (p_ : TPos) (player count s_ t18_ t26_ : Int) : St := ⟨[oA, oA, oi player, oi count, .one (.ptr 0 0), .one (.ptr 1 0)] ++ rA 3 ++ [oi s_] ++ rA 7 ++ [oi (p_.1.length : Int), oi t18_] ++ rA 6 ++ [.agg [.int .i64 1, .int .i64 0, .int .i64 0, .int .i64 1, .int .i64 1, .int .i64 1, .int .i64 1, .int .i64 (-1)], oi t26_] ++ rA 63, [vR r_, vP p_]⟩
noncomputable def Q62.k2 : List Item := stackAt [.r, .l, .r, .b, .w, .r, .r, .l, .b, .r, .r, .b, .w, .r, .r, .l, .b, .r, .r, .l, .b] (bodyOf Try.f62) []
def Q62.st2 (r_ : TRules) (p_ : TPos) (player count s_ x_ y_ n_ t18_ t26_ d_ d_2 : Int) : St := ⟨[oA, oA, oi player, oi count, .one (.ptr 0 0), .one (.ptr 1 0)] ++ rA 3 ++ [oi s_, oA, .one (.ptr 2 0), oi x_, oi y_, oi n_, oA, oA, oi (p_.1.length : Int), oi t18_] ++ rA 6 ++ [.agg [.int .i64 1, .int .i64 0, .int .i64 0, .int .i64 1, .int .i64 1, .int .i64 1, .int .i64 1, .int .i64 (-1)], oi t26_] ++ rA 63, [vR r_, vP p_, .var 122 [.int .i64 d_, .int .i64 d_2]]⟩
theorem Q62.step0 (rec : RK Bool) (r_ : TRules) (p_ : TPos) (player count t18_ : Int) : seg tb (Q62.G N) Q62.A 0 rec (Q62.fin N) segFuel (loopBody Q62.k0) (Q62.st0 r_ p_ player count t18_) = Q62.s0 N r_ p_ player count (fun t18_ => rec Q62.k0 (Q62.st0 r_ p_ player count t18_)) (fun s_ t18_ t26_ => rec Q62.k1 (Q62.st1 r_ p_ player count s_ t18_ t26_)) (fun s_ x_ y_ n_ t18_ t26_ d_ d_2 => rec Q62.k2 (Q62.st2 r_ p_ player count s_ x_ y_ n_ t18_ t26_ d_ d_2)) t18_ := by kernel_rfl
theorem Q62.step1 (rec : RK Bool) (r_ : TRules) (p_ : TPos) (player count s_ t18_ t26_ : Int) : seg tb (Q62.G N) Q62.A 0 rec (Q62.fin N) segFuel (loopBody Q62.k1) (Q62.st1 r_ p_ player count s_ t18_ t26_) = Q62.s1 N r_ p_ player count (fun t18_ => rec Q62.k0 (Q62.st0 r_ p_ player count t18_)) (fun s_ t18_ t26_ => rec Q62.k1 (Q62.st1 r_ p_ player count s_ t18_ t26_)) (fun s_ x_ y_ n_ t18_ t26_ d_ d_2 => rec Q62.k2 (Q62.st2 r_ p_ player count s_ x_ y_ n_ t18_ t26_ d_ d_2)) s_ t18_ t26_ := by kernel_rfl
theorem Q62.step2 (rec : RK Bool) (r_ : TRules) (p_ : TPos) (player count s_ x_ y_ n_ t18_ t26_ d_ d_2 : Int) : seg tb (Q62.G N) Q62.A 0 rec (Q62.fin N) segFuel (loopBody Q62.k2) (Q62.st2 r_ p_ player count s_ x_ y_ n_ t18_ t26_ d_ d_2) = Q62.s2 N r_ p_ player count (fun t18_ => rec Q62.k0 (Q62.st0 r_ p_ player count t18_)) (fun s_ t18_ t26_ => rec Q62.k1 (Q62.st1 r_ p_ player count s_ t18_ t26_)) (fun s_ x_ y_ n_ t18_ t26_ d_ d_2 => rec Q62.k2 (Q62.st2 r_ p_ player count s_ x_ y_ n_ t18_ t26_ d_ d_2)) s_ x_ y_ n_ t18_ t26_ d_ d_2 := by kernel_rfl
theorem Q62.entry (rec : RK Bool) (x : (argH Q62.as).den) : seg tb (Q62.G N) Q62.A 0 rec (Q62.fin N) segFuel [.code (bodyOf Try.f62)] (initSt Try.f62 (encArgs Q62.as x) (encMem Q62.as x)) = Q62.e N (fun t18_ => rec Q62.k0 (Q62.st0 x.1 x.2.1 x.2.2.1 x.2.2.2.1 t18_)) (fun s_ t18_ t26_ => rec Q62.k1 (Q62.st1 x.1 x.2.1 x.2.2.1 x.2.2.2.1 s_ t18_ t26_)) (fun s_ x_ y_ n_ t18_ t26_ d_ d_2 => rec Q62.k2 (Q62.st2 x.1 x.2.1 x.2.2.1 x.2.2.2.1 s_ x_ y_ n_ t18_ t26_ d_ d_2)) x.1 x.2.1 x.2.2.1 x.2.2.2.1 := by kernel_rfl
theorem Q62.runs (N : Nat) (r_ : TRules) (p_ : TPos) (player count : Int) : ∀ n, (∀ (t18_ : Int), run tb (Q62.G N) Q62.A 0 (Q62.fin N) n Q62.k0 (Q62.st0 r_ p_ player count t18_) = Q62.l0 N r_ p_ player count n t18_) ∧ (∀ (s_ t18_ t26_ : Int), run tb (Q62.G N) Q62.A 0 (Q62.fin N) n Q62.k1 (Q62.st1 r_ p_ player count s_ t18_ t26_) = Q62.l1 N r_ p_ player count n s_ t18_ t26_) ∧ (∀ (s_ x_ y_ n_ t18_ t26_ d_ d_2 : Int), run tb (Q62.G N) Q62.A 0 (Q62.fin N) n Q62.k2 (Q62.st2 r_ p_ player count s_ x_ y_ n_ t18_ t26_ d_ d_2) = Q62.l2 N r_ p_ player count n s_ x_ y_ n_ t18_ t26_ d_ d_2)
 | 0 => ⟨fun _ => rfl, fun _ _ _ => rfl, fun _ _ _ _ _ _ _ _ => rfl⟩
 | n + 1 => by
  obtain ⟨h0, h1, h2⟩ := Q62.runs N r_ p_ player count n
  have e0 : (fun (t18_ : Int) => run tb (Q62.G N) Q62.A 0 (Q62.fin N) n Q62.k0 (Q62.st0 r_ p_ player count t18_)) = Q62.l0 N r_ p_ player count n := by funext t18_; exact h0 t18_
  have e1 : (fun (s_ t18_ t26_ : Int) => run tb (Q62.G N) Q62.A 0 (Q62.fin N) n Q62.k1 (Q62.st1 r_ p_ player count s_ t18_ t26_)) = Q62.l1 N r_ p_ player count n := by funext s_ t18_ t26_; exact h1 s_ t18_ t26_
  have e2 : (fun (s_ x_ y_ n_ t18_ t26_ d_ d_2 : Int) => run tb (Q62.G N) Q62.A 0 (Q62.fin N) n Q62.k2 (Q62.st2 r_ p_ player count s_ x_ y_ n_ t18_ t26_ d_ d_2)) = Q62.l2 N r_ p_ player count n := by funext s_ x_ y_ n_ t18_ t26_ d_ d_2; exact h2 s_ x_ y_ n_ t18_ t26_ d_ d_2
  have g0 : (∀ (t18_ : Int), run tb (Q62.G N) Q62.A 0 (Q62.fin N) (n + 1) Q62.k0 (Q62.st0 r_ p_ player count t18_) = Q62.l0 N r_ p_ player count (n + 1) t18_) := by
   intro t18_
   exact (run_succ (by kernel_rfl)).trans ((Q62.step0 N _ r_ p_ player count t18_).trans ((congr (congr (congrArg (fun r0 r1 r2 => Q62.s0 N r_ p_ player count r0 r1 r2 t18_) e0) e1) e2).trans (Q62.l0_s N r_ p_ player count n t18_).symm))
  have g1 : (∀ (s_ t18_ t26_ : Int), run tb (Q62.G N) Q62.A 0 (Q62.fin N) (n + 1) Q62.k1 (Q62.st1 r_ p_ player count s_ t18_ t26_) = Q62.l1 N r_ p_ player count (n + 1) s_ t18_ t26_) := by
   intro s_ t18_ t26_
   exact (run_succ (by kernel_rfl)).trans ((Q62.step1 N _ r_ p_ player count s_ t18_ t26_).trans ((congr (congr (congrArg (fun r0 r1 r2 => Q62.s1 N r_ p_ player count r0 r1 r2 s_ t18_ t26_) e0) e1) e2).trans (Q62.l1_s N r_ p_ player count n s_ t18_ t26_).symm))
  have g2 : (∀ (s_ x_ y_ n_ t18_ t26_ d_ d_2 : Int), run tb (Q62.G N) Q62.A 0 (Q62.fin N) (n + 1) Q62.k2 (Q62.st2 r_ p_ player count s_ x_ y_ n_ t18_ t26_ d_ d_2) = Q62.l2 N r_ p_ player count (n + 1) s_ x_ y_ n_ t18_ t26_ d_ d_2) := by
   intro s_ x_ y_ n_ t18_ t26_ d_ d_2
   exact (run_succ (by kernel_rfl)).trans ((Q62.step2 N _ r_ p_ player count s_ x_ y_ n_ t18_ t26_ d_ d_2).trans ((congr (congr (congrArg (fun r0 r1 r2 => Q62.s2 N r_ p_ player count r0 r1 r2 s_ x_ y_ n_ t18_ t26_ d_ d_2) e0) e1) e2).trans (Q62.l2_s N r_ p_ player count n s_ x_ y_ n_ t18_ t26_ d_ d_2).symm))
  exact ⟨g0, g1, g2⟩
theorem Q62.ok : FnOk Try.prog 62 (Q62.D N) := by
 refine fo ⟨Try.f62, Try.func62, by kernel_rfl, by kernel_rfl, fun x y h => ⟨Q62.G N, Q62.A, N, gamOf_ok (gc ⟨Q65.ok N, Q65.fit N⟩ gn), ?_⟩⟩ (Q62.fit N)
 rw [absFn_n (n0 := 0) rfl (by kernel_rfl)]
 refine (Q62.entry N (run tb (Q62.G N) Q62.A 0 (Q62.fin N) N) x).trans ?_
 have e0 : (fun (t18_ : Int) => run tb (Q62.G N) Q62.A 0 (Q62.fin N) N Q62.k0 (Q62.st0 x.1 x.2.1 x.2.2.1 x.2.2.2.1 t18_)) = Q62.l0 N x.1 x.2.1 x.2.2.1 x.2.2.2.1 N := by funext t18_; exact (Q62.runs N x.1 x.2.1 x.2.2.1 x.2.2.2.1 N).1 t18_
 have e1 : (fun (s_ t18_ t26_ : Int) => run tb (Q62.G N) Q62.A 0 (Q62.fin N) N Q62.k1 (Q62.st1 x.1 x.2.1 x.2.2.1 x.2.2.2.1 s_ t18_ t26_)) = Q62.l1 N x.1 x.2.1 x.2.2.1 x.2.2.2.1 N := by funext s_ t18_ t26_; exact (Q62.runs N x.1 x.2.1 x.2.2.1 x.2.2.2.1 N).2.1 s_ t18_ t26_
 have e2 : (fun (s_ x_ y_ n_ t18_ t26_ d_ d_2 : Int) => run tb (Q62.G N) Q62.A 0 (Q62.fin N) N Q62.k2 (Q62.st2 x.1 x.2.1 x.2.2.1 x.2.2.2.1 s_ x_ y_ n_ t18_ t26_ d_ d_2)) = Q62.l2 N x.1 x.2.1 x.2.2.1 x.2.2.2.1 N := by funext s_ x_ y_ n_ t18_ t26_ d_ d_2; exact (Q62.runs N x.1 x.2.1 x.2.2.1 x.2.2.2.1 N).2.2 s_ x_ y_ n_ t18_ t26_ d_ d_2
 have h' : (Q62.D N).f x = Q62.e N (Q62.l0 N x.1 x.2.1 x.2.2.1 x.2.2.2.1 N) (Q62.l1 N x.1 x.2.1 x.2.2.1 x.2.2.2.1 N) (Q62.l2 N x.1 x.2.1 x.2.2.1 x.2.2.2.1 N) x.1 x.2.1 x.2.2.1 x.2.2.2.1 := by kernel_rfl
 exact (congr (congr (congrArg (fun r0 r1 r2 => Q62.e N r0 r1 r2 x.1 x.2.1 x.2.2.1 x.2.2.2.1) e0) e1) e2).trans (h'.symm.trans h)
def Q55.as : List MK := [.d false tI, .d false tI]
def Q55.rs : List (Bool × HT) := [(false, (.d tI))]
def Q55.lc : List AC := []
def Q55.D : DFn := ⟨Q55.as, Q55.rs, Int, fun x => Q55 N x.1 x.2.1, fun r o => r.1, fun b => (b, ()), fun b => (), none⟩
theorem Q55.fit : (Q55.D N).Fit := ⟨fun _ _ => rfl, fun _ _ => rfl, by kernel_rfl, (fun _ _ h => nomatch h), by kernel_rfl⟩
noncomputable def Q55.G (N : Nat) : Gam := gamOf []
def Q55.A : LA := fun _ => none
noncomputable def Q55.fin : St → Option Int := resK tb Try.f55.results.toList (decRes (Q55.D N) Q55.lc)
theorem Q55.entry (rec : RK Int) (x : (argH Q55.as).den) : seg tb (Q55.G N) Q55.A 0 rec (Q55.fin N) segFuel [.code (bodyOf Try.f55)] (initSt Try.f55 (encArgs Q55.as x) (encMem Q55.as x)) = Q55.e N x.1 x.2.1 := by kernel_rfl
theorem Q55.ok : FnOk Try.prog 55 (Q55.D N) := by
 refine fo ⟨Try.f55, Try.func55, by kernel_rfl, by kernel_rfl, fun x y h => ⟨Q55.G N, Q55.A, N, gamOf_ok (fun p hp => nomatch hp), ?_⟩⟩ (Q55.fit N)
 rw [absFn_n (n0 := 0) rfl (by kernel_rfl)]
 exact (Q55.entry N _ x).trans h
def Q63.as : List MK := [.d true qa, .d false tI, .d false tI]
def Q63.rs : List (Bool × HT) := [(false, (.d .bool))]
def Q63.lc : List AC := []
def Q63.D : DFn := ⟨Q63.as, Q63.rs, Bool, fun x => Q63 N x.1 x.2.1 x.2.2.1, fun r o => r.1, fun b => (b, ()), fun b => (), none⟩
theorem Q63.fit : (Q63.D N).Fit := ⟨fun _ _ => rfl, fun _ _ => rfl, by kernel_rfl, (fun _ _ h => nomatch h), by kernel_rfl⟩
noncomputable def Q63.G (N : Nat) : Gam := gamOf []
def Q63.A : LA := fun _ => none
noncomputable def Q63.fin : St → Option Bool := resK tb Try.f63.results.toList (decRes (Q63.D N) Q63.lc)
theorem Q63.entry (rec : RK Bool) (x : (argH Q63.as).den) : seg tb (Q63.G N) Q63.A 0 rec (Q63.fin N) segFuel [.code (bodyOf Try.f63)] (initSt Try.f63 (encArgs Q63.as x) (encMem Q63.as x)) = Q63.e N x.1 x.2.1 x.2.2.1 := by kernel_rfl
theorem Q63.ok : FnOk Try.prog 63 (Q63.D N) := by
 refine fo ⟨Try.f63, Try.func63, by kernel_rfl, by kernel_rfl, fun x y h => ⟨Q63.G N, Q63.A, N, gamOf_ok (fun p hp => nomatch hp), ?_⟩⟩ (Q63.fit N)
 rw [absFn_n (n0 := 0) rfl (by kernel_rfl)]
 exact (Q63.entry N _ x).trans h
def Q48.as : List MK := [.d true qa, .d true qd, .d true qe]
def Q48.rs : List (Bool × HT) := [(false, (.d .bool))]
def Q48.lc : List AC := []
def Q48.D : DFn := ⟨Q48.as, Q48.rs, Bool, fun x => Q48 N x.1 x.2.1 x.2.2.1, fun r o => r.1, fun b => (b, ()), fun b => (), none⟩
theorem Q48.fit : (Q48.D N).Fit := ⟨fun _ _ => rfl, fun _ _ => rfl, by kernel_rfl, (fun _ _ h => nomatch h), by kernel_rfl⟩
noncomputable def Q48.G : Gam := gamOf [(62, Q62.D N), (55, Q55.D N), (63, Q63.D N)]
def Q48.A : LA := fun k => bif Nat.beq k 1 then some ⟨[3, 5, 7, 29, 30, 31], [], [], [], [1], 3, false⟩ else bif Nat.beq k 3 then some ⟨[4, 5, 10, 50, 51, 52], [], [], [], [0], 3, false⟩ else none
noncomputable def Q48.fin : St → Option Bool := resK tb Try.f48.results.toList (decRes (Q48.D N) Q48.lc)
noncomputable def Q48.k0 : List Item := stackAt [.r, .r, .l, .r, .b, .r, .e, .r, .t, .l, .r, .b] (bodyOf Try.f48) []
def Q48.st0 (r_ : TRules) (p_ : TPos) (x_ : TEnd) (t31_ : Int) : St := ⟨rA 3 ++ [.one (.ptr 0 0), oA, .one (.ptr 2 0), oA, oi (w64 (1 - p_.2.2.1))] ++ rA 21 ++ [.one (.fro 3 tI p_.1), oi (p_.1.length : Int), oi t31_] ++ rA 38, [vR r_, .gone, .var 63 [.int .i64 x_.1, .int .i64 x_.2.1, .int .i64 x_.2.2.1, .bool x_.2.2.2]]⟩
noncomputable def Q48.k1 : List Item := stackAt [.r, .r, .r, .r, .l, .r, .b] (bodyOf Try.f48) []
def Q48.st1 (r_ : TRules) (p_ : TPos) (x_ : TEnd) (n_ t52_ : Int) : St := ⟨rA 4 ++ [.one (.ptr 1 0), .one (.ptr 2 0)] ++ rA 4 ++ [oi n_] ++ rA 39 ++ [.one (.fro 3 tI p_.1), oi (p_.1.length : Int), oi t52_] ++ rA 17, [.gone, vP p_, .var 63 [.int .i64 x_.1, .int .i64 x_.2.1, .int .i64 x_.2.2.1, .bool x_.2.2.2]]⟩
theorem Q48.step0 (rec : RK Bool) (r_ : TRules) (p_ : TPos) (x_ : TEnd) (t31_ : Int) : seg tb (Q48.G N) Q48.A 0 rec (Q48.fin N) segFuel (loopBody Q48.k0) (Q48.st0 r_ p_ x_ t31_) = Q48.s0 N r_ p_ x_ (fun t31_ => rec Q48.k0 (Q48.st0 r_ p_ x_ t31_)) (fun n_ t52_ => rec Q48.k1 (Q48.st1 r_ p_ x_ n_ t52_)) t31_ := by kernel_rfl
theorem Q48.step1 (rec : RK Bool) (r_ : TRules) (p_ : TPos) (x_ : TEnd) (n_ t52_ : Int) : seg tb (Q48.G N) Q48.A 0 rec (Q48.fin N) segFuel (loopBody Q48.k1) (Q48.st1 r_ p_ x_ n_ t52_) = Q48.s1 N r_ p_ x_ (fun t31_ => rec Q48.k0 (Q48.st0 r_ p_ x_ t31_)) (fun n_ t52_ => rec Q48.k1 (Q48.st1 r_ p_ x_ n_ t52_)) n_ t52_ := by kernel_rfl
theorem Q48.entry (rec : RK Bool) (x : (argH Q48.as).den) : seg tb (Q48.G N) Q48.A 0 rec (Q48.fin N) segFuel [.code (bodyOf Try.f48)] (initSt Try.f48 (encArgs Q48.as x) (encMem Q48.as x)) = Q48.e N (fun t31_ => rec Q48.k0 (Q48.st0 x.1 x.2.1 x.2.2.1 t31_)) (fun n_ t52_ => rec Q48.k1 (Q48.st1 x.1 x.2.1 x.2.2.1 n_ t52_)) x.1 x.2.1 x.2.2.1 := by kernel_rfl
theorem Q48.runs (N : Nat) (r_ : TRules) (p_ : TPos) (x_ : TEnd) : ∀ n, (∀ (t31_ : Int), run tb (Q48.G N) Q48.A 0 (Q48.fin N) n Q48.k0 (Q48.st0 r_ p_ x_ t31_) = Q48.l0 N r_ p_ x_ n t31_) ∧ (∀ (n_ t52_ : Int), run tb (Q48.G N) Q48.A 0 (Q48.fin N) n Q48.k1 (Q48.st1 r_ p_ x_ n_ t52_) = Q48.l1 N r_ p_ x_ n n_ t52_)
 | 0 => ⟨fun _ => rfl, fun _ _ => rfl⟩
 | n + 1 => by
  obtain ⟨h0, h1⟩ := Q48.runs N r_ p_ x_ n
  have e0 : (fun (t31_ : Int) => run tb (Q48.G N) Q48.A 0 (Q48.fin N) n Q48.k0 (Q48.st0 r_ p_ x_ t31_)) = Q48.l0 N r_ p_ x_ n := by funext t31_; exact h0 t31_
  have e1 : (fun (n_ t52_ : Int) => run tb (Q48.G N) Q48.A 0 (Q48.fin N) n Q48.k1 (Q48.st1 r_ p_ x_ n_ t52_)) = Q48.l1 N r_ p_ x_ n := by funext n_ t52_; exact h1 n_ t52_
  have g0 : (∀ (t31_ : Int), run tb (Q48.G N) Q48.A 0 (Q48.fin N) (n + 1) Q48.k0 (Q48.st0 r_ p_ x_ t31_) = Q48.l0 N r_ p_ x_ (n + 1) t31_) := by
   intro t31_
   exact (run_succ (by kernel_rfl)).trans ((Q48.step0 N _ r_ p_ x_ t31_).trans ((congr (congrArg (fun r0 r1 => Q48.s0 N r_ p_ x_ r0 r1 t31_) e0) e1).trans (Q48.l0_s N r_ p_ x_ n t31_).symm))
  have g1 : (∀ (n_ t52_ : Int), run tb (Q48.G N) Q48.A 0 (Q48.fin N) (n + 1) Q48.k1 (Q48.st1 r_ p_ x_ n_ t52_) = Q48.l1 N r_ p_ x_ (n + 1) n_ t52_) := by
   intro n_ t52_
   exact (run_succ (by kernel_rfl)).trans ((Q48.step1 N _ r_ p_ x_ n_ t52_).trans ((congr (congrArg (fun r0 r1 => Q48.s1 N r_ p_ x_ r0 r1 n_ t52_) e0) e1).trans (Q48.l1_s N r_ p_ x_ n n_ t52_).symm))
  exact ⟨g0, g1⟩
theorem Q48.ok : FnOk Try.prog 48 (Q48.D N) := by
 refine fo ⟨Try.f48, Try.func48, by kernel_rfl, by kernel_rfl, fun x y h => ⟨Q48.G N, Q48.A, N, gamOf_ok (gc ⟨Q62.ok N, Q62.fit N⟩ (gc ⟨Q55.ok N, Q55.fit N⟩ (gc ⟨Q63.ok N, Q63.fit N⟩ gn))), ?_⟩⟩ (Q48.fit N)
 rw [absFn_n (n0 := 0) rfl (by kernel_rfl)]
 refine (Q48.entry N (run tb (Q48.G N) Q48.A 0 (Q48.fin N) N) x).trans ?_
 have e0 : (fun (t31_ : Int) => run tb (Q48.G N) Q48.A 0 (Q48.fin N) N Q48.k0 (Q48.st0 x.1 x.2.1 x.2.2.1 t31_)) = Q48.l0 N x.1 x.2.1 x.2.2.1 N := by funext t31_; exact (Q48.runs N x.1 x.2.1 x.2.2.1 N).1 t31_
 have e1 : (fun (n_ t52_ : Int) => run tb (Q48.G N) Q48.A 0 (Q48.fin N) N Q48.k1 (Q48.st1 x.1 x.2.1 x.2.2.1 n_ t52_)) = Q48.l1 N x.1 x.2.1 x.2.2.1 N := by funext n_ t52_; exact (Q48.runs N x.1 x.2.1 x.2.2.1 N).2 n_ t52_
 have h' : (Q48.D N).f x = Q48.e N (Q48.l0 N x.1 x.2.1 x.2.2.1 N) (Q48.l1 N x.1 x.2.1 x.2.2.1 N) x.1 x.2.1 x.2.2.1 := by kernel_rfl
 exact (congr (congrArg (fun r0 r1 => Q48.e N r0 r1 x.1 x.2.1 x.2.2.1) e0) e1).trans (h'.symm.trans h)
def Q49.as : List MK := [.d false tI]
def Q49.rs : List (Bool × HT) := [(false, (.d tI))]
def Q49.lc : List AC := []
def Q49.D : DFn := ⟨Q49.as, Q49.rs, Int, fun x => Q49 N x.1, fun r o => r.1, fun b => (b, ()), fun b => (), none⟩
theorem Q49.fit : (Q49.D N).Fit := ⟨fun _ _ => rfl, fun _ _ => rfl, by kernel_rfl, (fun _ _ h => nomatch h), by kernel_rfl⟩
noncomputable def Q49.G (N : Nat) : Gam := gamOf []
def Q49.A : LA := fun _ => none
noncomputable def Q49.fin : St → Option Int := resK tb Try.f49.results.toList (decRes (Q49.D N) Q49.lc)
theorem Q49.entry (rec : RK Int) (x : (argH Q49.as).den) : seg tb (Q49.G N) Q49.A 0 rec (Q49.fin N) segFuel [.code (bodyOf Try.f49)] (initSt Try.f49 (encArgs Q49.as x) (encMem Q49.as x)) = Q49.e N x.1 := by kernel_rfl
theorem Q49.ok : FnOk Try.prog 49 (Q49.D N) := by
 refine fo ⟨Try.f49, Try.func49, by kernel_rfl, by kernel_rfl, fun x y h => ⟨Q49.G N, Q49.A, N, gamOf_ok (fun p hp => nomatch hp), ?_⟩⟩ (Q49.fit N)
 rw [absFn_n (n0 := 0) rfl (by kernel_rfl)]
 exact (Q49.entry N _ x).trans h
def Q54.as : List MK := [.d false tI]
def Q54.rs : List (Bool × HT) := [(false, (.d tI))]
def Q54.lc : List AC := []
def Q54.D : DFn := ⟨Q54.as, Q54.rs, Int, fun x => Q54 N x.1, fun r o => r.1, fun b => (b, ()), fun b => (), none⟩
theorem Q54.fit : (Q54.D N).Fit := ⟨fun _ _ => rfl, fun _ _ => rfl, by kernel_rfl, (fun _ _ h => nomatch h), by kernel_rfl⟩
noncomputable def Q54.G (N : Nat) : Gam := gamOf []
def Q54.A : LA := fun _ => none
noncomputable def Q54.fin : St → Option Int := resK tb Try.f54.results.toList (decRes (Q54.D N) Q54.lc)
theorem Q54.entry (rec : RK Int) (x : (argH Q54.as).den) : seg tb (Q54.G N) Q54.A 0 rec (Q54.fin N) segFuel [.code (bodyOf Try.f54)] (initSt Try.f54 (encArgs Q54.as x) (encMem Q54.as x)) = Q54.e N x.1 := by kernel_rfl
theorem Q54.ok : FnOk Try.prog 54 (Q54.D N) := by
 refine fo ⟨Try.f54, Try.func54, by kernel_rfl, by kernel_rfl, fun x y h => ⟨Q54.G N, Q54.A, N, gamOf_ok (fun p hp => nomatch hp), ?_⟩⟩ (Q54.fit N)
 rw [absFn_n (n0 := 0) rfl (by kernel_rfl)]
 exact (Q54.entry N _ x).trans h
def Q87.as : List MK := [.d false (.int .u64)]
def Q87.rs : List (Bool × HT) := [(false, (.d tI))]
def Q87.lc : List AC := []
def Q87.D : DFn := ⟨Q87.as, Q87.rs, Int, fun x => Q87 N x.1, fun r o => r.1, fun b => (b, ()), fun b => (), none⟩
theorem Q87.fit : (Q87.D N).Fit := ⟨fun _ _ => rfl, fun _ _ => rfl, by kernel_rfl, (fun _ _ h => nomatch h), by kernel_rfl⟩
noncomputable def Q87.G (N : Nat) : Gam := gamOf []
def Q87.A : LA := fun _ => none
noncomputable def Q87.fin : St → Option Int := resK tb Try.f87.results.toList (decRes (Q87.D N) Q87.lc)
theorem Q87.entry (rec : RK Int) (x : (argH Q87.as).den) : seg tb (Q87.G N) Q87.A 0 rec (Q87.fin N) segFuel [.code (bodyOf Try.f87)] (initSt Try.f87 (encArgs Q87.as x) (encMem Q87.as x)) = Q87.e N x.1 := by kernel_rfl
theorem Q87.ok : FnOk Try.prog 87 (Q87.D N) := by
 refine fo ⟨Try.f87, Try.func87, by kernel_rfl, by kernel_rfl, fun x y h => ⟨Q87.G N, Q87.A, N, gamOf_ok (fun p hp => nomatch hp), ?_⟩⟩ (Q87.fit N)
 rw [absFn_n (n0 := 0) rfl (by kernel_rfl)]
 exact (Q87.entry N _ x).trans h
def Q74.as : List MK := [.d false (.int .u64)]
def Q74.rs : List (Bool × HT) := [(false, (.d tI))]
def Q74.lc : List AC := []
def Q74.D : DFn := ⟨Q74.as, Q74.rs, Int, fun x => Q74 N x.1, fun r o => r.1, fun b => (b, ()), fun b => (), none⟩
theorem Q74.fit : (Q74.D N).Fit := ⟨fun _ _ => rfl, fun _ _ => rfl, by kernel_rfl, (fun _ _ h => nomatch h), by kernel_rfl⟩
noncomputable def Q74.G : Gam := gamOf [(87, Q87.D N)]
def Q74.A : LA := fun _ => none
noncomputable def Q74.fin : St → Option Int := resK tb Try.f74.results.toList (decRes (Q74.D N) Q74.lc)
theorem Q74.entry (rec : RK Int) (x : (argH Q74.as).den) : seg tb (Q74.G N) Q74.A 0 rec (Q74.fin N) segFuel [.code (bodyOf Try.f74)] (initSt Try.f74 (encArgs Q74.as x) (encMem Q74.as x)) = Q74.e N x.1 := by kernel_rfl
theorem Q74.ok : FnOk Try.prog 74 (Q74.D N) := by
 refine fo ⟨Try.f74, Try.func74, by kernel_rfl, by kernel_rfl, fun x y h => ⟨Q74.G N, Q74.A, N, gamOf_ok (gc ⟨Q87.ok N, Q87.fit N⟩ gn), ?_⟩⟩ (Q74.fit N)
 rw [absFn_n (n0 := 0) rfl (by kernel_rfl)]
 exact (Q74.entry N _ x).trans h
def Q88.as : List MK := [.d false tI]
def Q88.rs : List (Bool × HT) := [(false, (.d .bool))]
def Q88.lc : List AC := []
def Q88.D : DFn := ⟨Q88.as, Q88.rs, Bool, fun x => Q88 N x.1, fun r o => r.1, fun b => (b, ()), fun b => (), none⟩
theorem Q88.fit : (Q88.D N).Fit := ⟨fun _ _ => rfl, fun _ _ => rfl, by kernel_rfl, (fun _ _ h => nomatch h), by kernel_rfl⟩
noncomputable def Q88.G (N : Nat) : Gam := gamOf []
def Q88.A : LA := fun _ => none
noncomputable def Q88.fin : St → Option Bool := resK tb Try.f88.results.toList (decRes (Q88.D N) Q88.lc)
theorem Q88.entry (rec : RK Bool) (x : (argH Q88.as).den) : seg tb (Q88.G N) Q88.A 0 rec (Q88.fin N) segFuel [.code (bodyOf Try.f88)] (initSt Try.f88 (encArgs Q88.as x) (encMem Q88.as x)) = Q88.e N x.1 := by kernel_rfl
theorem Q88.ok : FnOk Try.prog 88 (Q88.D N) := by
 refine fo ⟨Try.f88, Try.func88, by kernel_rfl, by kernel_rfl, fun x y h => ⟨Q88.G N, Q88.A, N, gamOf_ok (fun p hp => nomatch hp), ?_⟩⟩ (Q88.fit N)
 rw [absFn_n (n0 := 0) rfl (by kernel_rfl)]
 exact (Q88.entry N _ x).trans h
def Q76.as : List MK := [.d false tI, .d false tI]
def Q76.rs : List (Bool × HT) := [(false, (.d tI))]
def Q76.lc : List AC := []
def Q76.D : DFn := ⟨Q76.as, Q76.rs, Int, fun x => Q76 N x.1 x.2.1, fun r o => r.1, fun b => (b, ()), fun b => (), none⟩
theorem Q76.fit : (Q76.D N).Fit := ⟨fun _ _ => rfl, fun _ _ => rfl, by kernel_rfl, (fun _ _ h => nomatch h), by kernel_rfl⟩
noncomputable def Q76.G : Gam := gamOf [(88, Q88.D N)]
def Q76.A : LA := fun _ => none
noncomputable def Q76.fin : St → Option Int := resK tb Try.f76.results.toList (decRes (Q76.D N) Q76.lc)
theorem Q76.entry (rec : RK Int) (x : (argH Q76.as).den) : seg tb (Q76.G N) Q76.A 0 rec (Q76.fin N) segFuel [.code (bodyOf Try.f76)] (initSt Try.f76 (encArgs Q76.as x) (encMem Q76.as x)) = Q76.e N x.1 x.2.1 := by kernel_rfl
theorem Q76.ok : FnOk Try.prog 76 (Q76.D N) := by
 refine fo ⟨Try.f76, Try.func76, by kernel_rfl, by kernel_rfl, fun x y h => ⟨Q76.G N, Q76.A, N, gamOf_ok (gc ⟨Q88.ok N, Q88.fit N⟩ gn), ?_⟩⟩ (Q76.fit N)
 rw [absFn_n (n0 := 0) rfl (by kernel_rfl)]
 exact (Q76.entry N _ x).trans h
def Q75.as : List MK := [.d false (.slice 3 tI)]
def Q75.rs : List (Bool × HT) := [(false, (.d tI))]
def Q75.lc : List AC := []
def Q75.D : DFn := ⟨Q75.as, Q75.rs, Int, fun x => Q75 N x.1, fun r o => r.1, fun b => (b, ()), fun b => (), none⟩
theorem Q75.fit : (Q75.D N).Fit := ⟨fun _ _ => rfl, fun _ _ => rfl, by kernel_rfl, (fun _ _ h => nomatch h), by kernel_rfl⟩
noncomputable def Q75.G (N : Nat) : Gam := gamOf []
def Q75.A : LA := fun k => bif Nat.beq k 0 then some ⟨[3, 6, 7, 8], [], [], [], [], 0, false⟩ else none
noncomputable def Q75.fin : St → Option Int := resK tb Try.f75.results.toList (decRes (Q75.D N) Q75.lc)
noncomputable def Q75.k0 : List Item := stackAt [.r, .r, .l, .r, .b] (bodyOf Try.f75) []
def Q75.st0 (vals : LInt) (t8_ : Int) : St := ⟨rA 3 ++ [oi 0, oA, oA, .one (.fro 3 tI vals), oi (vals.length : Int), oi t8_] ++ rA 9, []⟩
theorem Q75.step0 (rec : RK Int) (vals : LInt) (t8_ : Int) : seg tb (Q75.G N) Q75.A 0 rec (Q75.fin N) segFuel (loopBody Q75.k0) (Q75.st0 vals t8_) = Q75.s0 N vals (fun t8_ => rec Q75.k0 (Q75.st0 vals t8_)) t8_ := by kernel_rfl
theorem Q75.entry (rec : RK Int) (x : (argH Q75.as).den) : seg tb (Q75.G N) Q75.A 0 rec (Q75.fin N) segFuel [.code (bodyOf Try.f75)] (initSt Try.f75 (encArgs Q75.as x) (encMem Q75.as x)) = Q75.e N (fun t8_ => rec Q75.k0 (Q75.st0 x.1 t8_)) x.1 := by kernel_rfl
theorem Q75.runs (N : Nat) (vals : LInt) : ∀ n, (∀ (t8_ : Int), run tb (Q75.G N) Q75.A 0 (Q75.fin N) n Q75.k0 (Q75.st0 vals t8_) = Q75.l0 N vals n t8_)
 | 0 => fun _ => rfl
 | n + 1 => by
  have h0 := Q75.runs N vals n
  have e0 : (fun (t8_ : Int) => run tb (Q75.G N) Q75.A 0 (Q75.fin N) n Q75.k0 (Q75.st0 vals t8_)) = Q75.l0 N vals n := by funext t8_; exact h0 t8_
  have g0 : (∀ (t8_ : Int), run tb (Q75.G N) Q75.A 0 (Q75.fin N) (n + 1) Q75.k0 (Q75.st0 vals t8_) = Q75.l0 N vals (n + 1) t8_) := by
   intro t8_
   exact (run_succ (by kernel_rfl)).trans ((Q75.step0 N _ vals t8_).trans ((congrArg (fun r0 => Q75.s0 N vals r0 t8_) e0).trans (Q75.l0_s N vals n t8_).symm))
  exact g0
theorem Q75.ok : FnOk Try.prog 75 (Q75.D N) := by
 refine fo ⟨Try.f75, Try.func75, by kernel_rfl, by kernel_rfl, fun x y h => ⟨Q75.G N, Q75.A, N, gamOf_ok (fun p hp => nomatch hp), ?_⟩⟩ (Q75.fit N)
 rw [absFn_n (n0 := 0) rfl (by kernel_rfl)]
 refine (Q75.entry N (run tb (Q75.G N) Q75.A 0 (Q75.fin N) N) x).trans ?_
 have e0 : (fun (t8_ : Int) => run tb (Q75.G N) Q75.A 0 (Q75.fin N) N Q75.k0 (Q75.st0 x.1 t8_)) = Q75.l0 N x.1 N := by funext t8_; exact (Q75.runs N x.1 N) t8_
 have h' : (Q75.D N).f x = Q75.e N (Q75.l0 N x.1 N) x.1 := by kernel_rfl
 exact (congrArg (fun r0 => Q75.e N r0 x.1) e0).trans (h'.symm.trans h)
def Q68.as : List MK := [.d true qc, .d true qc]
def Q68.rs : List (Bool × HT) := [(false, (.d tI))]
def Q68.lc : List AC := []
def Q68.D : DFn := ⟨Q68.as, Q68.rs, Int, fun x => Q68 N x.1 x.2.1, fun r o => r.1, fun b => (b, ()), fun b => (), none⟩
theorem Q68.fit : (Q68.D N).Fit := ⟨fun _ _ => rfl, fun _ _ => rfl, by kernel_rfl, (fun _ _ h => nomatch h), by kernel_rfl⟩
noncomputable def Q68.G : Gam := gamOf [(76, Q76.D N), (75, Q75.D N)]
def Q68.A : LA := fun _ => none
noncomputable def Q68.fin : St → Option Int := resK tb Try.f68.results.toList (decRes (Q68.D N) Q68.lc)
theorem Q68.entry (rec : RK Int) (x : (argH Q68.as).den) : seg tb (Q68.G N) Q68.A 0 rec (Q68.fin N) segFuel [.code (bodyOf Try.f68)] (initSt Try.f68 (encArgs Q68.as x) (encMem Q68.as x)) = Q68.e N x.1 x.2.1 := by kernel_rfl
theorem Q68.ok : FnOk Try.prog 68 (Q68.D N) := by
 refine fo ⟨Try.f68, Try.func68, by kernel_rfl, by kernel_rfl, fun x y h => ⟨Q68.G N, Q68.A, N, gamOf_ok (gc ⟨Q76.ok N, Q76.fit N⟩ (gc ⟨Q75.ok N, Q75.fit N⟩ gn)), ?_⟩⟩ (Q68.fit N)
 rw [absFn_n (n0 := 0) rfl (by kernel_rfl)]
 exact (Q68.entry N _ x).trans h
def Q78.as : List MK := [.o (.own 31 qc) true, .d false tI, .d false tI, .f 68]
def Q78.rs : List (Bool × HT) := []
def Q78.lc : List AC := [.own 0]
def Q78.D : DFn := ⟨Q78.as, Q78.rs, LMv, fun x => Q78 N x.1 x.2.1 x.2.2.1, fun r o => o.1, fun b => (), fun b => (b, ()), none⟩
theorem Q78.fit : (Q78.D N).Fit := ⟨fun _ _ => rfl, fun _ _ => rfl, by kernel_rfl, (fun _ _ h => nomatch h), by kernel_rfl⟩
noncomputable def Q78.G : Gam := gamOf [(68, Q68.D N)]
def Q78.A : LA := fun k => bif Nat.beq k 0 then some ⟨[0, 1, 2, 3, 8], [], [], [], [], 1, false⟩ else bif Nat.beq k 2 then some ⟨[0, 1, 2, 3, 8, 9], [], [], [], [], 1, false⟩ else none
noncomputable def Q78.fin : St → Option LMv := resK tb Try.f78.results.toList (decRes (Q78.D N) Q78.lc)
noncomputable def Q78.k0 : List Item := stackAt [.r, .b] (bodyOf Try.f78) []
def Q78.st0 (data : LMv) (a_ b_ i_ : Int) (data2 : LMv) : St := ⟨[.one (.own 0), oi a_, oi b_, .one (.fn 68)] ++ rA 4 ++ [oi i_] ++ rA 44, [.row 31 qc data2]⟩
noncomputable def Q78.k1 : List Item := stackAt [.r, .b, .w, .r, .l, .b, .r, .b] (bodyOf Try.f78) []
def Q78.st1 (data : LMv) (a_ b_ i_ j_ : Int) (data2 : LMv) : St := ⟨[.one (.own 0), oi a_, oi b_, .one (.fn 68)] ++ rA 4 ++ [oi i_, oi j_] ++ rA 43, [.row 31 qc data2]⟩
theorem Q78.step0 (rec : RK LMv) (data : LMv) (a_ b_ i_ : Int) (data2 : LMv) : seg tb (Q78.G N) Q78.A 1 rec (Q78.fin N) segFuel (loopBody Q78.k0) (Q78.st0 data a_ b_ i_ data2) = Q78.s0 N data a_ b_ (fun i_ data2 => rec Q78.k0 (Q78.st0 data a_ b_ i_ data2)) (fun i_ j_ data2 => rec Q78.k1 (Q78.st1 data a_ b_ i_ j_ data2)) i_ data2 := by kernel_rfl
theorem Q78.step1 (rec : RK LMv) (data : LMv) (a_ b_ i_ j_ : Int) (data2 : LMv) : seg tb (Q78.G N) Q78.A 1 rec (Q78.fin N) segFuel (loopBody Q78.k1) (Q78.st1 data a_ b_ i_ j_ data2) = Q78.s1 N data a_ b_ (fun i_ data2 => rec Q78.k0 (Q78.st0 data a_ b_ i_ data2)) (fun i_ j_ data2 => rec Q78.k1 (Q78.st1 data a_ b_ i_ j_ data2)) i_ j_ data2 := by kernel_rfl
theorem Q78.entry (rec : RK LMv) (x : (argH Q78.as).den) : seg tb (Q78.G N) Q78.A 1 rec (Q78.fin N) segFuel [.code (bodyOf Try.f78)] (initSt Try.f78 (encArgs Q78.as x) (encMem Q78.as x)) = Q78.e N (fun i_ data2 => rec Q78.k0 (Q78.st0 x.1 x.2.1 x.2.2.1 i_ data2)) (fun i_ j_ data2 => rec Q78.k1 (Q78.st1 x.1 x.2.1 x.2.2.1 i_ j_ data2)) x.1 x.2.1 x.2.2.1 := by kernel_rfl
theorem Q78.runs (N : Nat) (data : LMv) (a_ b_ : Int) : ∀ n, (∀ (i_ : Int) (data2 : LMv), run tb (Q78.G N) Q78.A 1 (Q78.fin N) n Q78.k0 (Q78.st0 data a_ b_ i_ data2) = Q78.l0 N data a_ b_ n i_ data2) ∧ (∀ (i_ j_ : Int) (data2 : LMv), run tb (Q78.G N) Q78.A 1 (Q78.fin N) n Q78.k1 (Q78.st1 data a_ b_ i_ j_ data2) = Q78.l1 N data a_ b_ n i_ j_ data2)
 | 0 => ⟨fun _ _ => rfl, fun _ _ _ => rfl⟩
 | n + 1 => by
  obtain ⟨h0, h1⟩ := Q78.runs N data a_ b_ n
  have e0 : (fun (i_ : Int) (data2 : LMv) => run tb (Q78.G N) Q78.A 1 (Q78.fin N) n Q78.k0 (Q78.st0 data a_ b_ i_ data2)) = Q78.l0 N data a_ b_ n := by funext i_ data2; exact h0 i_ data2
  have e1 : (fun (i_ j_ : Int) (data2 : LMv) => run tb (Q78.G N) Q78.A 1 (Q78.fin N) n Q78.k1 (Q78.st1 data a_ b_ i_ j_ data2)) = Q78.l1 N data a_ b_ n := by funext i_ j_ data2; exact h1 i_ j_ data2
  have g0 : (∀ (i_ : Int) (data2 : LMv), run tb (Q78.G N) Q78.A 1 (Q78.fin N) (n + 1) Q78.k0 (Q78.st0 data a_ b_ i_ data2) = Q78.l0 N data a_ b_ (n + 1) i_ data2) := by
   intro i_ data2
   exact (run_succ (by kernel_rfl)).trans ((Q78.step0 N _ data a_ b_ i_ data2).trans ((congr (congrArg (fun r0 r1 => Q78.s0 N data a_ b_ r0 r1 i_ data2) e0) e1).trans (Q78.l0_s N data a_ b_ n i_ data2).symm))
  have g1 : (∀ (i_ j_ : Int) (data2 : LMv), run tb (Q78.G N) Q78.A 1 (Q78.fin N) (n + 1) Q78.k1 (Q78.st1 data a_ b_ i_ j_ data2) = Q78.l1 N data a_ b_ (n + 1) i_ j_ data2) := by
   intro i_ j_ data2
   exact (run_succ (by kernel_rfl)).trans ((Q78.step1 N _ data a_ b_ i_ j_ data2).trans ((congr (congrArg (fun r0 r1 => Q78.s1 N data a_ b_ r0 r1 i_ j_ data2) e0) e1).trans (Q78.l1_s N data a_ b_ n i_ j_ data2).symm))
  exact ⟨g0, g1⟩
theorem Q78.ok : FnOk Try.prog 78 (Q78.D N) := by
 refine fo ⟨Try.f78, Try.func78, by kernel_rfl, by kernel_rfl, fun x y h => ⟨Q78.G N, Q78.A, N, gamOf_ok (gc ⟨Q68.ok N, Q68.fit N⟩ gn), ?_⟩⟩ (Q78.fit N)
 rw [absFn_n (n0 := 1) rfl (by kernel_rfl)]
 refine (Q78.entry N (run tb (Q78.G N) Q78.A 1 (Q78.fin N) N) x).trans ?_
 have e0 : (fun (i_ : Int) (data2 : LMv) => run tb (Q78.G N) Q78.A 1 (Q78.fin N) N Q78.k0 (Q78.st0 x.1 x.2.1 x.2.2.1 i_ data2)) = Q78.l0 N x.1 x.2.1 x.2.2.1 N := by funext i_ data2; exact (Q78.runs N x.1 x.2.1 x.2.2.1 N).1 i_ data2
 have e1 : (fun (i_ j_ : Int) (data2 : LMv) => run tb (Q78.G N) Q78.A 1 (Q78.fin N) N Q78.k1 (Q78.st1 x.1 x.2.1 x.2.2.1 i_ j_ data2)) = Q78.l1 N x.1 x.2.1 x.2.2.1 N := by funext i_ j_ data2; exact (Q78.runs N x.1 x.2.1 x.2.2.1 N).2 i_ j_ data2
 have h' : (Q78.D N).f x = Q78.e N (Q78.l0 N x.1 x.2.1 x.2.2.1 N) (Q78.l1 N x.1 x.2.1 x.2.2.1 N) x.1 x.2.1 x.2.2.1 := by kernel_rfl
 exact (congr (congrArg (fun r0 r1 => Q78.e N r0 r1 x.1 x.2.1 x.2.2.1) e0) e1).trans (h'.symm.trans h)
def Q89.as : List MK := [.o (.own 31 qc) true, .d false tI, .d false tI, .d false tI, .f 68]
def Q89.rs : List (Bool × HT) := []
def Q89.lc : List AC := [.own 0]
def Q89.D : DFn := ⟨Q89.as, Q89.rs, LMv, fun x => Q89 N x.1 x.2.1 x.2.2.1 x.2.2.2.1, fun r o => o.1, fun b => (), fun b => (b, ()), none⟩
theorem Q89.fit : (Q89.D N).Fit := ⟨fun _ _ => rfl, fun _ _ => rfl, by kernel_rfl, (fun _ _ h => nomatch h), by kernel_rfl⟩
noncomputable def Q89.G : Gam := gamOf [(68, Q68.D N)]
def Q89.A : LA := fun k => bif Nat.beq k 0 then some ⟨[0, 2, 3, 4, 10], [], [], [], [], 1, false⟩ else none
noncomputable def Q89.fin : St → Option LMv := resK tb Try.f89.results.toList (decRes (Q89.D N) Q89.lc)
noncomputable def Q89.k0 : List Item := stackAt [.r, .b] (bodyOf Try.f89) []
def Q89.st0 (data : LMv) (lo hi first root : Int) (data2 : LMv) : St := ⟨[.one (.own 0), oA, oi hi, oi first, .one (.fn 68)] ++ rA 5 ++ [oi root] ++ rA 71, [.row 31 qc data2]⟩
theorem Q89.step0 (rec : RK LMv) (data : LMv) (lo hi first root : Int) (data2 : LMv) : seg tb (Q89.G N) Q89.A 1 rec (Q89.fin N) segFuel (loopBody Q89.k0) (Q89.st0 data lo hi first root data2) = Q89.s0 N data lo hi first (fun root data2 => rec Q89.k0 (Q89.st0 data lo hi first root data2)) root data2 := by kernel_rfl
theorem Q89.entry (rec : RK LMv) (x : (argH Q89.as).den) : seg tb (Q89.G N) Q89.A 1 rec (Q89.fin N) segFuel [.code (bodyOf Try.f89)] (initSt Try.f89 (encArgs Q89.as x) (encMem Q89.as x)) = Q89.e N (fun root data2 => rec Q89.k0 (Q89.st0 x.1 x.2.1 x.2.2.1 x.2.2.2.1 root data2)) x.1 x.2.1 x.2.2.1 x.2.2.2.1 := by kernel_rfl
theorem Q89.runs (N : Nat) (data : LMv) (lo hi first : Int) : ∀ n, (∀ (root : Int) (data2 : LMv), run tb (Q89.G N) Q89.A 1 (Q89.fin N) n Q89.k0 (Q89.st0 data lo hi first root data2) = Q89.l0 N data lo hi first n root data2)
 | 0 => fun _ _ => rfl
 | n + 1 => by
  have h0 := Q89.runs N data lo hi first n
  have e0 : (fun (root : Int) (data2 : LMv) => run tb (Q89.G N) Q89.A 1 (Q89.fin N) n Q89.k0 (Q89.st0 data lo hi first root data2)) = Q89.l0 N data lo hi first n := by funext root data2; exact h0 root data2
  have g0 : (∀ (root : Int) (data2 : LMv), run tb (Q89.G N) Q89.A 1 (Q89.fin N) (n + 1) Q89.k0 (Q89.st0 data lo hi first root data2) = Q89.l0 N data lo hi first (n + 1) root data2) := by
   intro root data2
   exact (run_succ (by kernel_rfl)).trans ((Q89.step0 N _ data lo hi first root data2).trans ((congrArg (fun r0 => Q89.s0 N data lo hi first r0 root data2) e0).trans (Q89.l0_s N data lo hi first n root data2).symm))
  exact g0
theorem Q89.ok : FnOk Try.prog 89 (Q89.D N) := by
 refine fo ⟨Try.f89, Try.func89, by kernel_rfl, by kernel_rfl, fun x y h => ⟨Q89.G N, Q89.A, N, gamOf_ok (gc ⟨Q68.ok N, Q68.fit N⟩ gn), ?_⟩⟩ (Q89.fit N)
 rw [absFn_n (n0 := 1) rfl (by kernel_rfl)]
 refine (Q89.entry N (run tb (Q89.G N) Q89.A 1 (Q89.fin N) N) x).trans ?_
 have e0 : (fun (root : Int) (data2 : LMv) => run tb (Q89.G N) Q89.A 1 (Q89.fin N) N Q89.k0 (Q89.st0 x.1 x.2.1 x.2.2.1 x.2.2.2.1 root data2)) = Q89.l0 N x.1 x.2.1 x.2.2.1 x.2.2.2.1 N := by funext root data2; exact (Q89.runs N x.1 x.2.1 x.2.2.1 x.2.2.2.1 N) root data2
 have h' : (Q89.D N).f x = Q89.e N (Q89.l0 N x.1 x.2.1 x.2.2.1 x.2.2.2.1 N) x.1 x.2.1 x.2.2.1 x.2.2.2.1 := by kernel_rfl
 exact (congrArg (fun r0 => Q89.e N r0 x.1 x.2.1 x.2.2.1 x.2.2.2.1) e0).trans (h'.symm.trans h)
def Q79.as : List MK := [.o (.own 31 qc) true, .d false tI, .d false tI, .f 68]
def Q79.rs : List (Bool × HT) := []
def Q79.lc : List AC := [.own 0]
def Q79.D : DFn := ⟨Q79.as, Q79.rs, LMv, fun x => Q79 N x.1 x.2.1 x.2.2.1, fun r o => o.1, fun b => (), fun b => (b, ()), none⟩
theorem Q79.fit : (Q79.D N).Fit := ⟨fun _ _ => rfl, fun _ _ => rfl, by kernel_rfl, (fun _ _ h => nomatch h), by kernel_rfl⟩
noncomputable def Q79.G : Gam := gamOf [(89, Q89.D N)]
def Q79.A : LA := fun k => bif Nat.beq k 0 then some ⟨[0, 3, 8, 9, 10, 11], [], [], [], [], 1, false⟩ else bif Nat.beq k 2 then some ⟨[0, 3, 8, 9, 12], [], [], [], [], 1, false⟩ else none
noncomputable def Q79.fin : St → Option LMv := resK tb Try.f79.results.toList (decRes (Q79.D N) Q79.lc)
noncomputable def Q79.k0 : List Item := stackAt [.r, .r, .r, .l, .r, .b] (bodyOf Try.f79) []
def Q79.st0 (data : LMv) (a_ b_ i_ : Int) (data2 : LMv) : St := ⟨[.one (.own 0), oA, oA, .one (.fn 68)] ++ rA 4 ++ [oi a_, oi 0, oi (w64 (b_ - a_)), oi i_] ++ rA 48, [.row 31 qc data2]⟩
noncomputable def Q79.k1 : List Item := stackAt [.r, .r, .r, .r, .r, .b] (bodyOf Try.f79) []
def Q79.st1 (data : LMv) (a_ b_ i_ : Int) (data2 : LMv) : St := ⟨[.one (.own 0), oA, oA, .one (.fn 68)] ++ rA 4 ++ [oi a_, oi 0, oA, oA, oi i_] ++ rA 47, [.row 31 qc data2]⟩
theorem Q79.step0 (rec : RK LMv) (data : LMv) (a_ b_ i_ : Int) (data2 : LMv) : seg tb (Q79.G N) Q79.A 1 rec (Q79.fin N) segFuel (loopBody Q79.k0) (Q79.st0 data a_ b_ i_ data2) = Q79.s0 N data a_ b_ (fun i_ data2 => rec Q79.k0 (Q79.st0 data a_ b_ i_ data2)) (fun i_ data2 => rec Q79.k1 (Q79.st1 data a_ b_ i_ data2)) i_ data2 := by kernel_rfl
theorem Q79.step1 (rec : RK LMv) (data : LMv) (a_ b_ i_ : Int) (data2 : LMv) : seg tb (Q79.G N) Q79.A 1 rec (Q79.fin N) segFuel (loopBody Q79.k1) (Q79.st1 data a_ b_ i_ data2) = Q79.s1 N data a_ b_ (fun i_ data2 => rec Q79.k0 (Q79.st0 data a_ b_ i_ data2)) (fun i_ data2 => rec Q79.k1 (Q79.st1 data a_ b_ i_ data2)) i_ data2 := by kernel_rfl
theorem Q79.entry (rec : RK LMv) (x : (argH Q79.as).den) : seg tb (Q79.G N) Q79.A 1 rec (Q79.fin N) segFuel [.code (bodyOf Try.f79)] (initSt Try.f79 (encArgs Q79.as x) (encMem Q79.as x)) = Q79.e N (fun i_ data2 => rec Q79.k0 (Q79.st0 x.1 x.2.1 x.2.2.1 i_ data2)) (fun i_ data2 => rec Q79.k1 (Q79.st1 x.1 x.2.1 x.2.2.1 i_ data2)) x.1 x.2.1 x.2.2.1 := by kernel_rfl
theorem Q79.runs (N : Nat) (data : LMv) (a_ b_ : Int) : ∀ n, (∀ (i_ : Int) (data2 : LMv), run tb (Q79.G N) Q79.A 1 (Q79.fin N) n Q79.k0 (Q79.st0 data a_ b_ i_ data2) = Q79.l0 N data a_ b_ n i_ data2) ∧ (∀ (i_ : Int) (data2 : LMv), run tb (Q79.G N) Q79.A 1 (Q79.fin N) n Q79.k1 (Q79.st1 data a_ b_ i_ data2) = Q79.l1 N data a_ b_ n i_ data2)
 | 0 => ⟨fun _ _ => rfl, fun _ _ => rfl⟩
 | n + 1 => by
  obtain ⟨h0, h1⟩ := Q79.runs N data a_ b_ n
  have e0 : (fun (i_ : Int) (data2 : LMv) => run tb (Q79.G N) Q79.A 1 (Q79.fin N) n Q79.k0 (Q79.st0 data a_ b_ i_ data2)) = Q79.l0 N data a_ b_ n := by funext i_ data2; exact h0 i_ data2
  have e1 : (fun (i_ : Int) (data2 : LMv) => run tb (Q79.G N) Q79.A 1 (Q79.fin N) n Q79.k1 (Q79.st1 data a_ b_ i_ data2)) = Q79.l1 N data a_ b_ n := by funext i_ data2; exact h1 i_ data2
  have g0 : (∀ (i_ : Int) (data2 : LMv), run tb (Q79.G N) Q79.A 1 (Q79.fin N) (n + 1) Q79.k0 (Q79.st0 data a_ b_ i_ data2) = Q79.l0 N data a_ b_ (n + 1) i_ data2) := by
   intro i_ data2
   exact (run_succ (by kernel_rfl)).trans ((Q79.step0 N _ data a_ b_ i_ data2).trans ((congr (congrArg (fun r0 r1 => Q79.s0 N data a_ b_ r0 r1 i_ data2) e0) e1).trans (Q79.l0_s N data a_ b_ n i_ data2).symm))
  have g1 : (∀ (i_ : Int) (data2 : LMv), run tb (Q79.G N) Q79.A 1 (Q79.fin N) (n + 1) Q79.k1 (Q79.st1 data a_ b_ i_ data2) = Q79.l1 N data a_ b_ (n + 1) i_ data2) := by
   intro i_ data2
   exact (run_succ (by kernel_rfl)).trans ((Q79.step1 N _ data a_ b_ i_ data2).trans ((congr (congrArg (fun r0 r1 => Q79.s1 N data a_ b_ r0 r1 i_ data2) e0) e1).trans (Q79.l1_s N data a_ b_ n i_ data2).symm))
  exact ⟨g0, g1⟩
theorem Q79.ok : FnOk Try.prog 79 (Q79.D N) := by
 refine fo ⟨Try.f79, Try.func79, by kernel_rfl, by kernel_rfl, fun x y h => ⟨Q79.G N, Q79.A, N, gamOf_ok (gc ⟨Q89.ok N, Q89.fit N⟩ gn), ?_⟩⟩ (Q79.fit N)
 rw [absFn_n (n0 := 1) rfl (by kernel_rfl)]
 refine (Q79.entry N (run tb (Q79.G N) Q79.A 1 (Q79.fin N) N) x).trans ?_
 have e0 : (fun (i_ : Int) (data2 : LMv) => run tb (Q79.G N) Q79.A 1 (Q79.fin N) N Q79.k0 (Q79.st0 x.1 x.2.1 x.2.2.1 i_ data2)) = Q79.l0 N x.1 x.2.1 x.2.2.1 N := by funext i_ data2; exact (Q79.runs N x.1 x.2.1 x.2.2.1 N).1 i_ data2
 have e1 : (fun (i_ : Int) (data2 : LMv) => run tb (Q79.G N) Q79.A 1 (Q79.fin N) N Q79.k1 (Q79.st1 x.1 x.2.1 x.2.2.1 i_ data2)) = Q79.l1 N x.1 x.2.1 x.2.2.1 N := by funext i_ data2; exact (Q79.runs N x.1 x.2.1 x.2.2.1 N).2 i_ data2
 have h' : (Q79.D N).f x = Q79.e N (Q79.l0 N x.1 x.2.1 x.2.2.1 N) (Q79.l1 N x.1 x.2.1 x.2.2.1 N) x.1 x.2.1 x.2.2.1 := by kernel_rfl
 exact (congr (congrArg (fun r0 r1 => Q79.e N r0 r1 x.1 x.2.1 x.2.2.1) e0) e1).trans (h'.symm.trans h)
def Q94.as : List MK := [.d false (.slice 31 qc), .d false tI, .d false tI, .o (.ptr 3 (.d tI)) true, .f 68]
def Q94.rs : List (Bool × HT) := [(false, (.d tI)), (false, (.d tI))]
def Q94.lc : List AC := [.ptr 0 0]
def Q94.D : DFn := ⟨Q94.as, Q94.rs, (Int × Int × Int), fun x => Q94 N x.1 x.2.1 x.2.2.1 x.2.2.2.1, fun r o => (r.1, r.2.1, o.1), fun b => (b.1, (b.2.1, ())), fun b => (b.2.2, ()), none⟩
theorem Q94.fit : (Q94.D N).Fit := ⟨fun _ _ => rfl, fun _ _ => rfl, by kernel_rfl, (fun _ _ h => nomatch h), by kernel_rfl⟩
noncomputable def Q94.G : Gam := gamOf [(68, Q68.D N)]
def Q94.A : LA := fun _ => none
noncomputable def Q94.fin : St → Option (Int × Int × Int) := resK tb Try.f94.results.toList (decRes (Q94.D N) Q94.lc)
theorem Q94.entry (rec : RK (Int × Int × Int)) (x : (argH Q94.as).den) : seg tb (Q94.G N) Q94.A 1 rec (Q94.fin N) segFuel [.code (bodyOf Try.f94)] (initSt Try.f94 (encArgs Q94.as x) (encMem Q94.as x)) = Q94.e N x.1 x.2.1 x.2.2.1 x.2.2.2.1 := by kernel_rfl
theorem Q94.ok : FnOk Try.prog 94 (Q94.D N) := by
 refine fo ⟨Try.f94, Try.func94, by kernel_rfl, by kernel_rfl, fun x y h => ⟨Q94.G N, Q94.A, N, gamOf_ok (gc ⟨Q68.ok N, Q68.fit N⟩ gn), ?_⟩⟩ (Q94.fit N)
 rw [absFn_n (n0 := 1) rfl (by kernel_rfl)]
 exact (Q94.entry N _ x).trans h
def Q93.as : List MK := [.d false (.slice 31 qc), .d false tI, .d false tI, .d false tI, .o (.ptr 3 (.d tI)) true, .f 68]
def Q93.rs : List (Bool × HT) := [(false, (.d tI))]
def Q93.lc : List AC := [.ptr 0 0]
def Q93.D : DFn := ⟨Q93.as, Q93.rs, (Int × Int), fun x => Q93 N x.1 x.2.1 x.2.2.1 x.2.2.2.1 x.2.2.2.2.1, fun r o => (r.1, o.1), fun b => (b.1, ()), fun b => (b.2, ()), none⟩
theorem Q93.fit : (Q93.D N).Fit := ⟨fun _ _ => rfl, fun _ _ => rfl, by kernel_rfl, (fun _ _ h => nomatch h), by kernel_rfl⟩
noncomputable def Q93.G : Gam := gamOf [(94, Q94.D N)]
def Q93.A : LA := fun _ => none
noncomputable def Q93.fin : St → Option (Int × Int) := resK tb Try.f93.results.toList (decRes (Q93.D N) Q93.lc)
theorem Q93.entry (rec : RK (Int × Int)) (x : (argH Q93.as).den) : seg tb (Q93.G N) Q93.A 1 rec (Q93.fin N) segFuel [.code (bodyOf Try.f93)] (initSt Try.f93 (encArgs Q93.as x) (encMem Q93.as x)) = Q93.e N x.1 x.2.1 x.2.2.1 x.2.2.2.1 x.2.2.2.2.1 := by kernel_rfl
theorem Q93.ok : FnOk Try.prog 93 (Q93.D N) := by
 refine fo ⟨Try.f93, Try.func93, by kernel_rfl, by kernel_rfl, fun x y h => ⟨Q93.G N, Q93.A, N, gamOf_ok (gc ⟨Q94.ok N, Q94.fit N⟩ gn), ?_⟩⟩ (Q93.fit N)
 rw [absFn_n (n0 := 1) rfl (by kernel_rfl)]
 exact (Q93.entry N _ x).trans h
def Q92.as : List MK := [.d false (.slice 31 qc), .d false tI, .o (.ptr 3 (.d tI)) true, .f 68]
def Q92.rs : List (Bool × HT) := [(false, (.d tI))]
def Q92.lc : List AC := [.ptr 0 0]
def Q92.D : DFn := ⟨Q92.as, Q92.rs, (Int × Int), fun x => Q92 N x.1 x.2.1 x.2.2.1, fun r o => (r.1, o.1), fun b => (b.1, ()), fun b => (b.2, ()), none⟩
theorem Q92.fit : (Q92.D N).Fit := ⟨fun _ _ => rfl, fun _ _ => rfl, by kernel_rfl, (fun _ _ h => nomatch h), by kernel_rfl⟩
noncomputable def Q92.G : Gam := gamOf [(93, Q93.D N)]
def Q92.A : LA := fun _ => none
noncomputable def Q92.fin : St → Option (Int × Int) := resK tb Try.f92.results.toList (decRes (Q92.D N) Q92.lc)
theorem Q92.entry (rec : RK (Int × Int)) (x : (argH Q92.as).den) : seg tb (Q92.G N) Q92.A 1 rec (Q92.fin N) segFuel [.code (bodyOf Try.f92)] (initSt Try.f92 (encArgs Q92.as x) (encMem Q92.as x)) = Q92.e N x.1 x.2.1 x.2.2.1 := by kernel_rfl
theorem Q92.ok : FnOk Try.prog 92 (Q92.D N) := by
 refine fo ⟨Try.f92, Try.func92, by kernel_rfl, by kernel_rfl, fun x y h => ⟨Q92.G N, Q92.A, N, gamOf_ok (gc ⟨Q93.ok N, Q93.fit N⟩ gn), ?_⟩⟩ (Q92.fit N)
 rw [absFn_n (n0 := 1) rfl (by kernel_rfl)]
 exact (Q92.entry N _ x).trans h
def Q81.as : List MK := [.d false (.slice 31 qc), .d false tI, .d false tI, .f 68]
def Q81.rs : List (Bool × HT) := [(false, (.d tI)), (false, (.d tI))]
def Q81.lc : List AC := []
def Q81.D : DFn := ⟨Q81.as, Q81.rs, (Int × Int), fun x => Q81 N x.1 x.2.1 x.2.2.1, fun r o => (r.1, r.2.1), fun b => (b.1, (b.2, ())), fun b => (), none⟩
theorem Q81.fit : (Q81.D N).Fit := ⟨fun _ _ => rfl, fun _ _ => rfl, by kernel_rfl, (fun _ _ h => nomatch h), by kernel_rfl⟩
noncomputable def Q81.G : Gam := gamOf [(92, Q92.D N), (93, Q93.D N)]
def Q81.A : LA := fun _ => none
noncomputable def Q81.fin : St → Option (Int × Int) := resK tb Try.f81.results.toList (decRes (Q81.D N) Q81.lc)
theorem Q81.entry (rec : RK (Int × Int)) (x : (argH Q81.as).den) : seg tb (Q81.G N) Q81.A 0 rec (Q81.fin N) segFuel [.code (bodyOf Try.f81)] (initSt Try.f81 (encArgs Q81.as x) (encMem Q81.as x)) = Q81.e N x.1 x.2.1 x.2.2.1 := by kernel_rfl
theorem Q81.ok : FnOk Try.prog 81 (Q81.D N) := by
 refine fo ⟨Try.f81, Try.func81, by kernel_rfl, by kernel_rfl, fun x y h => ⟨Q81.G N, Q81.A, N, gamOf_ok (gc ⟨Q92.ok N, Q92.fit N⟩ (gc ⟨Q93.ok N, Q93.fit N⟩ gn)), ?_⟩⟩ (Q81.fit N)
 rw [absFn_n (n0 := 0) rfl (by kernel_rfl)]
 exact (Q81.entry N _ x).trans h
end Go.Proofs.Ytlfhchkhbecmbaa.Am
