/- PRINTED by gen.py: the abstract machine evaluates the loaded code to these functions. -/
import Derived.Test.YtnckilklmkpooaaGreatFnz1
import Derived.Test.YtnckilklmkpooaaGreatChecked
import Derived.Eval
set_option linter.unusedVariables false
set_option linter.unusedSimpArgs false
namespace Go.Proofs.YtnckilklmkpooaaGreat.Am
open Go
noncomputable section
set_option maxRecDepth 100000
def ti3 : TI := ⟨.int .i64, 1, 8, some (.int .i64), [.int .i64 0], false⟩
def ti4 : TI := ⟨.bool, 1, 1, some .bool, [.bool false], false⟩
def ti5 : TI := ⟨.int .u8, 1, 1, some (.int .u8), [.int .u8 0], false⟩
def ti9 : TI := ⟨.str, 1, 16, some .str, [.str (⟨#[]⟩ : ByteArray)], false⟩
def ti22 : TI := ⟨.slice 74, 1, 24, some (.slice 74 (.prod (.int .u8) (.prod (.int .i64) (.prod (.int .i64) (.slice 107 (.prod (.int .i64) (.prod (.int .i64) (.prod (.int .i64) (.int .i64))))))))), [.nilS], false⟩
def ti23 : TI := ⟨.slice 3, 1, 24, some (.slice 3 (.int .i64)), [.nilS], false⟩
def ti24 : TI := ⟨.slice 76, 1, 24, some (.slice 76 (.prod (.int .i64) (.prod (.int .i64) (.prod (.int .i64) .bool)))), [.nilS], false⟩
def ti26 : TI := ⟨.struct [(0, 9), (1, 3), (2, 3), (3, 22), (4, 23), (5, 4), (6, 4), (7, 24), (8, 3), (9, 3), (10, 3)], 11, 136, some (.prod .str (.prod (.int .i64) (.prod (.int .i64) (.prod (.slice 74 (.prod (.int .u8) (.prod (.int .i64) (.prod (.int .i64) (.slice 107 (.prod (.int .i64) (.prod (.int .i64) (.prod (.int .i64) (.int .i64))))))))) (.prod (.slice 3 (.int .i64)) (.prod .bool (.prod .bool (.prod (.slice 76 (.prod (.int .i64) (.prod (.int .i64) (.prod (.int .i64) .bool)))) (.prod (.int .i64) (.prod (.int .i64) (.int .i64))))))))))), [.str (⟨#[]⟩ : ByteArray), .int .i64 0, .int .i64 0, .nilS, .nilS, .bool false, .bool false, .nilS, .int .i64 0, .int .i64 0, .int .i64 0], false⟩
def ti27 : TI := ⟨.array 2 23, 2, 48, some (.prod (.slice 3 (.int .i64)) (.slice 3 (.int .i64))), [.nilS, .nilS], false⟩
def ti29 : TI := ⟨.struct [(0, 23), (1, 27), (3, 3), (4, 3)], 5, 88, some (.prod (.slice 3 (.int .i64)) (.prod (.prod (.slice 3 (.int .i64)) (.slice 3 (.int .i64))) (.prod (.int .i64) (.int .i64)))), [.nilS, .nilS, .nilS, .int .i64 0, .int .i64 0], false⟩
def ti31 : TI := ⟨.ptr 63, 1, 8, none, [.nilP], false⟩
def ti32 : TI := ⟨.int .i64, 1, 8, some (.int .i64), [.int .i64 0], false⟩
def ti40 : TI := ⟨.slice 46, 1, 24, some (.slice 46 (.prod (.int .i64) (.prod (.int .i64) (.int .i64)))), [.nilS], false⟩
def ti46 : TI := ⟨.struct [(0, 3), (1, 3), (2, 3)], 3, 24, some (.prod (.int .i64) (.prod (.int .i64) (.int .i64))), [.int .i64 0, .int .i64 0, .int .i64 0], true⟩
def ti61 : TI := ⟨.slice 115, 1, 24, some (.slice 115 (.prod (.prod (.slice 3 (.int .i64)) (.prod (.prod (.slice 3 (.int .i64)) (.slice 3 (.int .i64))) (.prod (.int .i64) (.int .i64)))) (.prod (.int .i64) (.prod (.int .i64) .bool)))), [.nilS], false⟩
def ti63 : TI := ⟨.struct [(0, 26), (11, 61), (12, 3), (13, 3)], 14, 176, some (.prod (.prod .str (.prod (.int .i64) (.prod (.int .i64) (.prod (.slice 74 (.prod (.int .u8) (.prod (.int .i64) (.prod (.int .i64) (.slice 107 (.prod (.int .i64) (.prod (.int .i64) (.prod (.int .i64) (.int .i64))))))))) (.prod (.slice 3 (.int .i64)) (.prod .bool (.prod .bool (.prod (.slice 76 (.prod (.int .i64) (.prod (.int .i64) (.prod (.int .i64) .bool)))) (.prod (.int .i64) (.prod (.int .i64) (.int .i64))))))))))) (.prod (.slice 115 (.prod (.prod (.slice 3 (.int .i64)) (.prod (.prod (.slice 3 (.int .i64)) (.slice 3 (.int .i64))) (.prod (.int .i64) (.int .i64)))) (.prod (.int .i64) (.prod (.int .i64) .bool)))) (.prod (.int .i64) (.int .i64)))), [.str (⟨#[]⟩ : ByteArray), .int .i64 0, .int .i64 0, .nilS, .nilS, .bool false, .bool false, .nilS, .int .i64 0, .int .i64 0, .int .i64 0, .nilS, .int .i64 0, .int .i64 0], false⟩
def ti65 : TI := ⟨.ptr 100, 1, 8, none, [.nilP], false⟩
def ti72 : TI := ⟨.slice 107, 1, 24, some (.slice 107 (.prod (.int .i64) (.prod (.int .i64) (.prod (.int .i64) (.int .i64))))), [.nilS], false⟩
def ti74 : TI := ⟨.struct [(0, 5), (1, 3), (2, 3), (3, 72)], 4, 48, some (.prod (.int .u8) (.prod (.int .i64) (.prod (.int .i64) (.slice 107 (.prod (.int .i64) (.prod (.int .i64) (.prod (.int .i64) (.int .i64)))))))), [.int .u8 0, .int .i64 0, .int .i64 0, .nilS], false⟩
def ti76 : TI := ⟨.struct [(0, 3), (1, 3), (2, 3), (3, 4)], 4, 32, some (.prod (.int .i64) (.prod (.int .i64) (.prod (.int .i64) .bool))), [.int .i64 0, .int .i64 0, .int .i64 0, .bool false], false⟩
def ti83 : TI := ⟨.slice 32, 1, 24, some (.slice 32 (.int .i64)), [.nilS], false⟩
def ti85 : TI := ⟨.other, 1, 8, none, [.nilF], false⟩
def ti92 : TI := ⟨.ptr 94, 1, 8, none, [.nilP], false⟩
def ti94 : TI := ⟨.struct [(0, 3)], 1, 8, some (.int .i64), [.int .i64 0], false⟩
def ti96 : TI := ⟨.int .u64, 1, 8, some (.int .u64), [.int .u64 0], false⟩
def ti98 : TI := ⟨.slice 127, 1, 24, some (.slice 127 (.prod (.prod (.int .i64) (.prod (.int .i64) (.int .i64))) (.prod (.int .i64) (.prod (.int .i64) (.prod .bool (.prod (.int .i64) (.int .u64))))))), [.nilS], false⟩
def ti100 : TI := ⟨.struct [(0, 26), (11, 29), (16, 96), (17, 98)], 18, 256, some (.prod (.prod .str (.prod (.int .i64) (.prod (.int .i64) (.prod (.slice 74 (.prod (.int .u8) (.prod (.int .i64) (.prod (.int .i64) (.slice 107 (.prod (.int .i64) (.prod (.int .i64) (.prod (.int .i64) (.int .i64))))))))) (.prod (.slice 3 (.int .i64)) (.prod .bool (.prod .bool (.prod (.slice 76 (.prod (.int .i64) (.prod (.int .i64) (.prod (.int .i64) .bool)))) (.prod (.int .i64) (.prod (.int .i64) (.int .i64))))))))))) (.prod (.prod (.slice 3 (.int .i64)) (.prod (.prod (.slice 3 (.int .i64)) (.slice 3 (.int .i64))) (.prod (.int .i64) (.int .i64)))) (.prod (.int .u64) (.slice 127 (.prod (.prod (.int .i64) (.prod (.int .i64) (.int .i64))) (.prod (.int .i64) (.prod (.int .i64) (.prod .bool (.prod (.int .i64) (.int .u64)))))))))), [.str (⟨#[]⟩ : ByteArray), .int .i64 0, .int .i64 0, .nilS, .nilS, .bool false, .bool false, .nilS, .int .i64 0, .int .i64 0, .int .i64 0, .nilS, .nilS, .nilS, .int .i64 0, .int .i64 0, .int .u64 0, .nilS], false⟩
def ti107 : TI := ⟨.struct [(0, 3), (1, 3), (2, 3), (3, 3)], 4, 32, some (.prod (.int .i64) (.prod (.int .i64) (.prod (.int .i64) (.int .i64)))), [.int .i64 0, .int .i64 0, .int .i64 0, .int .i64 0], false⟩
def ti110 : TI := ⟨.other, 1, 8, none, [.nilF], false⟩
def ti112 : TI := ⟨.ptr 115, 1, 8, none, [.nilP], false⟩
def ti115 : TI := ⟨.struct [(0, 29), (5, 3), (6, 3), (7, 4)], 8, 112, some (.prod (.prod (.slice 3 (.int .i64)) (.prod (.prod (.slice 3 (.int .i64)) (.slice 3 (.int .i64))) (.prod (.int .i64) (.int .i64)))) (.prod (.int .i64) (.prod (.int .i64) .bool))), [.nilS, .nilS, .nilS, .int .i64 0, .int .i64 0, .int .i64 0, .int .i64 0, .bool false], false⟩
def ti127 : TI := ⟨.struct [(0, 46), (3, 3), (4, 3), (5, 4), (6, 3), (7, 96)], 8, 64, some (.prod (.prod (.int .i64) (.prod (.int .i64) (.int .i64))) (.prod (.int .i64) (.prod (.int .i64) (.prod .bool (.prod (.int .i64) (.int .u64)))))), [.int .i64 0, .int .i64 0, .int .i64 0, .int .i64 0, .int .i64 0, .bool false, .int .i64 0, .int .u64 0], false⟩
def ti132 : TI := ⟨.int .u64, 1, 8, some (.int .u64), [.int .u64 0], false⟩
def ti138 : TI := ⟨.int .i64, 1, 8, some (.int .i64), [.int .i64 0], false⟩
def ti149 : TI := ⟨.int .u64, 1, 8, some (.int .u64), [.int .u64 0], false⟩
def ti153 : TI := ⟨.ptr 3, 1, 8, none, [.nilP], false⟩
def ti155 : TI := ⟨.array 2 3, 2, 16, some (.prod (.int .i64) (.int .i64)), [.int .i64 0, .int .i64 0], false⟩
def ti156 : TI := ⟨.array 4 155, 8, 64, some (.prod (.prod (.int .i64) (.int .i64)) (.prod (.prod (.int .i64) (.int .i64)) (.prod (.prod (.int .i64) (.int .i64)) (.prod (.int .i64) (.int .i64))))), [.int .i64 0, .int .i64 0, .int .i64 0, .int .i64 0, .int .i64 0, .int .i64 0, .int .i64 0, .int .i64 0], false⟩
def ti157 : TI := ⟨.ptr 149, 1, 8, none, [.nilP], false⟩
def tbt : TT := (.node 76 ti76 (.node 29 ti29 (.node 22 ti22 (.node 5 ti5 (.node 4 ti4 (.node 3 ti3 .nil .nil) .nil) (.node 9 ti9 .nil .nil)) (.node 26 ti26 (.node 24 ti24 (.node 23 ti23 .nil .nil) .nil) (.node 27 ti27 .nil .nil))) (.node 61 ti61 (.node 40 ti40 (.node 32 ti32 (.node 31 ti31 .nil .nil) .nil) (.node 46 ti46 .nil .nil)) (.node 72 ti72 (.node 65 ti65 (.node 63 ti63 .nil .nil) .nil) (.node 74 ti74 .nil .nil)))) (.node 112 ti112 (.node 96 ti96 (.node 92 ti92 (.node 85 ti85 (.node 83 ti83 .nil .nil) .nil) (.node 94 ti94 .nil .nil)) (.node 107 ti107 (.node 100 ti100 (.node 98 ti98 .nil .nil) .nil) (.node 110 ti110 .nil .nil))) (.node 149 ti149 (.node 132 ti132 (.node 127 ti127 (.node 115 ti115 .nil .nil) .nil) (.node 138 ti138 .nil .nil)) (.node 156 ti156 (.node 155 ti155 (.node 153 ti153 .nil .nil) .nil) (.node 157 ti157 .nil .nil)))))
def tb : Tab := tbt.get
theorem ti3_ok : TIok Tryz.prog tb 3 ti3 := TIok_mk (by kernel_rfl) (by kernel_rfl) ⟨rfl, rfl⟩ (by kernel_rfl) rfl (by kernel_rfl)
theorem ti4_ok : TIok Tryz.prog tb 4 ti4 := TIok_mk (by kernel_rfl) (by kernel_rfl) ⟨rfl, rfl⟩ (by kernel_rfl) rfl (by kernel_rfl)
theorem ti5_ok : TIok Tryz.prog tb 5 ti5 := TIok_mk (by kernel_rfl) (by kernel_rfl) ⟨rfl, rfl⟩ (by kernel_rfl) rfl (by kernel_rfl)
theorem ti9_ok : TIok Tryz.prog tb 9 ti9 := TIok_mk (by kernel_rfl) (by kernel_rfl) ⟨rfl, rfl⟩ (by kernel_rfl) rfl (by kernel_rfl)
theorem ti22_ok : TIok Tryz.prog tb 22 ti22 := TIok_mk (by kernel_rfl) (by kernel_rfl) ⟨rfl, rfl⟩ (by kernel_rfl) rfl (by kernel_rfl)
theorem ti23_ok : TIok Tryz.prog tb 23 ti23 := TIok_mk (by kernel_rfl) (by kernel_rfl) ⟨rfl, rfl⟩ (by kernel_rfl) rfl (by kernel_rfl)
theorem ti24_ok : TIok Tryz.prog tb 24 ti24 := TIok_mk (by kernel_rfl) (by kernel_rfl) ⟨rfl, rfl⟩ (by kernel_rfl) rfl (by kernel_rfl)
theorem ti26_ok : TIok Tryz.prog tb 26 ti26 := TIok_mk (by kernel_rfl) (by kernel_rfl) ⟨rfl, rfl⟩ (by kernel_rfl) rfl (by kernel_rfl)
theorem ti27_ok : TIok Tryz.prog tb 27 ti27 := TIok_mk (by kernel_rfl) (by kernel_rfl) ⟨rfl, rfl⟩ (by kernel_rfl) rfl (by kernel_rfl)
theorem ti29_ok : TIok Tryz.prog tb 29 ti29 := TIok_mk (by kernel_rfl) (by kernel_rfl) ⟨rfl, rfl⟩ (by kernel_rfl) rfl (by kernel_rfl)
theorem ti31_ok : TIok Tryz.prog tb 31 ti31 := TIok_mk (by kernel_rfl) (by kernel_rfl) trivial (by kernel_rfl) rfl (by kernel_rfl)
theorem ti32_ok : TIok Tryz.prog tb 32 ti32 := TIok_mk (by kernel_rfl) (by kernel_rfl) ⟨rfl, rfl⟩ (by kernel_rfl) rfl (by kernel_rfl)
theorem ti40_ok : TIok Tryz.prog tb 40 ti40 := TIok_mk (by kernel_rfl) (by kernel_rfl) ⟨rfl, rfl⟩ (by kernel_rfl) rfl (by kernel_rfl)
theorem ti46_ok : TIok Tryz.prog tb 46 ti46 := TIok_mk (by kernel_rfl) (by kernel_rfl) ⟨rfl, rfl⟩ (by kernel_rfl) rfl (by kernel_rfl)
theorem ti61_ok : TIok Tryz.prog tb 61 ti61 := TIok_mk (by kernel_rfl) (by kernel_rfl) ⟨rfl, rfl⟩ (by kernel_rfl) rfl (by kernel_rfl)
theorem ti63_ok : TIok Tryz.prog tb 63 ti63 := TIok_mk (by kernel_rfl) (by kernel_rfl) ⟨rfl, rfl⟩ (by kernel_rfl) rfl (by kernel_rfl)
theorem ti65_ok : TIok Tryz.prog tb 65 ti65 := TIok_mk (by kernel_rfl) (by kernel_rfl) trivial (by kernel_rfl) rfl (by kernel_rfl)
theorem ti72_ok : TIok Tryz.prog tb 72 ti72 := TIok_mk (by kernel_rfl) (by kernel_rfl) ⟨rfl, rfl⟩ (by kernel_rfl) rfl (by kernel_rfl)
theorem ti74_ok : TIok Tryz.prog tb 74 ti74 := TIok_mk (by kernel_rfl) (by kernel_rfl) ⟨rfl, rfl⟩ (by kernel_rfl) rfl (by kernel_rfl)
theorem ti76_ok : TIok Tryz.prog tb 76 ti76 := TIok_mk (by kernel_rfl) (by kernel_rfl) ⟨rfl, rfl⟩ (by kernel_rfl) rfl (by kernel_rfl)
theorem ti83_ok : TIok Tryz.prog tb 83 ti83 := TIok_mk (by kernel_rfl) (by kernel_rfl) ⟨rfl, rfl⟩ (by kernel_rfl) rfl (by kernel_rfl)
theorem ti85_ok : TIok Tryz.prog tb 85 ti85 := TIok_mk (by kernel_rfl) (by kernel_rfl) trivial (by kernel_rfl) rfl (by kernel_rfl)
theorem ti92_ok : TIok Tryz.prog tb 92 ti92 := TIok_mk (by kernel_rfl) (by kernel_rfl) trivial (by kernel_rfl) rfl (by kernel_rfl)
theorem ti94_ok : TIok Tryz.prog tb 94 ti94 := TIok_mk (by kernel_rfl) (by kernel_rfl) ⟨rfl, rfl⟩ (by kernel_rfl) rfl (by kernel_rfl)
theorem ti96_ok : TIok Tryz.prog tb 96 ti96 := TIok_mk (by kernel_rfl) (by kernel_rfl) ⟨rfl, rfl⟩ (by kernel_rfl) rfl (by kernel_rfl)
theorem ti98_ok : TIok Tryz.prog tb 98 ti98 := TIok_mk (by kernel_rfl) (by kernel_rfl) ⟨rfl, rfl⟩ (by kernel_rfl) rfl (by kernel_rfl)
theorem ti100_ok : TIok Tryz.prog tb 100 ti100 := TIok_mk (by kernel_rfl) (by kernel_rfl) ⟨rfl, rfl⟩ (by kernel_rfl) rfl (by kernel_rfl)
theorem ti107_ok : TIok Tryz.prog tb 107 ti107 := TIok_mk (by kernel_rfl) (by kernel_rfl) ⟨rfl, rfl⟩ (by kernel_rfl) rfl (by kernel_rfl)
theorem ti110_ok : TIok Tryz.prog tb 110 ti110 := TIok_mk (by kernel_rfl) (by kernel_rfl) trivial (by kernel_rfl) rfl (by kernel_rfl)
theorem ti112_ok : TIok Tryz.prog tb 112 ti112 := TIok_mk (by kernel_rfl) (by kernel_rfl) trivial (by kernel_rfl) rfl (by kernel_rfl)
theorem ti115_ok : TIok Tryz.prog tb 115 ti115 := TIok_mk (by kernel_rfl) (by kernel_rfl) ⟨rfl, rfl⟩ (by kernel_rfl) rfl (by kernel_rfl)
theorem ti127_ok : TIok Tryz.prog tb 127 ti127 := TIok_mk (by kernel_rfl) (by kernel_rfl) ⟨rfl, rfl⟩ (by kernel_rfl) rfl (by kernel_rfl)
theorem ti132_ok : TIok Tryz.prog tb 132 ti132 := TIok_mk (by kernel_rfl) (by kernel_rfl) ⟨rfl, rfl⟩ (by kernel_rfl) rfl (by kernel_rfl)
theorem ti138_ok : TIok Tryz.prog tb 138 ti138 := TIok_mk (by kernel_rfl) (by kernel_rfl) ⟨rfl, rfl⟩ (by kernel_rfl) rfl (by kernel_rfl)
theorem ti149_ok : TIok Tryz.prog tb 149 ti149 := TIok_mk (by kernel_rfl) (by kernel_rfl) ⟨rfl, rfl⟩ (by kernel_rfl) rfl (by kernel_rfl)
theorem ti153_ok : TIok Tryz.prog tb 153 ti153 := TIok_mk (by kernel_rfl) (by kernel_rfl) trivial (by kernel_rfl) rfl (by kernel_rfl)
theorem ti155_ok : TIok Tryz.prog tb 155 ti155 := TIok_mk (by kernel_rfl) (by kernel_rfl) ⟨rfl, rfl⟩ (by kernel_rfl) rfl (by kernel_rfl)
theorem ti156_ok : TIok Tryz.prog tb 156 ti156 := TIok_mk (by kernel_rfl) (by kernel_rfl) ⟨rfl, rfl⟩ (by kernel_rfl) rfl (by kernel_rfl)
theorem ti157_ok : TIok Tryz.prog tb 157 ti157 := TIok_mk (by kernel_rfl) (by kernel_rfl) trivial (by kernel_rfl) rfl (by kernel_rfl)
theorem tb_ok : TabOk Tryz.prog tb := TT.ok ⟨ti76_ok, ⟨ti29_ok, ⟨ti22_ok, ⟨ti5_ok, ⟨ti4_ok, ⟨ti3_ok, trivial, trivial⟩, trivial⟩, ⟨ti9_ok, trivial, trivial⟩⟩, ⟨ti26_ok, ⟨ti24_ok, ⟨ti23_ok, trivial, trivial⟩, trivial⟩, ⟨ti27_ok, trivial, trivial⟩⟩⟩, ⟨ti61_ok, ⟨ti40_ok, ⟨ti32_ok, ⟨ti31_ok, trivial, trivial⟩, trivial⟩, ⟨ti46_ok, trivial, trivial⟩⟩, ⟨ti72_ok, ⟨ti65_ok, ⟨ti63_ok, trivial, trivial⟩, trivial⟩, ⟨ti74_ok, trivial, trivial⟩⟩⟩⟩, ⟨ti112_ok, ⟨ti96_ok, ⟨ti92_ok, ⟨ti85_ok, ⟨ti83_ok, trivial, trivial⟩, trivial⟩, ⟨ti94_ok, trivial, trivial⟩⟩, ⟨ti107_ok, ⟨ti100_ok, ⟨ti98_ok, trivial, trivial⟩, trivial⟩, ⟨ti110_ok, trivial, trivial⟩⟩⟩, ⟨ti149_ok, ⟨ti132_ok, ⟨ti127_ok, ⟨ti115_ok, trivial, trivial⟩, trivial⟩, ⟨ti138_ok, trivial, trivial⟩⟩, ⟨ti156_ok, ⟨ti155_ok, ⟨ti153_ok, trivial, trivial⟩, trivial⟩, ⟨ti157_ok, trivial, trivial⟩⟩⟩⟩⟩
/-! ### f15: gamehall/gamehallkeep1.three -/
def gamehallkeep1_three.as : List MK := []
def gamehallkeep1_three.rs : List (Bool × HT) := [(true, (.prod (.d .str) (.prod (.d (.int .i64)) (.prod (.d (.int .i64)) (.prod (.own 74 (.prod (.int .u8) (.prod (.int .i64) (.prod (.int .i64) (.slice 107 (.prod (.int .i64) (.prod (.int .i64) (.prod (.int .i64) (.int .i64))))))))) (.prod (.own 3 (.int .i64)) (.prod (.d .bool) (.prod (.d .bool) (.prod (.own 76 (.prod (.int .i64) (.prod (.int .i64) (.prod (.int .i64) .bool)))) (.d (.prod (.int .i64) (.prod (.int .i64) (.int .i64)))))))))))))]
def gamehallkeep1_three.lc : List AC := []
def gamehallkeep1_three.D (N : Nat) : DFn := ⟨gamehallkeep1_three.as, gamehallkeep1_three.rs, TRules, fun x => gamehallkeep1_three N, fun r o => r.1, fun b => (b, ()), fun b => ()⟩
theorem gamehallkeep1_three.fit (N : Nat) : (gamehallkeep1_three.D N).Fit := ⟨fun _ _ => rfl, fun _ _ => rfl, by kernel_rfl⟩
noncomputable def gamehallkeep1_three.G (N : Nat) : Gam := gamOf []
def gamehallkeep1_three.A : Nat → Option LoopAnn := fun _ => none
noncomputable def gamehallkeep1_three.fin (N : Nat) : St → Option TRules := resK tb Tryz.f15.results.toList (decRes (gamehallkeep1_three.D N) gamehallkeep1_three.lc)
theorem gamehallkeep1_three.entry (N : Nat) (rec : List Item → St → Option TRules) (x : (argH gamehallkeep1_three.as).den) : seg tb (gamehallkeep1_three.G N) gamehallkeep1_three.A 0 rec (gamehallkeep1_three.fin N) segFuel [.code (bodyOf Tryz.f15)] (initSt Tryz.f15 (encArgs gamehallkeep1_three.as x) (encMem gamehallkeep1_three.as x)) = gamehallkeep1_three.e N := by kernel_rfl
theorem gamehallkeep1_three.ok (N : Nat) : FnOk Tryz.prog 15 (gamehallkeep1_three.D N) := by
  refine FnOk_of tb_ok (Checked.mixed Tryz.checked) ⟨Tryz.f15, Tryz.func15, by kernel_rfl, by kernel_rfl, fun x y h => ⟨gamehallkeep1_three.G N, gamehallkeep1_three.A, N, gamOf_ok (fun p hp => nomatch hp), ?_⟩⟩ (gamehallkeep1_three.fit N)
  rw [absFn_n (n0 := 0) rfl (by kernel_rfl)]
  exact (gamehallkeep1_three.entry N _ x).trans h
/-! ### f44: gamehall/rules.Name -/
def rules_Name.as : List MK := [.d false .str]
def rules_Name.rs : List (Bool × HT) := [(false, (.d .bool))]
def rules_Name.lc : List AC := []
def rules_Name.D (N : Nat) : DFn := ⟨rules_Name.as, rules_Name.rs, Bool, fun x => rules_Name N x.1, fun r o => r.1, fun b => (b, ()), fun b => ()⟩
theorem rules_Name.fit (N : Nat) : (rules_Name.D N).Fit := ⟨fun _ _ => rfl, fun _ _ => rfl, by kernel_rfl⟩
noncomputable def rules_Name.G (N : Nat) : Gam := gamOf []
def rules_Name.A : Nat → Option LoopAnn := fun k => bif Nat.beq k 0 then some ⟨[0, 22, 23], [], [], [], [], 0, false⟩ else none
noncomputable def rules_Name.fin (N : Nat) : St → Option Bool := resK tb Tryz.f44.results.toList (decRes (rules_Name.D N) rules_Name.lc)
noncomputable def rules_Name.k0 : List Item := stackAt [.r, .r, .l, .r, .b] (bodyOf Tryz.f44) []
def rules_Name.st0 (s_ : ByteArray) (t23_ : Int) : St := ⟨[.one (.str s_)] ++ List.replicate 21 (.one .any) ++ [.one (.int .i64 (s_.size : Int)), .one (.int .i64 t23_)] ++ List.replicate 25 (.one .any), []⟩
theorem rules_Name.step0 (N : Nat) (rec : List Item → St → Option Bool) (s_ : ByteArray) (t23_ : Int) : seg tb (rules_Name.G N) rules_Name.A 0 rec (rules_Name.fin N) segFuel (loopBody rules_Name.k0) (rules_Name.st0 s_ t23_) = rules_Name.s0 N s_ (fun t23_ => rec rules_Name.k0 (rules_Name.st0 s_ t23_)) t23_ := by kernel_rfl
theorem rules_Name.entry (N : Nat) (rec : List Item → St → Option Bool) (x : (argH rules_Name.as).den) : seg tb (rules_Name.G N) rules_Name.A 0 rec (rules_Name.fin N) segFuel [.code (bodyOf Tryz.f44)] (initSt Tryz.f44 (encArgs rules_Name.as x) (encMem rules_Name.as x)) = rules_Name.e N (fun t23_ => rec rules_Name.k0 (rules_Name.st0 x.1 t23_)) x.1 := by kernel_rfl
theorem rules_Name.runs (N : Nat) (s_ : ByteArray) : ∀ n, (∀ (t23_ : Int), run tb (rules_Name.G N) rules_Name.A 0 (rules_Name.fin N) n rules_Name.k0 (rules_Name.st0 s_ t23_) = rules_Name.l0 N s_ n t23_)
  | 0 => fun _ => rfl
  | n + 1 => by
    have h0 := rules_Name.runs N s_ n
    have e0 : (fun (t23_ : Int) => run tb (rules_Name.G N) rules_Name.A 0 (rules_Name.fin N) n rules_Name.k0 (rules_Name.st0 s_ t23_)) = rules_Name.l0 N s_ n := by funext t23_; exact h0 t23_
    have g0 : (∀ (t23_ : Int), run tb (rules_Name.G N) rules_Name.A 0 (rules_Name.fin N) (n + 1) rules_Name.k0 (rules_Name.st0 s_ t23_) = rules_Name.l0 N s_ (n + 1) t23_) := by
      intro t23_
      exact (run_succ (by kernel_rfl)).trans ((rules_Name.step0 N _ s_ t23_).trans ((congrArg (fun r0 => rules_Name.s0 N s_ r0 t23_) e0).trans (rules_Name.l0_s N s_ n t23_).symm))
    exact g0
theorem rules_Name.ok (N : Nat) : FnOk Tryz.prog 44 (rules_Name.D N) := by
  refine FnOk_of tb_ok (Checked.mixed Tryz.checked) ⟨Tryz.f44, Tryz.func44, by kernel_rfl, by kernel_rfl, fun x y h => ⟨rules_Name.G N, rules_Name.A, N, gamOf_ok (fun p hp => nomatch hp), ?_⟩⟩ (rules_Name.fit N)
  rw [absFn_n (n0 := 0) rfl (by kernel_rfl)]
  refine (rules_Name.entry N (run tb (rules_Name.G N) rules_Name.A 0 (rules_Name.fin N) N) x).trans ?_
  have e0 : (fun (t23_ : Int) => run tb (rules_Name.G N) rules_Name.A 0 (rules_Name.fin N) N rules_Name.k0 (rules_Name.st0 x.1 t23_)) = rules_Name.l0 N x.1 N := by funext t23_; exact (rules_Name.runs N x.1 N) t23_
  have h' : (rules_Name.D N).f x = rules_Name.e N (rules_Name.l0 N x.1 N) x.1 := by kernel_rfl
  exact (congrArg (fun r0 => rules_Name.e N r0 x.1) e0).trans (h'.symm.trans h)
/-! ### f72: gamehall/rules.way -/
def rules_way.as : List MK := [.d true (.prod (.int .i64) (.prod (.int .i64) (.prod (.int .i64) (.int .i64))))]
def rules_way.rs : List (Bool × HT) := [(false, (.d (.int .i64)))]
def rules_way.lc : List AC := []
def rules_way.D (N : Nat) : DFn := ⟨rules_way.as, rules_way.rs, Int, fun x => rules_way N x.1, fun r o => r.1, fun b => (b, ()), fun b => ()⟩
theorem rules_way.fit (N : Nat) : (rules_way.D N).Fit := ⟨fun _ _ => rfl, fun _ _ => rfl, by kernel_rfl⟩
noncomputable def rules_way.G (N : Nat) : Gam := gamOf []
def rules_way.A : Nat → Option LoopAnn := fun _ => none
noncomputable def rules_way.fin (N : Nat) : St → Option Int := resK tb Tryz.f72.results.toList (decRes (rules_way.D N) rules_way.lc)
theorem rules_way.entry (N : Nat) (rec : List Item → St → Option Int) (x : (argH rules_way.as).den) : seg tb (rules_way.G N) rules_way.A 0 rec (rules_way.fin N) segFuel [.code (bodyOf Tryz.f72)] (initSt Tryz.f72 (encArgs rules_way.as x) (encMem rules_way.as x)) = rules_way.e N x.1 := by kernel_rfl
theorem rules_way.ok (N : Nat) : FnOk Tryz.prog 72 (rules_way.D N) := by
  refine FnOk_of tb_ok (Checked.mixed Tryz.checked) ⟨Tryz.f72, Tryz.func72, by kernel_rfl, by kernel_rfl, fun x y h => ⟨rules_way.G N, rules_way.A, N, gamOf_ok (fun p hp => nomatch hp), ?_⟩⟩ (rules_way.fit N)
  rw [absFn_n (n0 := 0) rfl (by kernel_rfl)]
  exact (rules_way.entry N _ x).trans h
/-! ### f45: gamehall/rules.pieces -/
def rules_pieces.as : List MK := [.d false (.slice 74 (.prod (.int .u8) (.prod (.int .i64) (.prod (.int .i64) (.slice 107 (.prod (.int .i64) (.prod (.int .i64) (.prod (.int .i64) (.int .i64)))))))))]
def rules_pieces.rs : List (Bool × HT) := [(false, (.d (.int .i64)))]
def rules_pieces.lc : List AC := []
def rules_pieces.D (N : Nat) : DFn := ⟨rules_pieces.as, rules_pieces.rs, Int, fun x => rules_pieces N x.1, fun r o => r.1, fun b => (b, ()), fun b => ()⟩
theorem rules_pieces.fit (N : Nat) : (rules_pieces.D N).Fit := ⟨fun _ _ => rfl, fun _ _ => rfl, by kernel_rfl⟩
noncomputable def rules_pieces.G (N : Nat) : Gam := gamOf [(72, rules_way.D N)]
def rules_pieces.A : Nat → Option LoopAnn := fun k => bif Nat.beq k 1 then some ⟨[0, 18, 19, 20], [], [], [], [], 0, false⟩ else bif Nat.beq k 3 then some ⟨[0, 4, 18, 19, 20, 35, 36, 37], [], [], [], [], 1, false⟩ else bif Nat.beq k 5 then some ⟨[0, 18, 19, 20, 72, 73, 74], [], [], [], [], 0, false⟩ else none
noncomputable def rules_pieces.fin (N : Nat) : St → Option Int := resK tb Tryz.f45.results.toList (decRes (rules_pieces.D N) rules_pieces.lc)
noncomputable def rules_pieces.k0 : List Item := stackAt [.r, .r, .l, .r, .b] (bodyOf Tryz.f45) []
def rules_pieces.st0 (l_ : (List TPiece)) (t20_ : Int) : St := ⟨[.one (.fro 74 (.prod (.int .u8) (.prod (.int .i64) (.prod (.int .i64) (.slice 107 (.prod (.int .i64) (.prod (.int .i64) (.prod (.int .i64) (.int .i64)))))))) l_)] ++ List.replicate 17 (.one .any) ++ [.one (.fro 74 (.prod (.int .u8) (.prod (.int .i64) (.prod (.int .i64) (.slice 107 (.prod (.int .i64) (.prod (.int .i64) (.prod (.int .i64) (.int .i64)))))))) l_), .one (.int .i64 (l_.length : Int)), .one (.int .i64 t20_)] ++ List.replicate 64 (.one .any), []⟩
noncomputable def rules_pieces.k1 : List Item := stackAt [.r, .r, .l, .r, .b, .w, .r, .r, .l, .b, .r, .r, .l, .r, .b] (bodyOf Tryz.f45) []
def rules_pieces.st1 (l_ : (List TPiece)) (t20_ : Int) (t35_ : (List TPiece)) (t36_ : Int) (t37_ : Int) (p_ : Int) (p_2 : Int) (p_3 : Int) (p_4 : (List TWay)) : St := ⟨[.one (.fro 74 (.prod (.int .u8) (.prod (.int .i64) (.prod (.int .i64) (.slice 107 (.prod (.int .i64) (.prod (.int .i64) (.prod (.int .i64) (.int .i64)))))))) l_)] ++ List.replicate 3 (.one .any) ++ [.one (.ptr 0 0)] ++ List.replicate 13 (.one .any) ++ [.one (.fro 74 (.prod (.int .u8) (.prod (.int .i64) (.prod (.int .i64) (.slice 107 (.prod (.int .i64) (.prod (.int .i64) (.prod (.int .i64) (.int .i64)))))))) l_), .one (.int .i64 (l_.length : Int)), .one (.int .i64 t20_)] ++ List.replicate 14 (.one .any) ++ [.one (.fro 74 (.prod (.int .u8) (.prod (.int .i64) (.prod (.int .i64) (.slice 107 (.prod (.int .i64) (.prod (.int .i64) (.prod (.int .i64) (.int .i64)))))))) t35_), .one (.int .i64 t36_), .one (.int .i64 t37_)] ++ List.replicate 47 (.one .any), [.var 74 [.int .u8 p_, .int .i64 p_2, .int .i64 p_3, .fro 107 (.prod (.int .i64) (.prod (.int .i64) (.prod (.int .i64) (.int .i64)))) p_4]]⟩
noncomputable def rules_pieces.k2 : List Item := stackAt [.r, .r, .l, .r, .b, .w, .r, .r, .l, .b, .r, .r, .r, .r, .r, .r, .b] (bodyOf Tryz.f45) []
def rules_pieces.st2 (l_ : (List TPiece)) (t20_ : Int) (t72_ : (List TWay)) (t73_ : Int) (t74_ : Int) : St := ⟨[.one (.fro 74 (.prod (.int .u8) (.prod (.int .i64) (.prod (.int .i64) (.slice 107 (.prod (.int .i64) (.prod (.int .i64) (.prod (.int .i64) (.int .i64)))))))) l_)] ++ List.replicate 17 (.one .any) ++ [.one (.fro 74 (.prod (.int .u8) (.prod (.int .i64) (.prod (.int .i64) (.slice 107 (.prod (.int .i64) (.prod (.int .i64) (.prod (.int .i64) (.int .i64)))))))) l_), .one (.int .i64 (l_.length : Int)), .one (.int .i64 t20_)] ++ List.replicate 51 (.one .any) ++ [.one (.fro 107 (.prod (.int .i64) (.prod (.int .i64) (.prod (.int .i64) (.int .i64)))) t72_), .one (.int .i64 t73_), .one (.int .i64 t74_)] ++ List.replicate 10 (.one .any), []⟩
theorem rules_pieces.step0 (N : Nat) (rec : List Item → St → Option Int) (l_ : (List TPiece)) (t20_ : Int) : seg tb (rules_pieces.G N) rules_pieces.A 0 rec (rules_pieces.fin N) segFuel (loopBody rules_pieces.k0) (rules_pieces.st0 l_ t20_) = rules_pieces.s0 N l_ (fun t20_ => rec rules_pieces.k0 (rules_pieces.st0 l_ t20_)) (fun t20_ t35_ t36_ t37_ p_ p_2 p_3 p_4 => rec rules_pieces.k1 (rules_pieces.st1 l_ t20_ t35_ t36_ t37_ p_ p_2 p_3 p_4)) (fun t20_ t72_ t73_ t74_ => rec rules_pieces.k2 (rules_pieces.st2 l_ t20_ t72_ t73_ t74_)) t20_ := by kernel_rfl
theorem rules_pieces.step1 (N : Nat) (rec : List Item → St → Option Int) (l_ : (List TPiece)) (t20_ : Int) (t35_ : (List TPiece)) (t36_ : Int) (t37_ : Int) (p_ : Int) (p_2 : Int) (p_3 : Int) (p_4 : (List TWay)) : seg tb (rules_pieces.G N) rules_pieces.A 0 rec (rules_pieces.fin N) segFuel (loopBody rules_pieces.k1) (rules_pieces.st1 l_ t20_ t35_ t36_ t37_ p_ p_2 p_3 p_4) = rules_pieces.s1 N l_ (fun t20_ => rec rules_pieces.k0 (rules_pieces.st0 l_ t20_)) (fun t20_ t35_ t36_ t37_ p_ p_2 p_3 p_4 => rec rules_pieces.k1 (rules_pieces.st1 l_ t20_ t35_ t36_ t37_ p_ p_2 p_3 p_4)) (fun t20_ t72_ t73_ t74_ => rec rules_pieces.k2 (rules_pieces.st2 l_ t20_ t72_ t73_ t74_)) t20_ t35_ t36_ t37_ p_ p_2 p_3 p_4 := by kernel_rfl
theorem rules_pieces.step2 (N : Nat) (rec : List Item → St → Option Int) (l_ : (List TPiece)) (t20_ : Int) (t72_ : (List TWay)) (t73_ : Int) (t74_ : Int) : seg tb (rules_pieces.G N) rules_pieces.A 0 rec (rules_pieces.fin N) segFuel (loopBody rules_pieces.k2) (rules_pieces.st2 l_ t20_ t72_ t73_ t74_) = rules_pieces.s2 N l_ (fun t20_ => rec rules_pieces.k0 (rules_pieces.st0 l_ t20_)) (fun t20_ t35_ t36_ t37_ p_ p_2 p_3 p_4 => rec rules_pieces.k1 (rules_pieces.st1 l_ t20_ t35_ t36_ t37_ p_ p_2 p_3 p_4)) (fun t20_ t72_ t73_ t74_ => rec rules_pieces.k2 (rules_pieces.st2 l_ t20_ t72_ t73_ t74_)) t20_ t72_ t73_ t74_ := by kernel_rfl
theorem rules_pieces.entry (N : Nat) (rec : List Item → St → Option Int) (x : (argH rules_pieces.as).den) : seg tb (rules_pieces.G N) rules_pieces.A 0 rec (rules_pieces.fin N) segFuel [.code (bodyOf Tryz.f45)] (initSt Tryz.f45 (encArgs rules_pieces.as x) (encMem rules_pieces.as x)) = rules_pieces.e N (fun t20_ => rec rules_pieces.k0 (rules_pieces.st0 x.1 t20_)) (fun t20_ t35_ t36_ t37_ p_ p_2 p_3 p_4 => rec rules_pieces.k1 (rules_pieces.st1 x.1 t20_ t35_ t36_ t37_ p_ p_2 p_3 p_4)) (fun t20_ t72_ t73_ t74_ => rec rules_pieces.k2 (rules_pieces.st2 x.1 t20_ t72_ t73_ t74_)) x.1 := by kernel_rfl
theorem rules_pieces.runs (N : Nat) (l_ : (List TPiece)) : ∀ n, (∀ (t20_ : Int), run tb (rules_pieces.G N) rules_pieces.A 0 (rules_pieces.fin N) n rules_pieces.k0 (rules_pieces.st0 l_ t20_) = rules_pieces.l0 N l_ n t20_) ∧ (∀ (t20_ : Int) (t35_ : (List TPiece)) (t36_ : Int) (t37_ : Int) (p_ : Int) (p_2 : Int) (p_3 : Int) (p_4 : (List TWay)), run tb (rules_pieces.G N) rules_pieces.A 0 (rules_pieces.fin N) n rules_pieces.k1 (rules_pieces.st1 l_ t20_ t35_ t36_ t37_ p_ p_2 p_3 p_4) = rules_pieces.l1 N l_ n t20_ t35_ t36_ t37_ p_ p_2 p_3 p_4) ∧ (∀ (t20_ : Int) (t72_ : (List TWay)) (t73_ : Int) (t74_ : Int), run tb (rules_pieces.G N) rules_pieces.A 0 (rules_pieces.fin N) n rules_pieces.k2 (rules_pieces.st2 l_ t20_ t72_ t73_ t74_) = rules_pieces.l2 N l_ n t20_ t72_ t73_ t74_)
  | 0 => ⟨fun _ => rfl, fun _ _ _ _ _ _ _ _ => rfl, fun _ _ _ _ => rfl⟩
  | n + 1 => by
    obtain ⟨h0, h1, h2⟩ := rules_pieces.runs N l_ n
    have e0 : (fun (t20_ : Int) => run tb (rules_pieces.G N) rules_pieces.A 0 (rules_pieces.fin N) n rules_pieces.k0 (rules_pieces.st0 l_ t20_)) = rules_pieces.l0 N l_ n := by funext t20_; exact h0 t20_
    have e1 : (fun (t20_ : Int) (t35_ : (List TPiece)) (t36_ : Int) (t37_ : Int) (p_ : Int) (p_2 : Int) (p_3 : Int) (p_4 : (List TWay)) => run tb (rules_pieces.G N) rules_pieces.A 0 (rules_pieces.fin N) n rules_pieces.k1 (rules_pieces.st1 l_ t20_ t35_ t36_ t37_ p_ p_2 p_3 p_4)) = rules_pieces.l1 N l_ n := by funext t20_ t35_ t36_ t37_ p_ p_2 p_3 p_4; exact h1 t20_ t35_ t36_ t37_ p_ p_2 p_3 p_4
    have e2 : (fun (t20_ : Int) (t72_ : (List TWay)) (t73_ : Int) (t74_ : Int) => run tb (rules_pieces.G N) rules_pieces.A 0 (rules_pieces.fin N) n rules_pieces.k2 (rules_pieces.st2 l_ t20_ t72_ t73_ t74_)) = rules_pieces.l2 N l_ n := by funext t20_ t72_ t73_ t74_; exact h2 t20_ t72_ t73_ t74_
    have g0 : (∀ (t20_ : Int), run tb (rules_pieces.G N) rules_pieces.A 0 (rules_pieces.fin N) (n + 1) rules_pieces.k0 (rules_pieces.st0 l_ t20_) = rules_pieces.l0 N l_ (n + 1) t20_) := by
      intro t20_
      exact (run_succ (by kernel_rfl)).trans ((rules_pieces.step0 N _ l_ t20_).trans ((congr (congr (congrArg (fun r0 r1 r2 => rules_pieces.s0 N l_ r0 r1 r2 t20_) e0) e1) e2).trans (rules_pieces.l0_s N l_ n t20_).symm))
    have g1 : (∀ (t20_ : Int) (t35_ : (List TPiece)) (t36_ : Int) (t37_ : Int) (p_ : Int) (p_2 : Int) (p_3 : Int) (p_4 : (List TWay)), run tb (rules_pieces.G N) rules_pieces.A 0 (rules_pieces.fin N) (n + 1) rules_pieces.k1 (rules_pieces.st1 l_ t20_ t35_ t36_ t37_ p_ p_2 p_3 p_4) = rules_pieces.l1 N l_ (n + 1) t20_ t35_ t36_ t37_ p_ p_2 p_3 p_4) := by
      intro t20_ t35_ t36_ t37_ p_ p_2 p_3 p_4
      exact (run_succ (by kernel_rfl)).trans ((rules_pieces.step1 N _ l_ t20_ t35_ t36_ t37_ p_ p_2 p_3 p_4).trans ((congr (congr (congrArg (fun r0 r1 r2 => rules_pieces.s1 N l_ r0 r1 r2 t20_ t35_ t36_ t37_ p_ p_2 p_3 p_4) e0) e1) e2).trans (rules_pieces.l1_s N l_ n t20_ t35_ t36_ t37_ p_ p_2 p_3 p_4).symm))
    have g2 : (∀ (t20_ : Int) (t72_ : (List TWay)) (t73_ : Int) (t74_ : Int), run tb (rules_pieces.G N) rules_pieces.A 0 (rules_pieces.fin N) (n + 1) rules_pieces.k2 (rules_pieces.st2 l_ t20_ t72_ t73_ t74_) = rules_pieces.l2 N l_ (n + 1) t20_ t72_ t73_ t74_) := by
      intro t20_ t72_ t73_ t74_
      exact (run_succ (by kernel_rfl)).trans ((rules_pieces.step2 N _ l_ t20_ t72_ t73_ t74_).trans ((congr (congr (congrArg (fun r0 r1 r2 => rules_pieces.s2 N l_ r0 r1 r2 t20_ t72_ t73_ t74_) e0) e1) e2).trans (rules_pieces.l2_s N l_ n t20_ t72_ t73_ t74_).symm))
    exact ⟨g0, g1, g2⟩
theorem rules_pieces.ok (N : Nat) : FnOk Tryz.prog 45 (rules_pieces.D N) := by
  refine FnOk_of tb_ok (Checked.mixed Tryz.checked) ⟨Tryz.f45, Tryz.func45, by kernel_rfl, by kernel_rfl, fun x y h => ⟨rules_pieces.G N, rules_pieces.A, N, gamOf_ok (by simp only [List.forall_mem_cons, List.not_mem_nil, false_implies, implies_true, and_true]; exact ⟨rules_way.ok N, rules_way.fit N⟩), ?_⟩⟩ (rules_pieces.fit N)
  rw [absFn_n (n0 := 0) rfl (by kernel_rfl)]
  refine (rules_pieces.entry N (run tb (rules_pieces.G N) rules_pieces.A 0 (rules_pieces.fin N) N) x).trans ?_
  have e0 : (fun (t20_ : Int) => run tb (rules_pieces.G N) rules_pieces.A 0 (rules_pieces.fin N) N rules_pieces.k0 (rules_pieces.st0 x.1 t20_)) = rules_pieces.l0 N x.1 N := by funext t20_; exact (rules_pieces.runs N x.1 N).1 t20_
  have e1 : (fun (t20_ : Int) (t35_ : (List TPiece)) (t36_ : Int) (t37_ : Int) (p_ : Int) (p_2 : Int) (p_3 : Int) (p_4 : (List TWay)) => run tb (rules_pieces.G N) rules_pieces.A 0 (rules_pieces.fin N) N rules_pieces.k1 (rules_pieces.st1 x.1 t20_ t35_ t36_ t37_ p_ p_2 p_3 p_4)) = rules_pieces.l1 N x.1 N := by funext t20_ t35_ t36_ t37_ p_ p_2 p_3 p_4; exact (rules_pieces.runs N x.1 N).2.1 t20_ t35_ t36_ t37_ p_ p_2 p_3 p_4
  have e2 : (fun (t20_ : Int) (t72_ : (List TWay)) (t73_ : Int) (t74_ : Int) => run tb (rules_pieces.G N) rules_pieces.A 0 (rules_pieces.fin N) N rules_pieces.k2 (rules_pieces.st2 x.1 t20_ t72_ t73_ t74_)) = rules_pieces.l2 N x.1 N := by funext t20_ t72_ t73_ t74_; exact (rules_pieces.runs N x.1 N).2.2 t20_ t72_ t73_ t74_
  have h' : (rules_pieces.D N).f x = rules_pieces.e N (rules_pieces.l0 N x.1 N) (rules_pieces.l1 N x.1 N) (rules_pieces.l2 N x.1 N) x.1 := by kernel_rfl
  exact (congr (congr (congrArg (fun r0 r1 r2 => rules_pieces.e N r0 r1 r2 x.1) e0) e1) e2).trans (h'.symm.trans h)
/-! ### f46: gamehall/rules.end -/
def rules_end.as : List MK := [.d true (.prod (.int .i64) (.prod (.int .i64) (.prod (.int .i64) .bool))), .d false (.int .i64)]
def rules_end.rs : List (Bool × HT) := [(false, (.d (.int .i64)))]
def rules_end.lc : List AC := []
def rules_end.D (N : Nat) : DFn := ⟨rules_end.as, rules_end.rs, Int, fun x => rules_end N x.1 x.2.1, fun r o => r.1, fun b => (b, ()), fun b => ()⟩
theorem rules_end.fit (N : Nat) : (rules_end.D N).Fit := ⟨fun _ _ => rfl, fun _ _ => rfl, by kernel_rfl⟩
noncomputable def rules_end.G (N : Nat) : Gam := gamOf []
def rules_end.A : Nat → Option LoopAnn := fun _ => none
noncomputable def rules_end.fin (N : Nat) : St → Option Int := resK tb Tryz.f46.results.toList (decRes (rules_end.D N) rules_end.lc)
theorem rules_end.entry (N : Nat) (rec : List Item → St → Option Int) (x : (argH rules_end.as).den) : seg tb (rules_end.G N) rules_end.A 0 rec (rules_end.fin N) segFuel [.code (bodyOf Tryz.f46)] (initSt Tryz.f46 (encArgs rules_end.as x) (encMem rules_end.as x)) = rules_end.e N x.1 x.2.1 := by kernel_rfl
theorem rules_end.ok (N : Nat) : FnOk Tryz.prog 46 (rules_end.D N) := by
  refine FnOk_of tb_ok (Checked.mixed Tryz.checked) ⟨Tryz.f46, Tryz.func46, by kernel_rfl, by kernel_rfl, fun x y h => ⟨rules_end.G N, rules_end.A, N, gamOf_ok (fun p hp => nomatch hp), ?_⟩⟩ (rules_end.fit N)
  rw [absFn_n (n0 := 0) rfl (by kernel_rfl)]
  exact (rules_end.entry N _ x).trans h
/-! ### f25: gamehall/rules.Check -/
def rules_Check.as : List MK := [.d true (.prod .str (.prod (.int .i64) (.prod (.int .i64) (.prod (.slice 74 (.prod (.int .u8) (.prod (.int .i64) (.prod (.int .i64) (.slice 107 (.prod (.int .i64) (.prod (.int .i64) (.prod (.int .i64) (.int .i64))))))))) (.prod (.slice 3 (.int .i64)) (.prod .bool (.prod .bool (.prod (.slice 76 (.prod (.int .i64) (.prod (.int .i64) (.prod (.int .i64) .bool)))) (.prod (.int .i64) (.prod (.int .i64) (.int .i64)))))))))))]
def rules_Check.rs : List (Bool × HT) := [(false, (.d (.int .i64)))]
def rules_Check.lc : List AC := []
def rules_Check.D (N : Nat) : DFn := ⟨rules_Check.as, rules_Check.rs, Int, fun x => rules_Check N x.1, fun r o => r.1, fun b => (b, ()), fun b => ()⟩
theorem rules_Check.fit (N : Nat) : (rules_Check.D N).Fit := ⟨fun _ _ => rfl, fun _ _ => rfl, by kernel_rfl⟩
noncomputable def rules_Check.G (N : Nat) : Gam := gamOf [(44, rules_Name.D N), (45, rules_pieces.D N), (46, rules_end.D N)]
def rules_Check.A : Nat → Option LoopAnn := fun k => bif Nat.beq k 1 then some ⟨[1, 49, 50, 51], [], [], [], [], 1, false⟩ else bif Nat.beq k 3 then some ⟨[1, 71, 72, 73], [], [], [], [], 1, false⟩ else none
noncomputable def rules_Check.fin (N : Nat) : St → Option Int := resK tb Tryz.f25.results.toList (decRes (rules_Check.D N) rules_Check.lc)
noncomputable def rules_Check.k0 : List Item := stackAt [.r, .r, .r, .r, .l, .r, .b] (bodyOf Tryz.f25) []
def rules_Check.st0 (r_ : TRules) (t50_ : Int) (t51_ : Int) : St := ⟨[.one .any, .one (.ptr 0 0)] ++ List.replicate 47 (.one .any) ++ [.one (.fro 3 (.int .i64) r_.2.2.2.2.1), .one (.int .i64 t50_), .one (.int .i64 t51_)] ++ List.replicate 67 (.one .any), [.var 26 [.str r_.1, .int .i64 r_.2.1, .int .i64 r_.2.2.1, .fro 74 (.prod (.int .u8) (.prod (.int .i64) (.prod (.int .i64) (.slice 107 (.prod (.int .i64) (.prod (.int .i64) (.prod (.int .i64) (.int .i64)))))))) r_.2.2.2.1, .fro 3 (.int .i64) r_.2.2.2.2.1, .bool r_.2.2.2.2.2.1, .bool r_.2.2.2.2.2.2.1, .fro 76 (.prod (.int .i64) (.prod (.int .i64) (.prod (.int .i64) .bool))) r_.2.2.2.2.2.2.2.1, .int .i64 r_.2.2.2.2.2.2.2.2.1, .int .i64 r_.2.2.2.2.2.2.2.2.2.1, .int .i64 r_.2.2.2.2.2.2.2.2.2.2]]⟩
noncomputable def rules_Check.k1 : List Item := stackAt [.r, .r, .r, .r, .r, .r, .l, .r, .b] (bodyOf Tryz.f25) []
def rules_Check.st1 (r_ : TRules) (t72_ : Int) (t73_ : Int) : St := ⟨[.one .any, .one (.ptr 0 0)] ++ List.replicate 69 (.one .any) ++ [.one (.fro 76 (.prod (.int .i64) (.prod (.int .i64) (.prod (.int .i64) .bool))) r_.2.2.2.2.2.2.2.1), .one (.int .i64 t72_), .one (.int .i64 t73_)] ++ List.replicate 45 (.one .any), [.var 26 [.str r_.1, .int .i64 r_.2.1, .int .i64 r_.2.2.1, .fro 74 (.prod (.int .u8) (.prod (.int .i64) (.prod (.int .i64) (.slice 107 (.prod (.int .i64) (.prod (.int .i64) (.prod (.int .i64) (.int .i64)))))))) r_.2.2.2.1, .fro 3 (.int .i64) r_.2.2.2.2.1, .bool r_.2.2.2.2.2.1, .bool r_.2.2.2.2.2.2.1, .fro 76 (.prod (.int .i64) (.prod (.int .i64) (.prod (.int .i64) .bool))) r_.2.2.2.2.2.2.2.1, .int .i64 r_.2.2.2.2.2.2.2.2.1, .int .i64 r_.2.2.2.2.2.2.2.2.2.1, .int .i64 r_.2.2.2.2.2.2.2.2.2.2]]⟩
theorem rules_Check.step0 (N : Nat) (rec : List Item → St → Option Int) (r_ : TRules) (t50_ : Int) (t51_ : Int) : seg tb (rules_Check.G N) rules_Check.A 0 rec (rules_Check.fin N) segFuel (loopBody rules_Check.k0) (rules_Check.st0 r_ t50_ t51_) = rules_Check.s0 N r_ (fun t50_ t51_ => rec rules_Check.k0 (rules_Check.st0 r_ t50_ t51_)) (fun t72_ t73_ => rec rules_Check.k1 (rules_Check.st1 r_ t72_ t73_)) t50_ t51_ := by kernel_rfl
theorem rules_Check.step1 (N : Nat) (rec : List Item → St → Option Int) (r_ : TRules) (t72_ : Int) (t73_ : Int) : seg tb (rules_Check.G N) rules_Check.A 0 rec (rules_Check.fin N) segFuel (loopBody rules_Check.k1) (rules_Check.st1 r_ t72_ t73_) = rules_Check.s1 N r_ (fun t50_ t51_ => rec rules_Check.k0 (rules_Check.st0 r_ t50_ t51_)) (fun t72_ t73_ => rec rules_Check.k1 (rules_Check.st1 r_ t72_ t73_)) t72_ t73_ := by kernel_rfl
theorem rules_Check.entry (N : Nat) (rec : List Item → St → Option Int) (x : (argH rules_Check.as).den) : seg tb (rules_Check.G N) rules_Check.A 0 rec (rules_Check.fin N) segFuel [.code (bodyOf Tryz.f25)] (initSt Tryz.f25 (encArgs rules_Check.as x) (encMem rules_Check.as x)) = rules_Check.e N (fun t50_ t51_ => rec rules_Check.k0 (rules_Check.st0 x.1 t50_ t51_)) (fun t72_ t73_ => rec rules_Check.k1 (rules_Check.st1 x.1 t72_ t73_)) x.1 := by kernel_rfl
theorem rules_Check.runs (N : Nat) (r_ : TRules) : ∀ n, (∀ (t50_ : Int) (t51_ : Int), run tb (rules_Check.G N) rules_Check.A 0 (rules_Check.fin N) n rules_Check.k0 (rules_Check.st0 r_ t50_ t51_) = rules_Check.l0 N r_ n t50_ t51_) ∧ (∀ (t72_ : Int) (t73_ : Int), run tb (rules_Check.G N) rules_Check.A 0 (rules_Check.fin N) n rules_Check.k1 (rules_Check.st1 r_ t72_ t73_) = rules_Check.l1 N r_ n t72_ t73_)
  | 0 => ⟨fun _ _ => rfl, fun _ _ => rfl⟩
  | n + 1 => by
    obtain ⟨h0, h1⟩ := rules_Check.runs N r_ n
    have e0 : (fun (t50_ : Int) (t51_ : Int) => run tb (rules_Check.G N) rules_Check.A 0 (rules_Check.fin N) n rules_Check.k0 (rules_Check.st0 r_ t50_ t51_)) = rules_Check.l0 N r_ n := by funext t50_ t51_; exact h0 t50_ t51_
    have e1 : (fun (t72_ : Int) (t73_ : Int) => run tb (rules_Check.G N) rules_Check.A 0 (rules_Check.fin N) n rules_Check.k1 (rules_Check.st1 r_ t72_ t73_)) = rules_Check.l1 N r_ n := by funext t72_ t73_; exact h1 t72_ t73_
    have g0 : (∀ (t50_ : Int) (t51_ : Int), run tb (rules_Check.G N) rules_Check.A 0 (rules_Check.fin N) (n + 1) rules_Check.k0 (rules_Check.st0 r_ t50_ t51_) = rules_Check.l0 N r_ (n + 1) t50_ t51_) := by
      intro t50_ t51_
      exact (run_succ (by kernel_rfl)).trans ((rules_Check.step0 N _ r_ t50_ t51_).trans ((congr (congrArg (fun r0 r1 => rules_Check.s0 N r_ r0 r1 t50_ t51_) e0) e1).trans (rules_Check.l0_s N r_ n t50_ t51_).symm))
    have g1 : (∀ (t72_ : Int) (t73_ : Int), run tb (rules_Check.G N) rules_Check.A 0 (rules_Check.fin N) (n + 1) rules_Check.k1 (rules_Check.st1 r_ t72_ t73_) = rules_Check.l1 N r_ (n + 1) t72_ t73_) := by
      intro t72_ t73_
      exact (run_succ (by kernel_rfl)).trans ((rules_Check.step1 N _ r_ t72_ t73_).trans ((congr (congrArg (fun r0 r1 => rules_Check.s1 N r_ r0 r1 t72_ t73_) e0) e1).trans (rules_Check.l1_s N r_ n t72_ t73_).symm))
    exact ⟨g0, g1⟩
theorem rules_Check.ok (N : Nat) : FnOk Tryz.prog 25 (rules_Check.D N) := by
  refine FnOk_of tb_ok (Checked.mixed Tryz.checked) ⟨Tryz.f25, Tryz.func25, by kernel_rfl, by kernel_rfl, fun x y h => ⟨rules_Check.G N, rules_Check.A, N, gamOf_ok (by simp only [List.forall_mem_cons, List.not_mem_nil, false_implies, implies_true, and_true]; exact ⟨⟨rules_Name.ok N, rules_Name.fit N⟩, ⟨rules_pieces.ok N, rules_pieces.fit N⟩, ⟨rules_end.ok N, rules_end.fit N⟩⟩), ?_⟩⟩ (rules_Check.fit N)
  rw [absFn_n (n0 := 0) rfl (by kernel_rfl)]
  refine (rules_Check.entry N (run tb (rules_Check.G N) rules_Check.A 0 (rules_Check.fin N) N) x).trans ?_
  have e0 : (fun (t50_ : Int) (t51_ : Int) => run tb (rules_Check.G N) rules_Check.A 0 (rules_Check.fin N) N rules_Check.k0 (rules_Check.st0 x.1 t50_ t51_)) = rules_Check.l0 N x.1 N := by funext t50_ t51_; exact (rules_Check.runs N x.1 N).1 t50_ t51_
  have e1 : (fun (t72_ : Int) (t73_ : Int) => run tb (rules_Check.G N) rules_Check.A 0 (rules_Check.fin N) N rules_Check.k1 (rules_Check.st1 x.1 t72_ t73_)) = rules_Check.l1 N x.1 N := by funext t72_ t73_; exact (rules_Check.runs N x.1 N).2 t72_ t73_
  have h' : (rules_Check.D N).f x = rules_Check.e N (rules_Check.l0 N x.1 N) (rules_Check.l1 N x.1 N) x.1 := by kernel_rfl
  exact (congr (congrArg (fun r0 r1 => rules_Check.e N r0 r1 x.1) e0) e1).trans (h'.symm.trans h)
/-! ### f26: gamehall/rules.Copy -/
def rules_Copy.as : List MK := [.d true (.prod .str (.prod (.int .i64) (.prod (.int .i64) (.prod (.slice 74 (.prod (.int .u8) (.prod (.int .i64) (.prod (.int .i64) (.slice 107 (.prod (.int .i64) (.prod (.int .i64) (.prod (.int .i64) (.int .i64))))))))) (.prod (.slice 3 (.int .i64)) (.prod .bool (.prod .bool (.prod (.slice 76 (.prod (.int .i64) (.prod (.int .i64) (.prod (.int .i64) .bool)))) (.prod (.int .i64) (.prod (.int .i64) (.int .i64)))))))))))]
def rules_Copy.rs : List (Bool × HT) := [(true, (.prod (.d .str) (.prod (.d (.int .i64)) (.prod (.d (.int .i64)) (.prod (.own 74 (.prod (.int .u8) (.prod (.int .i64) (.prod (.int .i64) (.slice 107 (.prod (.int .i64) (.prod (.int .i64) (.prod (.int .i64) (.int .i64))))))))) (.prod (.own 3 (.int .i64)) (.prod (.d .bool) (.prod (.d .bool) (.prod (.own 76 (.prod (.int .i64) (.prod (.int .i64) (.prod (.int .i64) .bool)))) (.d (.prod (.int .i64) (.prod (.int .i64) (.int .i64)))))))))))))]
def rules_Copy.lc : List AC := []
def rules_Copy.D (N : Nat) : DFn := ⟨rules_Copy.as, rules_Copy.rs, TRules, fun x => rules_Copy N x.1, fun r o => r.1, fun b => (b, ()), fun b => ()⟩
theorem rules_Copy.fit (N : Nat) : (rules_Copy.D N).Fit := ⟨fun _ _ => rfl, fun _ _ => rfl, by kernel_rfl⟩
noncomputable def rules_Copy.G (N : Nat) : Gam := gamOf []
def rules_Copy.A : Nat → Option LoopAnn := fun k => bif Nat.beq k 0 then some ⟨[1, 2, 3, 13, 14, 15], [], [], [], [], 4, false⟩ else none
noncomputable def rules_Copy.fin (N : Nat) : St → Option TRules := resK tb Tryz.f26.results.toList (decRes (rules_Copy.D N) rules_Copy.lc)
noncomputable def rules_Copy.k0 : List Item := stackAt [.r, .r, .r, .l, .r, .b] (bodyOf Tryz.f26) []
def rules_Copy.st0 (r_ : TRules) (t14_ : Int) (t15_ : Int) (m3_ : (List TPiece)) : St := ⟨[.one .any, .one (.ptr 0 0), .one (.ptr 1 0), .one (.ptr 2 0)] ++ List.replicate 9 (.one .any) ++ [.one (.fro 74 (.prod (.int .u8) (.prod (.int .i64) (.prod (.int .i64) (.slice 107 (.prod (.int .i64) (.prod (.int .i64) (.prod (.int .i64) (.int .i64)))))))) r_.2.2.2.1), .one (.int .i64 t14_), .one (.int .i64 t15_)] ++ List.replicate 23 (.one .any), [.var 26 [.str r_.1, .int .i64 r_.2.1, .int .i64 r_.2.2.1, .fro 74 (.prod (.int .u8) (.prod (.int .i64) (.prod (.int .i64) (.slice 107 (.prod (.int .i64) (.prod (.int .i64) (.prod (.int .i64) (.int .i64)))))))) r_.2.2.2.1, .fro 3 (.int .i64) r_.2.2.2.2.1, .bool r_.2.2.2.2.2.1, .bool r_.2.2.2.2.2.2.1, .fro 76 (.prod (.int .i64) (.prod (.int .i64) (.prod (.int .i64) .bool))) r_.2.2.2.2.2.2.2.1, .int .i64 r_.2.2.2.2.2.2.2.2.1, .int .i64 r_.2.2.2.2.2.2.2.2.2.1, .int .i64 r_.2.2.2.2.2.2.2.2.2.2], .var 26 [.str (⟨#[]⟩ : ByteArray), .int .i64 0, .int .i64 0, .nilS, .nilS, .bool false, .bool false, .nilS, .int .i64 0, .int .i64 0, .int .i64 0], .var 26 [.str r_.1, .int .i64 r_.2.1, .int .i64 r_.2.2.1, .own 3, .fro 3 (.int .i64) r_.2.2.2.2.1, .bool r_.2.2.2.2.2.1, .bool r_.2.2.2.2.2.2.1, .fro 76 (.prod (.int .i64) (.prod (.int .i64) (.prod (.int .i64) .bool))) r_.2.2.2.2.2.2.2.1, .int .i64 r_.2.2.2.2.2.2.2.2.1, .int .i64 r_.2.2.2.2.2.2.2.2.2.1, .int .i64 r_.2.2.2.2.2.2.2.2.2.2], .row 74 (.prod (.int .u8) (.prod (.int .i64) (.prod (.int .i64) (.slice 107 (.prod (.int .i64) (.prod (.int .i64) (.prod (.int .i64) (.int .i64)))))))) m3_]⟩
theorem rules_Copy.step0 (N : Nat) (rec : List Item → St → Option TRules) (r_ : TRules) (t14_ : Int) (t15_ : Int) (m3_ : (List TPiece)) : seg tb (rules_Copy.G N) rules_Copy.A 0 rec (rules_Copy.fin N) segFuel (loopBody rules_Copy.k0) (rules_Copy.st0 r_ t14_ t15_ m3_) = rules_Copy.s0 N r_ (fun t14_ t15_ m3_ => rec rules_Copy.k0 (rules_Copy.st0 r_ t14_ t15_ m3_)) t14_ t15_ m3_ := by kernel_rfl
theorem rules_Copy.entry (N : Nat) (rec : List Item → St → Option TRules) (x : (argH rules_Copy.as).den) : seg tb (rules_Copy.G N) rules_Copy.A 0 rec (rules_Copy.fin N) segFuel [.code (bodyOf Tryz.f26)] (initSt Tryz.f26 (encArgs rules_Copy.as x) (encMem rules_Copy.as x)) = rules_Copy.e N (fun t14_ t15_ m3_ => rec rules_Copy.k0 (rules_Copy.st0 x.1 t14_ t15_ m3_)) x.1 := by kernel_rfl
theorem rules_Copy.runs (N : Nat) (r_ : TRules) : ∀ n, (∀ (t14_ : Int) (t15_ : Int) (m3_ : (List TPiece)), run tb (rules_Copy.G N) rules_Copy.A 0 (rules_Copy.fin N) n rules_Copy.k0 (rules_Copy.st0 r_ t14_ t15_ m3_) = rules_Copy.l0 N r_ n t14_ t15_ m3_)
  | 0 => fun _ _ _ => rfl
  | n + 1 => by
    have h0 := rules_Copy.runs N r_ n
    have e0 : (fun (t14_ : Int) (t15_ : Int) (m3_ : (List TPiece)) => run tb (rules_Copy.G N) rules_Copy.A 0 (rules_Copy.fin N) n rules_Copy.k0 (rules_Copy.st0 r_ t14_ t15_ m3_)) = rules_Copy.l0 N r_ n := by funext t14_ t15_ m3_; exact h0 t14_ t15_ m3_
    have g0 : (∀ (t14_ : Int) (t15_ : Int) (m3_ : (List TPiece)), run tb (rules_Copy.G N) rules_Copy.A 0 (rules_Copy.fin N) (n + 1) rules_Copy.k0 (rules_Copy.st0 r_ t14_ t15_ m3_) = rules_Copy.l0 N r_ (n + 1) t14_ t15_ m3_) := by
      intro t14_ t15_ m3_
      exact (run_succ (by kernel_rfl)).trans ((rules_Copy.step0 N _ r_ t14_ t15_ m3_).trans ((congrArg (fun r0 => rules_Copy.s0 N r_ r0 t14_ t15_ m3_) e0).trans (rules_Copy.l0_s N r_ n t14_ t15_ m3_).symm))
    exact g0
theorem rules_Copy.ok (N : Nat) : FnOk Tryz.prog 26 (rules_Copy.D N) := by
  refine FnOk_of tb_ok (Checked.mixed Tryz.checked) ⟨Tryz.f26, Tryz.func26, by kernel_rfl, by kernel_rfl, fun x y h => ⟨rules_Copy.G N, rules_Copy.A, N, gamOf_ok (fun p hp => nomatch hp), ?_⟩⟩ (rules_Copy.fit N)
  rw [absFn_n (n0 := 0) rfl (by kernel_rfl)]
  refine (rules_Copy.entry N (run tb (rules_Copy.G N) rules_Copy.A 0 (rules_Copy.fin N) N) x).trans ?_
  have e0 : (fun (t14_ : Int) (t15_ : Int) (m3_ : (List TPiece)) => run tb (rules_Copy.G N) rules_Copy.A 0 (rules_Copy.fin N) N rules_Copy.k0 (rules_Copy.st0 x.1 t14_ t15_ m3_)) = rules_Copy.l0 N x.1 N := by funext t14_ t15_ m3_; exact (rules_Copy.runs N x.1 N) t14_ t15_ m3_
  have h' : (rules_Copy.D N).f x = rules_Copy.e N (rules_Copy.l0 N x.1 N) x.1 := by kernel_rfl
  exact (congrArg (fun r0 => rules_Copy.e N r0 x.1) e0).trans (h'.symm.trans h)
/-! ### f7: gamehall/store.New -/
def store_New.as : List MK := [.d true (.prod .str (.prod (.int .i64) (.prod (.int .i64) (.prod (.slice 74 (.prod (.int .u8) (.prod (.int .i64) (.prod (.int .i64) (.slice 107 (.prod (.int .i64) (.prod (.int .i64) (.prod (.int .i64) (.int .i64))))))))) (.prod (.slice 3 (.int .i64)) (.prod .bool (.prod .bool (.prod (.slice 76 (.prod (.int .i64) (.prod (.int .i64) (.prod (.int .i64) .bool)))) (.prod (.int .i64) (.prod (.int .i64) (.int .i64))))))))))), .d false (.int .i64)]
def store_New.rs : List (Bool × HT) := [(false, (.opt 63 (.prod (.d (.prod .str (.prod (.int .i64) (.prod (.int .i64) (.prod (.slice 74 (.prod (.int .u8) (.prod (.int .i64) (.prod (.int .i64) (.slice 107 (.prod (.int .i64) (.prod (.int .i64) (.prod (.int .i64) (.int .i64))))))))) (.prod (.slice 3 (.int .i64)) (.prod .bool (.prod .bool (.prod (.slice 76 (.prod (.int .i64) (.prod (.int .i64) (.prod (.int .i64) .bool)))) (.prod (.int .i64) (.prod (.int .i64) (.int .i64)))))))))))) (.prod (.own 115 (.prod (.prod (.slice 3 (.int .i64)) (.prod (.prod (.slice 3 (.int .i64)) (.slice 3 (.int .i64))) (.prod (.int .i64) (.int .i64)))) (.prod (.int .i64) (.prod (.int .i64) .bool)))) (.d (.prod (.int .i64) (.int .i64))))))), (false, (.d (.int .i64)))]
def store_New.lc : List AC := []
def store_New.D (N : Nat) : DFn := ⟨store_New.as, store_New.rs, ((Option (TRules × ((List (TPos × (Int × (Int × Bool)))) × (Int × Int)))) × Int), fun x => store_New N x.1 x.2.1, fun r o => (r.1, r.2.1), fun b => (b.1, (b.2, ())), fun b => ()⟩
theorem store_New.fit (N : Nat) : (store_New.D N).Fit := ⟨fun _ _ => rfl, fun _ _ => rfl, by kernel_rfl⟩
noncomputable def store_New.G (N : Nat) : Gam := gamOf [(25, rules_Check.D N), (26, rules_Copy.D N)]
def store_New.A : Nat → Option LoopAnn := fun _ => none
noncomputable def store_New.fin (N : Nat) : St → Option ((Option (TRules × ((List (TPos × (Int × (Int × Bool)))) × (Int × Int)))) × Int) := resK tb Tryz.f7.results.toList (decResZ (store_New.D N) [3, 74, 76] store_New.lc)
theorem store_New.entry (N : Nat) (rec : List Item → St → Option ((Option (TRules × ((List (TPos × (Int × (Int × Bool)))) × (Int × Int)))) × Int)) (x : (argH store_New.as).den) : seg tb (store_New.G N) store_New.A 0 rec (store_New.fin N) segFuel [.code (bodyOf Tryz.f7)] (initSt Tryz.f7 (encArgs store_New.as x) (encMem store_New.as x)) = store_New.e N x.1 x.2.1 := by kernel_rfl
theorem store_New.ok (N : Nat) : FnOk Tryz.prog 7 (store_New.D N) := by
  refine FnOk_ofZ (zs := [3, 74, 76]) tb_ok (Checked.mixed Tryz.checked) ⟨Tryz.f7, Tryz.func7, by kernel_rfl, by kernel_rfl, fun x y h => ⟨store_New.G N, store_New.A, N, gamOf_ok (by simp only [List.forall_mem_cons, List.not_mem_nil, false_implies, implies_true, and_true]; exact ⟨⟨rules_Check.ok N, rules_Check.fit N⟩, ⟨rules_Copy.ok N, rules_Copy.fit N⟩⟩), ?_⟩⟩ (store_New.fit N)
  rw [absFn_n (n0 := 0) rfl (by kernel_rfl)]
  exact (store_New.entry N _ x).trans h
/-! ### f17: gamehall/gamehallkeep1.near -/
def gamehallkeep1_near.as : List MK := []
def gamehallkeep1_near.rs : List (Bool × HT) := [(true, (.prod (.own 3 (.int .i64)) (.prod (.prod (.own 3 (.int .i64)) (.own 3 (.int .i64))) (.d (.prod (.int .i64) (.int .i64))))))]
def gamehallkeep1_near.lc : List AC := []
def gamehallkeep1_near.D (N : Nat) : DFn := ⟨gamehallkeep1_near.as, gamehallkeep1_near.rs, TPos, fun x => gamehallkeep1_near N, fun r o => r.1, fun b => (b, ()), fun b => ()⟩
theorem gamehallkeep1_near.fit (N : Nat) : (gamehallkeep1_near.D N).Fit := ⟨fun _ _ => rfl, fun _ _ => rfl, by kernel_rfl⟩
noncomputable def gamehallkeep1_near.G (N : Nat) : Gam := gamOf []
def gamehallkeep1_near.A : Nat → Option LoopAnn := fun _ => none
noncomputable def gamehallkeep1_near.fin (N : Nat) : St → Option TPos := resK tb Tryz.f17.results.toList (decRes (gamehallkeep1_near.D N) gamehallkeep1_near.lc)
theorem gamehallkeep1_near.entry (N : Nat) (rec : List Item → St → Option TPos) (x : (argH gamehallkeep1_near.as).den) : seg tb (gamehallkeep1_near.G N) gamehallkeep1_near.A 0 rec (gamehallkeep1_near.fin N) segFuel [.code (bodyOf Tryz.f17)] (initSt Tryz.f17 (encArgs gamehallkeep1_near.as x) (encMem gamehallkeep1_near.as x)) = gamehallkeep1_near.e N := by kernel_rfl
theorem gamehallkeep1_near.ok (N : Nat) : FnOk Tryz.prog 17 (gamehallkeep1_near.D N) := by
  refine FnOk_of tb_ok (Checked.mixed Tryz.checked) ⟨Tryz.f17, Tryz.func17, by kernel_rfl, by kernel_rfl, fun x y h => ⟨gamehallkeep1_near.G N, gamehallkeep1_near.A, N, gamOf_ok (fun p hp => nomatch hp), ?_⟩⟩ (gamehallkeep1_near.fit N)
  rw [absFn_n (n0 := 0) rfl (by kernel_rfl)]
  exact (gamehallkeep1_near.entry N _ x).trans h
/-! ### f32: gamehall/place.Check -/
def place_Check.as : List MK := [.d true (.prod .str (.prod (.int .i64) (.prod (.int .i64) (.prod (.slice 74 (.prod (.int .u8) (.prod (.int .i64) (.prod (.int .i64) (.slice 107 (.prod (.int .i64) (.prod (.int .i64) (.prod (.int .i64) (.int .i64))))))))) (.prod (.slice 3 (.int .i64)) (.prod .bool (.prod .bool (.prod (.slice 76 (.prod (.int .i64) (.prod (.int .i64) (.prod (.int .i64) .bool)))) (.prod (.int .i64) (.prod (.int .i64) (.int .i64))))))))))), .d true (.prod (.slice 3 (.int .i64)) (.prod (.prod (.slice 3 (.int .i64)) (.slice 3 (.int .i64))) (.prod (.int .i64) (.int .i64))))]
def place_Check.rs : List (Bool × HT) := [(false, (.d (.int .i64)))]
def place_Check.lc : List AC := []
def place_Check.D (N : Nat) : DFn := ⟨place_Check.as, place_Check.rs, Int, fun x => place_Check N x.1 x.2.1, fun r o => r.1, fun b => (b, ()), fun b => ()⟩
theorem place_Check.fit (N : Nat) : (place_Check.D N).Fit := ⟨fun _ _ => rfl, fun _ _ => rfl, by kernel_rfl⟩
noncomputable def place_Check.G (N : Nat) : Gam := gamOf [(25, rules_Check.D N)]
def place_Check.A : Nat → Option LoopAnn := fun k => bif Nat.beq k 0 then some ⟨[2, 3, 47, 48, 49], [], [], [], [], 2, false⟩ else bif Nat.beq k 2 then some ⟨[3, 65, 66], [], [], [], [0], 2, false⟩ else bif Nat.beq k 4 then some ⟨[3, 65, 66, 69, 70, 71], [], [], [], [], 2, false⟩ else none
noncomputable def place_Check.fin (N : Nat) : St → Option Int := resK tb Tryz.f32.results.toList (decRes (place_Check.D N) place_Check.lc)
noncomputable def place_Check.k0 : List Item := stackAt [.r, .r, .r, .l, .r, .b] (bodyOf Tryz.f32) []
def place_Check.st0 (r_ : TRules) (p_ : TPos) (t49_ : Int) : St := ⟨[.one .any, .one .any, .one (.ptr 0 0), .one (.ptr 1 0)] ++ List.replicate 43 (.one .any) ++ [.one (.fro 3 (.int .i64) p_.1), .one (.int .i64 (p_.1.length : Int)), .one (.int .i64 t49_)] ++ List.replicate 51 (.one .any), [.var 26 [.str r_.1, .int .i64 r_.2.1, .int .i64 r_.2.2.1, .fro 74 (.prod (.int .u8) (.prod (.int .i64) (.prod (.int .i64) (.slice 107 (.prod (.int .i64) (.prod (.int .i64) (.prod (.int .i64) (.int .i64)))))))) r_.2.2.2.1, .fro 3 (.int .i64) r_.2.2.2.2.1, .bool r_.2.2.2.2.2.1, .bool r_.2.2.2.2.2.2.1, .fro 76 (.prod (.int .i64) (.prod (.int .i64) (.prod (.int .i64) .bool))) r_.2.2.2.2.2.2.2.1, .int .i64 r_.2.2.2.2.2.2.2.2.1, .int .i64 r_.2.2.2.2.2.2.2.2.2.1, .int .i64 r_.2.2.2.2.2.2.2.2.2.2], .var 29 [.fro 3 (.int .i64) p_.1, .fro 3 (.int .i64) p_.2.1.1, .fro 3 (.int .i64) p_.2.1.2, .int .i64 p_.2.2.1, .int .i64 p_.2.2.2]]⟩
noncomputable def place_Check.k1 : List Item := stackAt [.r, .r, .r, .r, .l, .r, .b] (bodyOf Tryz.f32) []
def place_Check.st1 (r_ : TRules) (p_ : TPos) (t66_ : Int) : St := ⟨List.replicate 3 (.one .any) ++ [.one (.ptr 1 0)] ++ List.replicate 61 (.one .any) ++ [.agg [.fro 3 (.int .i64) p_.2.1.1, .fro 3 (.int .i64) p_.2.1.2], .one (.int .i64 t66_)] ++ List.replicate 34 (.one .any), [.gone, .var 29 [.fro 3 (.int .i64) p_.1, .fro 3 (.int .i64) p_.2.1.1, .fro 3 (.int .i64) p_.2.1.2, .int .i64 p_.2.2.1, .int .i64 p_.2.2.2]]⟩
noncomputable def place_Check.k2 : List Item := stackAt [.r, .r, .r, .r, .l, .r, .b, .w, .r, .r, .l, .b, .r, .r, .b] (bodyOf Tryz.f32) []
def place_Check.st2 (r_ : TRules) (p_ : TPos) (t66_ : Int) (t69_ : LInt) (t70_ : Int) (t71_ : Int) : St := ⟨List.replicate 3 (.one .any) ++ [.one (.ptr 1 0)] ++ List.replicate 61 (.one .any) ++ [.agg [.fro 3 (.int .i64) p_.2.1.1, .fro 3 (.int .i64) p_.2.1.2], .one (.int .i64 t66_), .one .any, .one .any, .one (.fro 3 (.int .i64) t69_), .one (.int .i64 t70_), .one (.int .i64 t71_)] ++ List.replicate 29 (.one .any), [.gone, .var 29 [.fro 3 (.int .i64) p_.1, .fro 3 (.int .i64) p_.2.1.1, .fro 3 (.int .i64) p_.2.1.2, .int .i64 p_.2.2.1, .int .i64 p_.2.2.2]]⟩
theorem place_Check.step0 (N : Nat) (rec : List Item → St → Option Int) (r_ : TRules) (p_ : TPos) (t49_ : Int) : seg tb (place_Check.G N) place_Check.A 0 rec (place_Check.fin N) segFuel (loopBody place_Check.k0) (place_Check.st0 r_ p_ t49_) = place_Check.s0 N r_ p_ (fun t49_ => rec place_Check.k0 (place_Check.st0 r_ p_ t49_)) (fun t66_ => rec place_Check.k1 (place_Check.st1 r_ p_ t66_)) (fun t66_ t69_ t70_ t71_ => rec place_Check.k2 (place_Check.st2 r_ p_ t66_ t69_ t70_ t71_)) t49_ := by kernel_rfl
theorem place_Check.step1 (N : Nat) (rec : List Item → St → Option Int) (r_ : TRules) (p_ : TPos) (t66_ : Int) : seg tb (place_Check.G N) place_Check.A 0 rec (place_Check.fin N) segFuel (loopBody place_Check.k1) (place_Check.st1 r_ p_ t66_) = place_Check.s1 N r_ p_ (fun t49_ => rec place_Check.k0 (place_Check.st0 r_ p_ t49_)) (fun t66_ => rec place_Check.k1 (place_Check.st1 r_ p_ t66_)) (fun t66_ t69_ t70_ t71_ => rec place_Check.k2 (place_Check.st2 r_ p_ t66_ t69_ t70_ t71_)) t66_ := by kernel_rfl
theorem place_Check.step2 (N : Nat) (rec : List Item → St → Option Int) (r_ : TRules) (p_ : TPos) (t66_ : Int) (t69_ : LInt) (t70_ : Int) (t71_ : Int) : seg tb (place_Check.G N) place_Check.A 0 rec (place_Check.fin N) segFuel (loopBody place_Check.k2) (place_Check.st2 r_ p_ t66_ t69_ t70_ t71_) = place_Check.s2 N r_ p_ (fun t49_ => rec place_Check.k0 (place_Check.st0 r_ p_ t49_)) (fun t66_ => rec place_Check.k1 (place_Check.st1 r_ p_ t66_)) (fun t66_ t69_ t70_ t71_ => rec place_Check.k2 (place_Check.st2 r_ p_ t66_ t69_ t70_ t71_)) t66_ t69_ t70_ t71_ := by kernel_rfl
theorem place_Check.entry (N : Nat) (rec : List Item → St → Option Int) (x : (argH place_Check.as).den) : seg tb (place_Check.G N) place_Check.A 0 rec (place_Check.fin N) segFuel [.code (bodyOf Tryz.f32)] (initSt Tryz.f32 (encArgs place_Check.as x) (encMem place_Check.as x)) = place_Check.e N (fun t49_ => rec place_Check.k0 (place_Check.st0 x.1 x.2.1 t49_)) (fun t66_ => rec place_Check.k1 (place_Check.st1 x.1 x.2.1 t66_)) (fun t66_ t69_ t70_ t71_ => rec place_Check.k2 (place_Check.st2 x.1 x.2.1 t66_ t69_ t70_ t71_)) x.1 x.2.1 := by kernel_rfl
theorem place_Check.runs (N : Nat) (r_ : TRules) (p_ : TPos) : ∀ n, (∀ (t49_ : Int), run tb (place_Check.G N) place_Check.A 0 (place_Check.fin N) n place_Check.k0 (place_Check.st0 r_ p_ t49_) = place_Check.l0 N r_ p_ n t49_) ∧ (∀ (t66_ : Int), run tb (place_Check.G N) place_Check.A 0 (place_Check.fin N) n place_Check.k1 (place_Check.st1 r_ p_ t66_) = place_Check.l1 N r_ p_ n t66_) ∧ (∀ (t66_ : Int) (t69_ : LInt) (t70_ : Int) (t71_ : Int), run tb (place_Check.G N) place_Check.A 0 (place_Check.fin N) n place_Check.k2 (place_Check.st2 r_ p_ t66_ t69_ t70_ t71_) = place_Check.l2 N r_ p_ n t66_ t69_ t70_ t71_)
  | 0 => ⟨fun _ => rfl, fun _ => rfl, fun _ _ _ _ => rfl⟩
  | n + 1 => by
    obtain ⟨h0, h1, h2⟩ := place_Check.runs N r_ p_ n
    have e0 : (fun (t49_ : Int) => run tb (place_Check.G N) place_Check.A 0 (place_Check.fin N) n place_Check.k0 (place_Check.st0 r_ p_ t49_)) = place_Check.l0 N r_ p_ n := by funext t49_; exact h0 t49_
    have e1 : (fun (t66_ : Int) => run tb (place_Check.G N) place_Check.A 0 (place_Check.fin N) n place_Check.k1 (place_Check.st1 r_ p_ t66_)) = place_Check.l1 N r_ p_ n := by funext t66_; exact h1 t66_
    have e2 : (fun (t66_ : Int) (t69_ : LInt) (t70_ : Int) (t71_ : Int) => run tb (place_Check.G N) place_Check.A 0 (place_Check.fin N) n place_Check.k2 (place_Check.st2 r_ p_ t66_ t69_ t70_ t71_)) = place_Check.l2 N r_ p_ n := by funext t66_ t69_ t70_ t71_; exact h2 t66_ t69_ t70_ t71_
    have g0 : (∀ (t49_ : Int), run tb (place_Check.G N) place_Check.A 0 (place_Check.fin N) (n + 1) place_Check.k0 (place_Check.st0 r_ p_ t49_) = place_Check.l0 N r_ p_ (n + 1) t49_) := by
      intro t49_
      exact (run_succ (by kernel_rfl)).trans ((place_Check.step0 N _ r_ p_ t49_).trans ((congr (congr (congrArg (fun r0 r1 r2 => place_Check.s0 N r_ p_ r0 r1 r2 t49_) e0) e1) e2).trans (place_Check.l0_s N r_ p_ n t49_).symm))
    have g1 : (∀ (t66_ : Int), run tb (place_Check.G N) place_Check.A 0 (place_Check.fin N) (n + 1) place_Check.k1 (place_Check.st1 r_ p_ t66_) = place_Check.l1 N r_ p_ (n + 1) t66_) := by
      intro t66_
      exact (run_succ (by kernel_rfl)).trans ((place_Check.step1 N _ r_ p_ t66_).trans ((congr (congr (congrArg (fun r0 r1 r2 => place_Check.s1 N r_ p_ r0 r1 r2 t66_) e0) e1) e2).trans (place_Check.l1_s N r_ p_ n t66_).symm))
    have g2 : (∀ (t66_ : Int) (t69_ : LInt) (t70_ : Int) (t71_ : Int), run tb (place_Check.G N) place_Check.A 0 (place_Check.fin N) (n + 1) place_Check.k2 (place_Check.st2 r_ p_ t66_ t69_ t70_ t71_) = place_Check.l2 N r_ p_ (n + 1) t66_ t69_ t70_ t71_) := by
      intro t66_ t69_ t70_ t71_
      exact (run_succ (by kernel_rfl)).trans ((place_Check.step2 N _ r_ p_ t66_ t69_ t70_ t71_).trans ((congr (congr (congrArg (fun r0 r1 r2 => place_Check.s2 N r_ p_ r0 r1 r2 t66_ t69_ t70_ t71_) e0) e1) e2).trans (place_Check.l2_s N r_ p_ n t66_ t69_ t70_ t71_).symm))
    exact ⟨g0, g1, g2⟩
theorem place_Check.ok (N : Nat) : FnOk Tryz.prog 32 (place_Check.D N) := by
  refine FnOk_of tb_ok (Checked.mixed Tryz.checked) ⟨Tryz.f32, Tryz.func32, by kernel_rfl, by kernel_rfl, fun x y h => ⟨place_Check.G N, place_Check.A, N, gamOf_ok (by simp only [List.forall_mem_cons, List.not_mem_nil, false_implies, implies_true, and_true]; exact ⟨rules_Check.ok N, rules_Check.fit N⟩), ?_⟩⟩ (place_Check.fit N)
  rw [absFn_n (n0 := 0) rfl (by kernel_rfl)]
  refine (place_Check.entry N (run tb (place_Check.G N) place_Check.A 0 (place_Check.fin N) N) x).trans ?_
  have e0 : (fun (t49_ : Int) => run tb (place_Check.G N) place_Check.A 0 (place_Check.fin N) N place_Check.k0 (place_Check.st0 x.1 x.2.1 t49_)) = place_Check.l0 N x.1 x.2.1 N := by funext t49_; exact (place_Check.runs N x.1 x.2.1 N).1 t49_
  have e1 : (fun (t66_ : Int) => run tb (place_Check.G N) place_Check.A 0 (place_Check.fin N) N place_Check.k1 (place_Check.st1 x.1 x.2.1 t66_)) = place_Check.l1 N x.1 x.2.1 N := by funext t66_; exact (place_Check.runs N x.1 x.2.1 N).2.1 t66_
  have e2 : (fun (t66_ : Int) (t69_ : LInt) (t70_ : Int) (t71_ : Int) => run tb (place_Check.G N) place_Check.A 0 (place_Check.fin N) N place_Check.k2 (place_Check.st2 x.1 x.2.1 t66_ t69_ t70_ t71_)) = place_Check.l2 N x.1 x.2.1 N := by funext t66_ t69_ t70_ t71_; exact (place_Check.runs N x.1 x.2.1 N).2.2 t66_ t69_ t70_ t71_
  have h' : (place_Check.D N).f x = place_Check.e N (place_Check.l0 N x.1 x.2.1 N) (place_Check.l1 N x.1 x.2.1 N) (place_Check.l2 N x.1 x.2.1 N) x.1 x.2.1 := by kernel_rfl
  exact (congr (congr (congrArg (fun r0 r1 r2 => place_Check.e N r0 r1 r2 x.1 x.2.1) e0) e1) e2).trans (h'.symm.trans h)
/-! ### f35: (*gamehall/store.Store).check -/
def store_Store_check.as : List MK := [.r (.prod (.prod .str (.prod (.int .i64) (.prod (.int .i64) (.prod (.slice 74 (.prod (.int .u8) (.prod (.int .i64) (.prod (.int .i64) (.slice 107 (.prod (.int .i64) (.prod (.int .i64) (.prod (.int .i64) (.int .i64))))))))) (.prod (.slice 3 (.int .i64)) (.prod .bool (.prod .bool (.prod (.slice 76 (.prod (.int .i64) (.prod (.int .i64) (.prod (.int .i64) .bool)))) (.prod (.int .i64) (.prod (.int .i64) (.int .i64))))))))))) (.prod (.slice 115 (.prod (.prod (.slice 3 (.int .i64)) (.prod (.prod (.slice 3 (.int .i64)) (.slice 3 (.int .i64))) (.prod (.int .i64) (.int .i64)))) (.prod (.int .i64) (.prod (.int .i64) .bool)))) (.prod (.int .i64) (.int .i64)))), .d true (.prod (.slice 3 (.int .i64)) (.prod (.prod (.slice 3 (.int .i64)) (.slice 3 (.int .i64))) (.prod (.int .i64) (.int .i64)))), .d false (.int .i64)]
def store_Store_check.rs : List (Bool × HT) := [(false, (.d (.int .i64)))]
def store_Store_check.lc : List AC := []
def store_Store_check.D (N : Nat) : DFn := ⟨store_Store_check.as, store_Store_check.rs, Int, fun x => store_Store_check N x.1 x.2.1 x.2.2.1, fun r o => r.1, fun b => (b, ()), fun b => ()⟩
theorem store_Store_check.fit (N : Nat) : (store_Store_check.D N).Fit := ⟨fun _ _ => rfl, fun _ _ => rfl, by kernel_rfl⟩
noncomputable def store_Store_check.G (N : Nat) : Gam := gamOf [(32, place_Check.D N)]
def store_Store_check.A : Nat → Option LoopAnn := fun _ => none
noncomputable def store_Store_check.fin (N : Nat) : St → Option Int := resK tb Tryz.f35.results.toList (decRes (store_Store_check.D N) store_Store_check.lc)
theorem store_Store_check.entry (N : Nat) (rec : List Item → St → Option Int) (x : (argH store_Store_check.as).den) : seg tb (store_Store_check.G N) store_Store_check.A 0 rec (store_Store_check.fin N) segFuel [.code (bodyOf Tryz.f35)] (initSt Tryz.f35 (encArgs store_Store_check.as x) (encMem store_Store_check.as x)) = store_Store_check.e N x.1 x.2.1 x.2.2.1 := by kernel_rfl
theorem store_Store_check.ok (N : Nat) : FnOk Tryz.prog 35 (store_Store_check.D N) := by
  refine FnOk_of tb_ok (Checked.mixed Tryz.checked) ⟨Tryz.f35, Tryz.func35, by kernel_rfl, by kernel_rfl, fun x y h => ⟨store_Store_check.G N, store_Store_check.A, N, gamOf_ok (by simp only [List.forall_mem_cons, List.not_mem_nil, false_implies, implies_true, and_true]; exact ⟨place_Check.ok N, place_Check.fit N⟩), ?_⟩⟩ (store_Store_check.fit N)
  rw [absFn_n (n0 := 0) rfl (by kernel_rfl)]
  exact (store_Store_check.entry N _ x).trans h
/-! ### f85: gamehall/zob.Mix -/
def zob_Mix.as : List MK := [.d false (.int .i64)]
def zob_Mix.rs : List (Bool × HT) := [(false, (.d (.int .u64)))]
def zob_Mix.lc : List AC := []
def zob_Mix.D (N : Nat) : DFn := ⟨zob_Mix.as, zob_Mix.rs, Int, fun x => zob_Mix N x.1, fun r o => r.1, fun b => (b, ()), fun b => ()⟩
theorem zob_Mix.fit (N : Nat) : (zob_Mix.D N).Fit := ⟨fun _ _ => rfl, fun _ _ => rfl, by kernel_rfl⟩
noncomputable def zob_Mix.G (N : Nat) : Gam := gamOf []
def zob_Mix.A : Nat → Option LoopAnn := fun _ => none
noncomputable def zob_Mix.fin (N : Nat) : St → Option Int := resK tb Tryz.f85.results.toList (decRes (zob_Mix.D N) zob_Mix.lc)
theorem zob_Mix.entry (N : Nat) (rec : List Item → St → Option Int) (x : (argH zob_Mix.as).den) : seg tb (zob_Mix.G N) zob_Mix.A 0 rec (zob_Mix.fin N) segFuel [.code (bodyOf Tryz.f85)] (initSt Tryz.f85 (encArgs zob_Mix.as x) (encMem zob_Mix.as x)) = zob_Mix.e N x.1 := by kernel_rfl
theorem zob_Mix.ok (N : Nat) : FnOk Tryz.prog 85 (zob_Mix.D N) := by
  refine FnOk_of tb_ok (Checked.mixed Tryz.checked) ⟨Tryz.f85, Tryz.func85, by kernel_rfl, by kernel_rfl, fun x y h => ⟨zob_Mix.G N, zob_Mix.A, N, gamOf_ok (fun p hp => nomatch hp), ?_⟩⟩ (zob_Mix.fit N)
  rw [absFn_n (n0 := 0) rfl (by kernel_rfl)]
  exact (zob_Mix.entry N _ x).trans h
/-! ### f73: gamehall/zob.turn -/
def zob_turn.as : List MK := [.d false (.int .i64)]
def zob_turn.rs : List (Bool × HT) := [(false, (.d (.int .u64)))]
def zob_turn.lc : List AC := []
def zob_turn.D (N : Nat) : DFn := ⟨zob_turn.as, zob_turn.rs, Int, fun x => zob_turn N x.1, fun r o => r.1, fun b => (b, ()), fun b => ()⟩
theorem zob_turn.fit (N : Nat) : (zob_turn.D N).Fit := ⟨fun _ _ => rfl, fun _ _ => rfl, by kernel_rfl⟩
noncomputable def zob_turn.G (N : Nat) : Gam := gamOf [(85, zob_Mix.D N)]
def zob_turn.A : Nat → Option LoopAnn := fun _ => none
noncomputable def zob_turn.fin (N : Nat) : St → Option Int := resK tb Tryz.f73.results.toList (decRes (zob_turn.D N) zob_turn.lc)
theorem zob_turn.entry (N : Nat) (rec : List Item → St → Option Int) (x : (argH zob_turn.as).den) : seg tb (zob_turn.G N) zob_turn.A 0 rec (zob_turn.fin N) segFuel [.code (bodyOf Tryz.f73)] (initSt Tryz.f73 (encArgs zob_turn.as x) (encMem zob_turn.as x)) = zob_turn.e N x.1 := by kernel_rfl
theorem zob_turn.ok (N : Nat) : FnOk Tryz.prog 73 (zob_turn.D N) := by
  refine FnOk_of tb_ok (Checked.mixed Tryz.checked) ⟨Tryz.f73, Tryz.func73, by kernel_rfl, by kernel_rfl, fun x y h => ⟨zob_turn.G N, zob_turn.A, N, gamOf_ok (by simp only [List.forall_mem_cons, List.not_mem_nil, false_implies, implies_true, and_true]; exact ⟨zob_Mix.ok N, zob_Mix.fit N⟩), ?_⟩⟩ (zob_turn.fit N)
  rw [absFn_n (n0 := 0) rfl (by kernel_rfl)]
  exact (zob_turn.entry N _ x).trans h
/-! ### f74: gamehall/zob.square -/
def zob_square.as : List MK := [.d false (.int .i64), .d false (.int .i64)]
def zob_square.rs : List (Bool × HT) := [(false, (.d (.int .u64)))]
def zob_square.lc : List AC := []
def zob_square.D (N : Nat) : DFn := ⟨zob_square.as, zob_square.rs, Int, fun x => zob_square N x.1 x.2.1, fun r o => r.1, fun b => (b, ()), fun b => ()⟩
theorem zob_square.fit (N : Nat) : (zob_square.D N).Fit := ⟨fun _ _ => rfl, fun _ _ => rfl, by kernel_rfl⟩
noncomputable def zob_square.G (N : Nat) : Gam := gamOf [(85, zob_Mix.D N)]
def zob_square.A : Nat → Option LoopAnn := fun _ => none
noncomputable def zob_square.fin (N : Nat) : St → Option Int := resK tb Tryz.f74.results.toList (decRes (zob_square.D N) zob_square.lc)
theorem zob_square.entry (N : Nat) (rec : List Item → St → Option Int) (x : (argH zob_square.as).den) : seg tb (zob_square.G N) zob_square.A 0 rec (zob_square.fin N) segFuel [.code (bodyOf Tryz.f74)] (initSt Tryz.f74 (encArgs zob_square.as x) (encMem zob_square.as x)) = zob_square.e N x.1 x.2.1 := by kernel_rfl
theorem zob_square.ok (N : Nat) : FnOk Tryz.prog 74 (zob_square.D N) := by
  refine FnOk_of tb_ok (Checked.mixed Tryz.checked) ⟨Tryz.f74, Tryz.func74, by kernel_rfl, by kernel_rfl, fun x y h => ⟨zob_square.G N, zob_square.A, N, gamOf_ok (by simp only [List.forall_mem_cons, List.not_mem_nil, false_implies, implies_true, and_true]; exact ⟨zob_Mix.ok N, zob_Mix.fit N⟩), ?_⟩⟩ (zob_square.fit N)
  rw [absFn_n (n0 := 0) rfl (by kernel_rfl)]
  exact (zob_square.entry N _ x).trans h
/-! ### f75: gamehall/zob.held -/
def zob_held.as : List MK := [.d false (.int .i64), .d false (.int .i64), .d false (.int .i64)]
def zob_held.rs : List (Bool × HT) := [(false, (.d (.int .u64)))]
def zob_held.lc : List AC := []
def zob_held.D (N : Nat) : DFn := ⟨zob_held.as, zob_held.rs, Int, fun x => zob_held N x.1 x.2.1 x.2.2.1, fun r o => r.1, fun b => (b, ()), fun b => ()⟩
theorem zob_held.fit (N : Nat) : (zob_held.D N).Fit := ⟨fun _ _ => rfl, fun _ _ => rfl, by kernel_rfl⟩
noncomputable def zob_held.G (N : Nat) : Gam := gamOf [(85, zob_Mix.D N)]
def zob_held.A : Nat → Option LoopAnn := fun _ => none
noncomputable def zob_held.fin (N : Nat) : St → Option Int := resK tb Tryz.f75.results.toList (decRes (zob_held.D N) zob_held.lc)
theorem zob_held.entry (N : Nat) (rec : List Item → St → Option Int) (x : (argH zob_held.as).den) : seg tb (zob_held.G N) zob_held.A 0 rec (zob_held.fin N) segFuel [.code (bodyOf Tryz.f75)] (initSt Tryz.f75 (encArgs zob_held.as x) (encMem zob_held.as x)) = zob_held.e N x.1 x.2.1 x.2.2.1 := by kernel_rfl
theorem zob_held.ok (N : Nat) : FnOk Tryz.prog 75 (zob_held.D N) := by
  refine FnOk_of tb_ok (Checked.mixed Tryz.checked) ⟨Tryz.f75, Tryz.func75, by kernel_rfl, by kernel_rfl, fun x y h => ⟨zob_held.G N, zob_held.A, N, gamOf_ok (by simp only [List.forall_mem_cons, List.not_mem_nil, false_implies, implies_true, and_true]; exact ⟨zob_Mix.ok N, zob_Mix.fit N⟩), ?_⟩⟩ (zob_held.fit N)
  rw [absFn_n (n0 := 0) rfl (by kernel_rfl)]
  exact (zob_held.entry N _ x).trans h
/-! ### f50: gamehall/zob.Of -/
def zob_Of.as : List MK := [.d true (.prod (.slice 3 (.int .i64)) (.prod (.prod (.slice 3 (.int .i64)) (.slice 3 (.int .i64))) (.prod (.int .i64) (.int .i64))))]
def zob_Of.rs : List (Bool × HT) := [(false, (.d (.int .u64)))]
def zob_Of.lc : List AC := []
def zob_Of.D (N : Nat) : DFn := ⟨zob_Of.as, zob_Of.rs, Int, fun x => zob_Of N x.1, fun r o => r.1, fun b => (b, ()), fun b => ()⟩
theorem zob_Of.fit (N : Nat) : (zob_Of.D N).Fit := ⟨fun _ _ => rfl, fun _ _ => rfl, by kernel_rfl⟩
noncomputable def zob_Of.G (N : Nat) : Gam := gamOf [(73, zob_turn.D N), (74, zob_square.D N), (75, zob_held.D N)]
def zob_Of.A : Nat → Option LoopAnn := fun k => bif Nat.beq k 0 then some ⟨[1, 3, 14, 15, 16], [], [], [], [], 1, false⟩ else bif Nat.beq k 2 then some ⟨[3, 28, 29], [], [], [], [], 0, false⟩ else bif Nat.beq k 4 then some ⟨[3, 6, 28, 29, 33, 34, 35], [], [], [], [], 0, false⟩ else none
noncomputable def zob_Of.fin (N : Nat) : St → Option Int := resK tb Tryz.f50.results.toList (decRes (zob_Of.D N) zob_Of.lc)
noncomputable def zob_Of.k0 : List Item := stackAt [.r, .r, .l, .r, .b] (bodyOf Tryz.f50) []
def zob_Of.st0 (p_ : TPos) (k_ : Int) (t16_ : Int) : St := ⟨[.one .any, .one (.ptr 0 0), .one .any, .one (.int .u64 k_)] ++ List.replicate 10 (.one .any) ++ [.one (.fro 3 (.int .i64) p_.1), .one (.int .i64 (p_.1.length : Int)), .one (.int .i64 t16_)] ++ List.replicate 32 (.one .any), [.var 29 [.fro 3 (.int .i64) p_.1, .fro 3 (.int .i64) p_.2.1.1, .fro 3 (.int .i64) p_.2.1.2, .int .i64 p_.2.2.1, .int .i64 p_.2.2.2]]⟩
noncomputable def zob_Of.k1 : List Item := stackAt [.r, .r, .r, .l, .r, .b] (bodyOf Tryz.f50) []
def zob_Of.st1 (p_ : TPos) (k_ : Int) (t29_ : Int) : St := ⟨List.replicate 3 (.one .any) ++ [.one (.int .u64 k_)] ++ List.replicate 24 (.one .any) ++ [.agg [.fro 3 (.int .i64) p_.2.1.1, .fro 3 (.int .i64) p_.2.1.2], .one (.int .i64 t29_)] ++ List.replicate 19 (.one .any), []⟩
noncomputable def zob_Of.k2 : List Item := stackAt [.r, .r, .r, .l, .r, .b, .w, .r, .r, .l, .b, .r, .r, .b] (bodyOf Tryz.f50) []
def zob_Of.st2 (p_ : TPos) (k_ : Int) (o_ : Int) (t29_ : Int) (t33_ : LInt) (t34_ : Int) (t35_ : Int) : St := ⟨List.replicate 3 (.one .any) ++ [.one (.int .u64 k_), .one .any, .one .any, .one (.int .i64 o_)] ++ List.replicate 21 (.one .any) ++ [.agg [.fro 3 (.int .i64) p_.2.1.1, .fro 3 (.int .i64) p_.2.1.2], .one (.int .i64 t29_)] ++ List.replicate 3 (.one .any) ++ [.one (.fro 3 (.int .i64) t33_), .one (.int .i64 t34_), .one (.int .i64 t35_)] ++ List.replicate 13 (.one .any), []⟩
theorem zob_Of.step0 (N : Nat) (rec : List Item → St → Option Int) (p_ : TPos) (k_ : Int) (t16_ : Int) : seg tb (zob_Of.G N) zob_Of.A 0 rec (zob_Of.fin N) segFuel (loopBody zob_Of.k0) (zob_Of.st0 p_ k_ t16_) = zob_Of.s0 N p_ (fun k_ t16_ => rec zob_Of.k0 (zob_Of.st0 p_ k_ t16_)) (fun k_ t29_ => rec zob_Of.k1 (zob_Of.st1 p_ k_ t29_)) (fun k_ o_ t29_ t33_ t34_ t35_ => rec zob_Of.k2 (zob_Of.st2 p_ k_ o_ t29_ t33_ t34_ t35_)) k_ t16_ := by kernel_rfl
theorem zob_Of.step1 (N : Nat) (rec : List Item → St → Option Int) (p_ : TPos) (k_ : Int) (t29_ : Int) : seg tb (zob_Of.G N) zob_Of.A 0 rec (zob_Of.fin N) segFuel (loopBody zob_Of.k1) (zob_Of.st1 p_ k_ t29_) = zob_Of.s1 N p_ (fun k_ t16_ => rec zob_Of.k0 (zob_Of.st0 p_ k_ t16_)) (fun k_ t29_ => rec zob_Of.k1 (zob_Of.st1 p_ k_ t29_)) (fun k_ o_ t29_ t33_ t34_ t35_ => rec zob_Of.k2 (zob_Of.st2 p_ k_ o_ t29_ t33_ t34_ t35_)) k_ t29_ := by kernel_rfl
theorem zob_Of.step2 (N : Nat) (rec : List Item → St → Option Int) (p_ : TPos) (k_ : Int) (o_ : Int) (t29_ : Int) (t33_ : LInt) (t34_ : Int) (t35_ : Int) : seg tb (zob_Of.G N) zob_Of.A 0 rec (zob_Of.fin N) segFuel (loopBody zob_Of.k2) (zob_Of.st2 p_ k_ o_ t29_ t33_ t34_ t35_) = zob_Of.s2 N p_ (fun k_ t16_ => rec zob_Of.k0 (zob_Of.st0 p_ k_ t16_)) (fun k_ t29_ => rec zob_Of.k1 (zob_Of.st1 p_ k_ t29_)) (fun k_ o_ t29_ t33_ t34_ t35_ => rec zob_Of.k2 (zob_Of.st2 p_ k_ o_ t29_ t33_ t34_ t35_)) k_ o_ t29_ t33_ t34_ t35_ := by kernel_rfl
theorem zob_Of.entry (N : Nat) (rec : List Item → St → Option Int) (x : (argH zob_Of.as).den) : seg tb (zob_Of.G N) zob_Of.A 0 rec (zob_Of.fin N) segFuel [.code (bodyOf Tryz.f50)] (initSt Tryz.f50 (encArgs zob_Of.as x) (encMem zob_Of.as x)) = zob_Of.e N (fun k_ t16_ => rec zob_Of.k0 (zob_Of.st0 x.1 k_ t16_)) (fun k_ t29_ => rec zob_Of.k1 (zob_Of.st1 x.1 k_ t29_)) (fun k_ o_ t29_ t33_ t34_ t35_ => rec zob_Of.k2 (zob_Of.st2 x.1 k_ o_ t29_ t33_ t34_ t35_)) x.1 := by kernel_rfl
theorem zob_Of.runs (N : Nat) (p_ : TPos) : ∀ n, (∀ (k_ : Int) (t16_ : Int), run tb (zob_Of.G N) zob_Of.A 0 (zob_Of.fin N) n zob_Of.k0 (zob_Of.st0 p_ k_ t16_) = zob_Of.l0 N p_ n k_ t16_) ∧ (∀ (k_ : Int) (t29_ : Int), run tb (zob_Of.G N) zob_Of.A 0 (zob_Of.fin N) n zob_Of.k1 (zob_Of.st1 p_ k_ t29_) = zob_Of.l1 N p_ n k_ t29_) ∧ (∀ (k_ : Int) (o_ : Int) (t29_ : Int) (t33_ : LInt) (t34_ : Int) (t35_ : Int), run tb (zob_Of.G N) zob_Of.A 0 (zob_Of.fin N) n zob_Of.k2 (zob_Of.st2 p_ k_ o_ t29_ t33_ t34_ t35_) = zob_Of.l2 N p_ n k_ o_ t29_ t33_ t34_ t35_)
  | 0 => ⟨fun _ _ => rfl, fun _ _ => rfl, fun _ _ _ _ _ _ => rfl⟩
  | n + 1 => by
    obtain ⟨h0, h1, h2⟩ := zob_Of.runs N p_ n
    have e0 : (fun (k_ : Int) (t16_ : Int) => run tb (zob_Of.G N) zob_Of.A 0 (zob_Of.fin N) n zob_Of.k0 (zob_Of.st0 p_ k_ t16_)) = zob_Of.l0 N p_ n := by funext k_ t16_; exact h0 k_ t16_
    have e1 : (fun (k_ : Int) (t29_ : Int) => run tb (zob_Of.G N) zob_Of.A 0 (zob_Of.fin N) n zob_Of.k1 (zob_Of.st1 p_ k_ t29_)) = zob_Of.l1 N p_ n := by funext k_ t29_; exact h1 k_ t29_
    have e2 : (fun (k_ : Int) (o_ : Int) (t29_ : Int) (t33_ : LInt) (t34_ : Int) (t35_ : Int) => run tb (zob_Of.G N) zob_Of.A 0 (zob_Of.fin N) n zob_Of.k2 (zob_Of.st2 p_ k_ o_ t29_ t33_ t34_ t35_)) = zob_Of.l2 N p_ n := by funext k_ o_ t29_ t33_ t34_ t35_; exact h2 k_ o_ t29_ t33_ t34_ t35_
    have g0 : (∀ (k_ : Int) (t16_ : Int), run tb (zob_Of.G N) zob_Of.A 0 (zob_Of.fin N) (n + 1) zob_Of.k0 (zob_Of.st0 p_ k_ t16_) = zob_Of.l0 N p_ (n + 1) k_ t16_) := by
      intro k_ t16_
      exact (run_succ (by kernel_rfl)).trans ((zob_Of.step0 N _ p_ k_ t16_).trans ((congr (congr (congrArg (fun r0 r1 r2 => zob_Of.s0 N p_ r0 r1 r2 k_ t16_) e0) e1) e2).trans (zob_Of.l0_s N p_ n k_ t16_).symm))
    have g1 : (∀ (k_ : Int) (t29_ : Int), run tb (zob_Of.G N) zob_Of.A 0 (zob_Of.fin N) (n + 1) zob_Of.k1 (zob_Of.st1 p_ k_ t29_) = zob_Of.l1 N p_ (n + 1) k_ t29_) := by
      intro k_ t29_
      exact (run_succ (by kernel_rfl)).trans ((zob_Of.step1 N _ p_ k_ t29_).trans ((congr (congr (congrArg (fun r0 r1 r2 => zob_Of.s1 N p_ r0 r1 r2 k_ t29_) e0) e1) e2).trans (zob_Of.l1_s N p_ n k_ t29_).symm))
    have g2 : (∀ (k_ : Int) (o_ : Int) (t29_ : Int) (t33_ : LInt) (t34_ : Int) (t35_ : Int), run tb (zob_Of.G N) zob_Of.A 0 (zob_Of.fin N) (n + 1) zob_Of.k2 (zob_Of.st2 p_ k_ o_ t29_ t33_ t34_ t35_) = zob_Of.l2 N p_ (n + 1) k_ o_ t29_ t33_ t34_ t35_) := by
      intro k_ o_ t29_ t33_ t34_ t35_
      exact (run_succ (by kernel_rfl)).trans ((zob_Of.step2 N _ p_ k_ o_ t29_ t33_ t34_ t35_).trans ((congr (congr (congrArg (fun r0 r1 r2 => zob_Of.s2 N p_ r0 r1 r2 k_ o_ t29_ t33_ t34_ t35_) e0) e1) e2).trans (zob_Of.l2_s N p_ n k_ o_ t29_ t33_ t34_ t35_).symm))
    exact ⟨g0, g1, g2⟩
theorem zob_Of.ok (N : Nat) : FnOk Tryz.prog 50 (zob_Of.D N) := by
  refine FnOk_of tb_ok (Checked.mixed Tryz.checked) ⟨Tryz.f50, Tryz.func50, by kernel_rfl, by kernel_rfl, fun x y h => ⟨zob_Of.G N, zob_Of.A, N, gamOf_ok (by simp only [List.forall_mem_cons, List.not_mem_nil, false_implies, implies_true, and_true]; exact ⟨⟨zob_turn.ok N, zob_turn.fit N⟩, ⟨zob_square.ok N, zob_square.fit N⟩, ⟨zob_held.ok N, zob_held.fit N⟩⟩), ?_⟩⟩ (zob_Of.fit N)
  rw [absFn_n (n0 := 0) rfl (by kernel_rfl)]
  refine (zob_Of.entry N (run tb (zob_Of.G N) zob_Of.A 0 (zob_Of.fin N) N) x).trans ?_
  have e0 : (fun (k_ : Int) (t16_ : Int) => run tb (zob_Of.G N) zob_Of.A 0 (zob_Of.fin N) N zob_Of.k0 (zob_Of.st0 x.1 k_ t16_)) = zob_Of.l0 N x.1 N := by funext k_ t16_; exact (zob_Of.runs N x.1 N).1 k_ t16_
  have e1 : (fun (k_ : Int) (t29_ : Int) => run tb (zob_Of.G N) zob_Of.A 0 (zob_Of.fin N) N zob_Of.k1 (zob_Of.st1 x.1 k_ t29_)) = zob_Of.l1 N x.1 N := by funext k_ t29_; exact (zob_Of.runs N x.1 N).2.1 k_ t29_
  have e2 : (fun (k_ : Int) (o_ : Int) (t29_ : Int) (t33_ : LInt) (t34_ : Int) (t35_ : Int) => run tb (zob_Of.G N) zob_Of.A 0 (zob_Of.fin N) N zob_Of.k2 (zob_Of.st2 x.1 k_ o_ t29_ t33_ t34_ t35_)) = zob_Of.l2 N x.1 N := by funext k_ o_ t29_ t33_ t34_ t35_; exact (zob_Of.runs N x.1 N).2.2 k_ o_ t29_ t33_ t34_ t35_
  have h' : (zob_Of.D N).f x = zob_Of.e N (zob_Of.l0 N x.1 N) (zob_Of.l1 N x.1 N) (zob_Of.l2 N x.1 N) x.1 := by kernel_rfl
  exact (congr (congr (congrArg (fun r0 r1 r2 => zob_Of.e N r0 r1 r2 x.1) e0) e1) e2).trans (h'.symm.trans h)
/-! ### f70: slices.Clone[[]int,int] -/
def slices_Clone_int_int.as : List MK := [.d false (.slice 3 (.int .i64))]
def slices_Clone_int_int.rs : List (Bool × HT) := [(false, (.own 3 (.int .i64)))]
def slices_Clone_int_int.lc : List AC := []
def slices_Clone_int_int.D (N : Nat) : DFn := ⟨slices_Clone_int_int.as, slices_Clone_int_int.rs, LInt, fun x => slices_Clone_int_int N x.1, fun r o => r.1, fun b => (b, ()), fun b => ()⟩
theorem slices_Clone_int_int.fit (N : Nat) : (slices_Clone_int_int.D N).Fit := ⟨fun _ _ => rfl, fun _ _ => rfl, by kernel_rfl⟩
noncomputable def slices_Clone_int_int.G (N : Nat) : Gam := gamOf []
def slices_Clone_int_int.A : Nat → Option LoopAnn := fun _ => none
noncomputable def slices_Clone_int_int.fin (N : Nat) : St → Option LInt := resK tb Tryz.f70.results.toList (decRes (slices_Clone_int_int.D N) slices_Clone_int_int.lc)
theorem slices_Clone_int_int.entry0 (N : Nat) (rec : List Item → St → Option LInt) : seg tb (slices_Clone_int_int.G N) slices_Clone_int_int.A 0 rec (slices_Clone_int_int.fin N) segFuel [.code (bodyOf Tryz.f70)] (initSt Tryz.f70 [.one .nilS] []) = some [] := by kernel_rfl
theorem slices_Clone_int_int.entry (N : Nat) (rec : List Item → St → Option LInt) (x : LInt) : seg tb (slices_Clone_int_int.G N) slices_Clone_int_int.A 0 rec (slices_Clone_int_int.fin N) segFuel [.code (bodyOf Tryz.f70)] (initSt Tryz.f70 [.one (.frn 3 (.int .i64) x)] []) = slices_Clone_int_int.e N x := by kernel_rfl
theorem slices_Clone_int_int.ok (N : Nat) : FnOk Tryz.prog 70 (slices_Clone_int_int.D N) := by
  refine FnOk_ofN (e := 3) (t := (.int .i64)) (h := rfl) tb_ok (Checked.mixed Tryz.checked) ⟨Tryz.f70, Tryz.func70, by kernel_rfl, by kernel_rfl, fun x y h => ⟨slices_Clone_int_int.G N, slices_Clone_int_int.A, N, gamOf_ok (fun p hp => nomatch hp), fun hx => ?_, ?_⟩⟩ (slices_Clone_int_int.fit N)
  · subst hx; rw [absFn_n (n0 := 0) rfl (by kernel_rfl)]; exact (slices_Clone_int_int.entry0 N _).trans h
  · rw [absFn_n (n0 := 0) rfl (by kernel_rfl)]; exact (slices_Clone_int_int.entry N _ x).trans h
/-! ### f49: gamehall/place.Copy -/
def place_Copy.as : List MK := [.d true (.prod (.slice 3 (.int .i64)) (.prod (.prod (.slice 3 (.int .i64)) (.slice 3 (.int .i64))) (.prod (.int .i64) (.int .i64))))]
def place_Copy.rs : List (Bool × HT) := [(true, (.prod (.own 3 (.int .i64)) (.prod (.prod (.own 3 (.int .i64)) (.own 3 (.int .i64))) (.d (.prod (.int .i64) (.int .i64))))))]
def place_Copy.lc : List AC := []
def place_Copy.D (N : Nat) : DFn := ⟨place_Copy.as, place_Copy.rs, TPos, fun x => place_Copy N x.1, fun r o => r.1, fun b => (b, ()), fun b => ()⟩
theorem place_Copy.fit (N : Nat) : (place_Copy.D N).Fit := ⟨fun _ _ => rfl, fun _ _ => rfl, by kernel_rfl⟩
noncomputable def place_Copy.G (N : Nat) : Gam := gamOf [(70, slices_Clone_int_int.D N)]
def place_Copy.A : Nat → Option LoopAnn := fun k => bif Nat.beq k 0 then some ⟨[], [], [], [], [], 0, true⟩ else none
noncomputable def place_Copy.fin (N : Nat) : St → Option TPos := resK tb Tryz.f49.results.toList (decRes (place_Copy.D N) place_Copy.lc)
theorem place_Copy.entry (N : Nat) (rec : List Item → St → Option TPos) (x : (argH place_Copy.as).den) : seg tb (place_Copy.G N) place_Copy.A 0 rec (place_Copy.fin N) segFuel [.code (bodyOf Tryz.f49)] (initSt Tryz.f49 (encArgs place_Copy.as x) (encMem place_Copy.as x)) = place_Copy.e N x.1 := by kernel_rfl
theorem place_Copy.ok (N : Nat) : FnOk Tryz.prog 49 (place_Copy.D N) := by
  refine FnOk_of tb_ok (Checked.mixed Tryz.checked) ⟨Tryz.f49, Tryz.func49, by kernel_rfl, by kernel_rfl, fun x y h => ⟨place_Copy.G N, place_Copy.A, N, gamOf_ok (by simp only [List.forall_mem_cons, List.not_mem_nil, false_implies, implies_true, and_true]; exact ⟨slices_Clone_int_int.ok N, slices_Clone_int_int.fit N⟩), ?_⟩⟩ (place_Copy.fit N)
  rw [absFn_n (n0 := 0) rfl (by kernel_rfl)]
  exact (place_Copy.entry N _ x).trans h
/-! ### f36: (*gamehall/store.Store).keep -/
def store_Store_keep'.as : List MK := [.o (.ptr 63 (.prod (.d (.prod .str (.prod (.int .i64) (.prod (.int .i64) (.prod (.slice 74 (.prod (.int .u8) (.prod (.int .i64) (.prod (.int .i64) (.slice 107 (.prod (.int .i64) (.prod (.int .i64) (.prod (.int .i64) (.int .i64))))))))) (.prod (.slice 3 (.int .i64)) (.prod .bool (.prod .bool (.prod (.slice 76 (.prod (.int .i64) (.prod (.int .i64) (.prod (.int .i64) .bool)))) (.prod (.int .i64) (.prod (.int .i64) (.int .i64)))))))))))) (.prod (.own 115 (.prod (.prod (.slice 3 (.int .i64)) (.prod (.prod (.slice 3 (.int .i64)) (.slice 3 (.int .i64))) (.prod (.int .i64) (.int .i64)))) (.prod (.int .i64) (.prod (.int .i64) .bool)))) (.d (.prod (.int .i64) (.int .i64)))))) true, .d true (.prod (.slice 3 (.int .i64)) (.prod (.prod (.slice 3 (.int .i64)) (.slice 3 (.int .i64))) (.prod (.int .i64) (.int .i64)))), .d false (.int .i64), .d false (.int .i64)]
def store_Store_keep'.rs : List (Bool × HT) := []
def store_Store_keep'.lc : List AC := [.ptr 0 0]
def store_Store_keep'.D (N : Nat) : DFn := ⟨store_Store_keep'.as, store_Store_keep'.rs, (TRules × ((List (TPos × (Int × (Int × Bool)))) × (Int × Int))), fun x => store_Store_keep' N x.1 x.2.1 x.2.2.1 x.2.2.2.1, fun r o => o.1, fun b => (), fun b => (b, ())⟩
theorem store_Store_keep'.fit (N : Nat) : (store_Store_keep'.D N).Fit := ⟨fun _ _ => rfl, fun _ _ => rfl, by kernel_rfl⟩
noncomputable def store_Store_keep'.G (N : Nat) : Gam := gamI tb [(66, (Tryz.f66, gamOf [(50, zob_Of.D N)]))] [(49, place_Copy.D N)]
def store_Store_keep'.A : Nat → Option LoopAnn := fun _ => none
noncomputable def store_Store_keep'.fin (N : Nat) : St → Option (TRules × ((List (TPos × (Int × (Int × Bool)))) × (Int × Int))) := resK tb Tryz.f36.results.toList (decRes (store_Store_keep'.D N) store_Store_keep'.lc)
theorem store_Store_keep'.entry (N : Nat) (rec : List Item → St → Option (TRules × ((List (TPos × (Int × (Int × Bool)))) × (Int × Int)))) (x : (argH store_Store_keep'.as).den) : seg tb (store_Store_keep'.G N) store_Store_keep'.A 2 rec (store_Store_keep'.fin N) segFuel [.code (bodyOf Tryz.f36)] (initSt Tryz.f36 (encArgs store_Store_keep'.as x) (encMem store_Store_keep'.as x)) = store_Store_keep'.e N x.1 x.2.1 x.2.2.1 x.2.2.2.1 := by kernel_rfl
theorem store_Store_keep'.ok (N : Nat) : FnOk Tryz.prog 36 (store_Store_keep'.D N) := by
  refine FnOk_of tb_ok (Checked.mixed Tryz.checked) ⟨Tryz.f36, Tryz.func36, by kernel_rfl, by kernel_rfl, fun x y h => ⟨store_Store_keep'.G N, store_Store_keep'.A, N, gamI_ok tb_ok (Checked.mixed Tryz.checked) (by simp only [List.forall_mem_cons, List.not_mem_nil, false_implies, implies_true, and_true]; exact ⟨Tryz.func66, ⟨by kernel_rfl, by kernel_rfl⟩, gamOf_ok (by simp only [List.forall_mem_cons, List.not_mem_nil, false_implies, implies_true, and_true]; exact ⟨zob_Of.ok N, zob_Of.fit N⟩)⟩) (by simp only [List.forall_mem_cons, List.not_mem_nil, false_implies, implies_true, and_true]; exact ⟨place_Copy.ok N, place_Copy.fit N⟩), ?_⟩⟩ (store_Store_keep'.fit N)
  rw [absFn_n (n0 := 2) rfl (by kernel_rfl)]
  exact (store_Store_keep'.entry N _ x).trans h
/-! ### f16: (*gamehall/store.Store).Put -/
def store_Store_Put'.as : List MK := [.o (.ptr 63 (.prod (.d (.prod .str (.prod (.int .i64) (.prod (.int .i64) (.prod (.slice 74 (.prod (.int .u8) (.prod (.int .i64) (.prod (.int .i64) (.slice 107 (.prod (.int .i64) (.prod (.int .i64) (.prod (.int .i64) (.int .i64))))))))) (.prod (.slice 3 (.int .i64)) (.prod .bool (.prod .bool (.prod (.slice 76 (.prod (.int .i64) (.prod (.int .i64) (.prod (.int .i64) .bool)))) (.prod (.int .i64) (.prod (.int .i64) (.int .i64)))))))))))) (.prod (.own 115 (.prod (.prod (.slice 3 (.int .i64)) (.prod (.prod (.slice 3 (.int .i64)) (.slice 3 (.int .i64))) (.prod (.int .i64) (.int .i64)))) (.prod (.int .i64) (.prod (.int .i64) .bool)))) (.d (.prod (.int .i64) (.int .i64)))))) true, .d true (.prod (.slice 3 (.int .i64)) (.prod (.prod (.slice 3 (.int .i64)) (.slice 3 (.int .i64))) (.prod (.int .i64) (.int .i64)))), .d false (.int .i64), .d false (.int .i64)]
def store_Store_Put'.rs : List (Bool × HT) := [(false, (.d (.int .i64)))]
def store_Store_Put'.lc : List AC := [.ptr 0 0]
def store_Store_Put'.D (N : Nat) : DFn := ⟨store_Store_Put'.as, store_Store_Put'.rs, (Int × (TRules × ((List (TPos × (Int × (Int × Bool)))) × (Int × Int)))), fun x => store_Store_Put' N x.1 x.2.1 x.2.2.1 x.2.2.2.1, fun r o => (r.1, o.1), fun b => (b.1, ()), fun b => (b.2, ())⟩
theorem store_Store_Put'.fit (N : Nat) : (store_Store_Put'.D N).Fit := ⟨fun _ _ => rfl, fun _ _ => rfl, by kernel_rfl⟩
noncomputable def store_Store_Put'.G (N : Nat) : Gam := gamOf [(35, store_Store_check.D N), (36, store_Store_keep'.D N)]
def store_Store_Put'.A : Nat → Option LoopAnn := fun _ => none
noncomputable def store_Store_Put'.fin (N : Nat) : St → Option (Int × (TRules × ((List (TPos × (Int × (Int × Bool)))) × (Int × Int)))) := resK tb Tryz.f16.results.toList (decRes (store_Store_Put'.D N) store_Store_Put'.lc)
theorem store_Store_Put'.entry (N : Nat) (rec : List Item → St → Option (Int × (TRules × ((List (TPos × (Int × (Int × Bool)))) × (Int × Int))))) (x : (argH store_Store_Put'.as).den) : seg tb (store_Store_Put'.G N) store_Store_Put'.A 2 rec (store_Store_Put'.fin N) segFuel [.code (bodyOf Tryz.f16)] (initSt Tryz.f16 (encArgs store_Store_Put'.as x) (encMem store_Store_Put'.as x)) = store_Store_Put'.e N x.1 x.2.1 x.2.2.1 x.2.2.2.1 := by kernel_rfl
theorem store_Store_Put'.ok (N : Nat) : FnOk Tryz.prog 16 (store_Store_Put'.D N) := by
  refine FnOk_of tb_ok (Checked.mixed Tryz.checked) ⟨Tryz.f16, Tryz.func16, by kernel_rfl, by kernel_rfl, fun x y h => ⟨store_Store_Put'.G N, store_Store_Put'.A, N, gamOf_ok (by simp only [List.forall_mem_cons, List.not_mem_nil, false_implies, implies_true, and_true]; exact ⟨⟨store_Store_check.ok N, store_Store_check.fit N⟩, ⟨store_Store_keep'.ok N, store_Store_keep'.fit N⟩⟩), ?_⟩⟩ (store_Store_Put'.fit N)
  rw [absFn_n (n0 := 2) rfl (by kernel_rfl)]
  exact (store_Store_Put'.entry N _ x).trans h
/-! ### f83: slices.Equal[[]int,int] -/
def slices_Equal_int_int.as : List MK := [.d false (.slice 3 (.int .i64)), .d false (.slice 3 (.int .i64))]
def slices_Equal_int_int.rs : List (Bool × HT) := [(false, (.d .bool))]
def slices_Equal_int_int.lc : List AC := []
def slices_Equal_int_int.D (N : Nat) : DFn := ⟨slices_Equal_int_int.as, slices_Equal_int_int.rs, Bool, fun x => slices_Equal_int_int N x.1 x.2.1, fun r o => r.1, fun b => (b, ()), fun b => ()⟩
theorem slices_Equal_int_int.fit (N : Nat) : (slices_Equal_int_int.D N).Fit := ⟨fun _ _ => rfl, fun _ _ => rfl, by kernel_rfl⟩
noncomputable def slices_Equal_int_int.G (N : Nat) : Gam := gamOf []
def slices_Equal_int_int.A : Nat → Option LoopAnn := fun k => bif Nat.beq k 0 then some ⟨[0, 1, 12, 13], [], [], [], [], 0, false⟩ else none
noncomputable def slices_Equal_int_int.fin (N : Nat) : St → Option Bool := resK tb Tryz.f83.results.toList (decRes (slices_Equal_int_int.D N) slices_Equal_int_int.lc)
noncomputable def slices_Equal_int_int.k0 : List Item := stackAt [.r, .r, .l, .r, .b] (bodyOf Tryz.f83) []
def slices_Equal_int_int.st0 (s1_ : LInt) (s2_ : LInt) (t13_ : Int) : St := ⟨[.one (.fro 3 (.int .i64) s1_), .one (.fro 3 (.int .i64) s2_)] ++ List.replicate 10 (.one .any) ++ [.one (.int .i64 (s1_.length : Int)), .one (.int .i64 t13_)] ++ List.replicate 12 (.one .any), []⟩
theorem slices_Equal_int_int.step0 (N : Nat) (rec : List Item → St → Option Bool) (s1_ : LInt) (s2_ : LInt) (t13_ : Int) : seg tb (slices_Equal_int_int.G N) slices_Equal_int_int.A 0 rec (slices_Equal_int_int.fin N) segFuel (loopBody slices_Equal_int_int.k0) (slices_Equal_int_int.st0 s1_ s2_ t13_) = slices_Equal_int_int.s0 N s1_ s2_ (fun t13_ => rec slices_Equal_int_int.k0 (slices_Equal_int_int.st0 s1_ s2_ t13_)) t13_ := by kernel_rfl
theorem slices_Equal_int_int.entry (N : Nat) (rec : List Item → St → Option Bool) (x : (argH slices_Equal_int_int.as).den) : seg tb (slices_Equal_int_int.G N) slices_Equal_int_int.A 0 rec (slices_Equal_int_int.fin N) segFuel [.code (bodyOf Tryz.f83)] (initSt Tryz.f83 (encArgs slices_Equal_int_int.as x) (encMem slices_Equal_int_int.as x)) = slices_Equal_int_int.e N (fun t13_ => rec slices_Equal_int_int.k0 (slices_Equal_int_int.st0 x.1 x.2.1 t13_)) x.1 x.2.1 := by kernel_rfl
theorem slices_Equal_int_int.runs (N : Nat) (s1_ : LInt) (s2_ : LInt) : ∀ n, (∀ (t13_ : Int), run tb (slices_Equal_int_int.G N) slices_Equal_int_int.A 0 (slices_Equal_int_int.fin N) n slices_Equal_int_int.k0 (slices_Equal_int_int.st0 s1_ s2_ t13_) = slices_Equal_int_int.l0 N s1_ s2_ n t13_)
  | 0 => fun _ => rfl
  | n + 1 => by
    have h0 := slices_Equal_int_int.runs N s1_ s2_ n
    have e0 : (fun (t13_ : Int) => run tb (slices_Equal_int_int.G N) slices_Equal_int_int.A 0 (slices_Equal_int_int.fin N) n slices_Equal_int_int.k0 (slices_Equal_int_int.st0 s1_ s2_ t13_)) = slices_Equal_int_int.l0 N s1_ s2_ n := by funext t13_; exact h0 t13_
    have g0 : (∀ (t13_ : Int), run tb (slices_Equal_int_int.G N) slices_Equal_int_int.A 0 (slices_Equal_int_int.fin N) (n + 1) slices_Equal_int_int.k0 (slices_Equal_int_int.st0 s1_ s2_ t13_) = slices_Equal_int_int.l0 N s1_ s2_ (n + 1) t13_) := by
      intro t13_
      exact (run_succ (by kernel_rfl)).trans ((slices_Equal_int_int.step0 N _ s1_ s2_ t13_).trans ((congrArg (fun r0 => slices_Equal_int_int.s0 N s1_ s2_ r0 t13_) e0).trans (slices_Equal_int_int.l0_s N s1_ s2_ n t13_).symm))
    exact g0
theorem slices_Equal_int_int.ok (N : Nat) : FnOk Tryz.prog 83 (slices_Equal_int_int.D N) := by
  refine FnOk_of tb_ok (Checked.mixed Tryz.checked) ⟨Tryz.f83, Tryz.func83, by kernel_rfl, by kernel_rfl, fun x y h => ⟨slices_Equal_int_int.G N, slices_Equal_int_int.A, N, gamOf_ok (fun p hp => nomatch hp), ?_⟩⟩ (slices_Equal_int_int.fit N)
  rw [absFn_n (n0 := 0) rfl (by kernel_rfl)]
  refine (slices_Equal_int_int.entry N (run tb (slices_Equal_int_int.G N) slices_Equal_int_int.A 0 (slices_Equal_int_int.fin N) N) x).trans ?_
  have e0 : (fun (t13_ : Int) => run tb (slices_Equal_int_int.G N) slices_Equal_int_int.A 0 (slices_Equal_int_int.fin N) N slices_Equal_int_int.k0 (slices_Equal_int_int.st0 x.1 x.2.1 t13_)) = slices_Equal_int_int.l0 N x.1 x.2.1 N := by funext t13_; exact (slices_Equal_int_int.runs N x.1 x.2.1 N) t13_
  have h' : (slices_Equal_int_int.D N).f x = slices_Equal_int_int.e N (slices_Equal_int_int.l0 N x.1 x.2.1 N) x.1 x.2.1 := by kernel_rfl
  exact (congrArg (fun r0 => slices_Equal_int_int.e N r0 x.1 x.2.1) e0).trans (h'.symm.trans h)
/-! ### f67: gamehall/place.Same -/
def place_Same.as : List MK := [.d true (.prod (.slice 3 (.int .i64)) (.prod (.prod (.slice 3 (.int .i64)) (.slice 3 (.int .i64))) (.prod (.int .i64) (.int .i64)))), .d true (.prod (.slice 3 (.int .i64)) (.prod (.prod (.slice 3 (.int .i64)) (.slice 3 (.int .i64))) (.prod (.int .i64) (.int .i64))))]
def place_Same.rs : List (Bool × HT) := [(false, (.d .bool))]
def place_Same.lc : List AC := []
def place_Same.D (N : Nat) : DFn := ⟨place_Same.as, place_Same.rs, Bool, fun x => place_Same N x.1 x.2.1, fun r o => r.1, fun b => (b, ()), fun b => ()⟩
theorem place_Same.fit (N : Nat) : (place_Same.D N).Fit := ⟨fun _ _ => rfl, fun _ _ => rfl, by kernel_rfl⟩
noncomputable def place_Same.G (N : Nat) : Gam := gamOf [(83, slices_Equal_int_int.D N)]
def place_Same.A : Nat → Option LoopAnn := fun _ => none
noncomputable def place_Same.fin (N : Nat) : St → Option Bool := resK tb Tryz.f67.results.toList (decRes (place_Same.D N) place_Same.lc)
theorem place_Same.entry (N : Nat) (rec : List Item → St → Option Bool) (x : (argH place_Same.as).den) : seg tb (place_Same.G N) place_Same.A 0 rec (place_Same.fin N) segFuel [.code (bodyOf Tryz.f67)] (initSt Tryz.f67 (encArgs place_Same.as x) (encMem place_Same.as x)) = place_Same.e N x.1 x.2.1 := by kernel_rfl
theorem place_Same.ok (N : Nat) : FnOk Tryz.prog 67 (place_Same.D N) := by
  refine FnOk_of tb_ok (Checked.mixed Tryz.checked) ⟨Tryz.f67, Tryz.func67, by kernel_rfl, by kernel_rfl, fun x y h => ⟨place_Same.G N, place_Same.A, N, gamOf_ok (by simp only [List.forall_mem_cons, List.not_mem_nil, false_implies, implies_true, and_true]; exact ⟨slices_Equal_int_int.ok N, slices_Equal_int_int.fit N⟩), ?_⟩⟩ (place_Same.fit N)
  rw [absFn_n (n0 := 0) rfl (by kernel_rfl)]
  exact (place_Same.entry N _ x).trans h
/-! ### f37: (*gamehall/store.Store).find -/
def store_Store_find'.as : List MK := [.o (.ptr 63 (.prod (.d (.prod .str (.prod (.int .i64) (.prod (.int .i64) (.prod (.slice 74 (.prod (.int .u8) (.prod (.int .i64) (.prod (.int .i64) (.slice 107 (.prod (.int .i64) (.prod (.int .i64) (.prod (.int .i64) (.int .i64))))))))) (.prod (.slice 3 (.int .i64)) (.prod .bool (.prod .bool (.prod (.slice 76 (.prod (.int .i64) (.prod (.int .i64) (.prod (.int .i64) .bool)))) (.prod (.int .i64) (.prod (.int .i64) (.int .i64)))))))))))) (.prod (.own 115 (.prod (.prod (.slice 3 (.int .i64)) (.prod (.prod (.slice 3 (.int .i64)) (.slice 3 (.int .i64))) (.prod (.int .i64) (.int .i64)))) (.prod (.int .i64) (.prod (.int .i64) .bool)))) (.d (.prod (.int .i64) (.int .i64)))))) true, .d true (.prod (.slice 3 (.int .i64)) (.prod (.prod (.slice 3 (.int .i64)) (.slice 3 (.int .i64))) (.prod (.int .i64) (.int .i64)))), .d false (.int .i64)]
def store_Store_find'.rs : List (Bool × HT) := [(false, (.d (.int .i64))), (false, (.d .bool))]
def store_Store_find'.lc : List AC := [.ptr 0 0]
def store_Store_find'.D (N : Nat) : DFn := ⟨store_Store_find'.as, store_Store_find'.rs, (Int × Bool × (TRules × ((List (TPos × (Int × (Int × Bool)))) × (Int × Int)))), fun x => store_Store_find' N x.1 x.2.1 x.2.2.1, fun r o => (r.1, r.2.1, o.1), fun b => (b.1, (b.2.1, ())), fun b => (b.2.2, ())⟩
theorem store_Store_find'.fit (N : Nat) : (store_Store_find'.D N).Fit := ⟨fun _ _ => rfl, fun _ _ => rfl, by kernel_rfl⟩
noncomputable def store_Store_find'.G (N : Nat) : Gam := gamI tb [(66, (Tryz.f66, gamOf [(50, zob_Of.D N)]))] [(67, place_Same.D N)]
def store_Store_find'.A : Nat → Option LoopAnn := fun _ => none
noncomputable def store_Store_find'.fin (N : Nat) : St → Option (Int × Bool × (TRules × ((List (TPos × (Int × (Int × Bool)))) × (Int × Int)))) := resK tb Tryz.f37.results.toList (decRes (store_Store_find'.D N) store_Store_find'.lc)
theorem store_Store_find'.entry (N : Nat) (rec : List Item → St → Option (Int × Bool × (TRules × ((List (TPos × (Int × (Int × Bool)))) × (Int × Int))))) (x : (argH store_Store_find'.as).den) : seg tb (store_Store_find'.G N) store_Store_find'.A 2 rec (store_Store_find'.fin N) segFuel [.code (bodyOf Tryz.f37)] (initSt Tryz.f37 (encArgs store_Store_find'.as x) (encMem store_Store_find'.as x)) = store_Store_find'.e N x.1 x.2.1 x.2.2.1 := by kernel_rfl
theorem store_Store_find'.ok (N : Nat) : FnOk Tryz.prog 37 (store_Store_find'.D N) := by
  refine FnOk_of tb_ok (Checked.mixed Tryz.checked) ⟨Tryz.f37, Tryz.func37, by kernel_rfl, by kernel_rfl, fun x y h => ⟨store_Store_find'.G N, store_Store_find'.A, N, gamI_ok tb_ok (Checked.mixed Tryz.checked) (by simp only [List.forall_mem_cons, List.not_mem_nil, false_implies, implies_true, and_true]; exact ⟨Tryz.func66, ⟨by kernel_rfl, by kernel_rfl⟩, gamOf_ok (by simp only [List.forall_mem_cons, List.not_mem_nil, false_implies, implies_true, and_true]; exact ⟨zob_Of.ok N, zob_Of.fit N⟩)⟩) (by simp only [List.forall_mem_cons, List.not_mem_nil, false_implies, implies_true, and_true]; exact ⟨place_Same.ok N, place_Same.fit N⟩), ?_⟩⟩ (store_Store_find'.fit N)
  rw [absFn_n (n0 := 2) rfl (by kernel_rfl)]
  exact (store_Store_find'.entry N _ x).trans h
/-! ### f18: (*gamehall/store.Store).Get -/
def store_Store_Get'.as : List MK := [.o (.ptr 63 (.prod (.d (.prod .str (.prod (.int .i64) (.prod (.int .i64) (.prod (.slice 74 (.prod (.int .u8) (.prod (.int .i64) (.prod (.int .i64) (.slice 107 (.prod (.int .i64) (.prod (.int .i64) (.prod (.int .i64) (.int .i64))))))))) (.prod (.slice 3 (.int .i64)) (.prod .bool (.prod .bool (.prod (.slice 76 (.prod (.int .i64) (.prod (.int .i64) (.prod (.int .i64) .bool)))) (.prod (.int .i64) (.prod (.int .i64) (.int .i64)))))))))))) (.prod (.own 115 (.prod (.prod (.slice 3 (.int .i64)) (.prod (.prod (.slice 3 (.int .i64)) (.slice 3 (.int .i64))) (.prod (.int .i64) (.int .i64)))) (.prod (.int .i64) (.prod (.int .i64) .bool)))) (.d (.prod (.int .i64) (.int .i64)))))) true, .d true (.prod (.slice 3 (.int .i64)) (.prod (.prod (.slice 3 (.int .i64)) (.slice 3 (.int .i64))) (.prod (.int .i64) (.int .i64)))), .d false (.int .i64)]
def store_Store_Get'.rs : List (Bool × HT) := [(false, (.d (.int .i64))), (false, (.d (.int .i64)))]
def store_Store_Get'.lc : List AC := [.ptr 0 0]
def store_Store_Get'.D (N : Nat) : DFn := ⟨store_Store_Get'.as, store_Store_Get'.rs, (Int × Int × (TRules × ((List (TPos × (Int × (Int × Bool)))) × (Int × Int)))), fun x => store_Store_Get' N x.1 x.2.1 x.2.2.1, fun r o => (r.1, r.2.1, o.1), fun b => (b.1, (b.2.1, ())), fun b => (b.2.2, ())⟩
theorem store_Store_Get'.fit (N : Nat) : (store_Store_Get'.D N).Fit := ⟨fun _ _ => rfl, fun _ _ => rfl, by kernel_rfl⟩
noncomputable def store_Store_Get'.G (N : Nat) : Gam := gamOf [(35, store_Store_check.D N), (37, store_Store_find'.D N)]
def store_Store_Get'.A : Nat → Option LoopAnn := fun _ => none
noncomputable def store_Store_Get'.fin (N : Nat) : St → Option (Int × Int × (TRules × ((List (TPos × (Int × (Int × Bool)))) × (Int × Int)))) := resK tb Tryz.f18.results.toList (decRes (store_Store_Get'.D N) store_Store_Get'.lc)
theorem store_Store_Get'.entry (N : Nat) (rec : List Item → St → Option (Int × Int × (TRules × ((List (TPos × (Int × (Int × Bool)))) × (Int × Int))))) (x : (argH store_Store_Get'.as).den) : seg tb (store_Store_Get'.G N) store_Store_Get'.A 2 rec (store_Store_Get'.fin N) segFuel [.code (bodyOf Tryz.f18)] (initSt Tryz.f18 (encArgs store_Store_Get'.as x) (encMem store_Store_Get'.as x)) = store_Store_Get'.e N x.1 x.2.1 x.2.2.1 := by kernel_rfl
theorem store_Store_Get'.ok (N : Nat) : FnOk Tryz.prog 18 (store_Store_Get'.D N) := by
  refine FnOk_of tb_ok (Checked.mixed Tryz.checked) ⟨Tryz.f18, Tryz.func18, by kernel_rfl, by kernel_rfl, fun x y h => ⟨store_Store_Get'.G N, store_Store_Get'.A, N, gamOf_ok (by simp only [List.forall_mem_cons, List.not_mem_nil, false_implies, implies_true, and_true]; exact ⟨⟨store_Store_check.ok N, store_Store_check.fit N⟩, ⟨store_Store_find'.ok N, store_Store_find'.fit N⟩⟩), ?_⟩⟩ (store_Store_Get'.fit N)
  rw [absFn_n (n0 := 2) rfl (by kernel_rfl)]
  exact (store_Store_Get'.entry N _ x).trans h
/-! ### f29: gamehall/board.New -/
def board_New.as : List MK := [.d true (.prod .str (.prod (.int .i64) (.prod (.int .i64) (.prod (.slice 74 (.prod (.int .u8) (.prod (.int .i64) (.prod (.int .i64) (.slice 107 (.prod (.int .i64) (.prod (.int .i64) (.prod (.int .i64) (.int .i64))))))))) (.prod (.slice 3 (.int .i64)) (.prod .bool (.prod .bool (.prod (.slice 76 (.prod (.int .i64) (.prod (.int .i64) (.prod (.int .i64) .bool)))) (.prod (.int .i64) (.prod (.int .i64) (.int .i64))))))))))), .d true (.prod (.slice 3 (.int .i64)) (.prod (.prod (.slice 3 (.int .i64)) (.slice 3 (.int .i64))) (.prod (.int .i64) (.int .i64))))]
def board_New.rs : List (Bool × HT) := [(false, (.opt 100 (.prod (.prod (.d .str) (.prod (.d (.int .i64)) (.prod (.d (.int .i64)) (.prod (.own 74 (.prod (.int .u8) (.prod (.int .i64) (.prod (.int .i64) (.slice 107 (.prod (.int .i64) (.prod (.int .i64) (.prod (.int .i64) (.int .i64))))))))) (.prod (.own 3 (.int .i64)) (.prod (.d .bool) (.prod (.d .bool) (.prod (.own 76 (.prod (.int .i64) (.prod (.int .i64) (.prod (.int .i64) .bool)))) (.d (.prod (.int .i64) (.prod (.int .i64) (.int .i64)))))))))))) (.prod (.prod (.own 3 (.int .i64)) (.prod (.prod (.own 3 (.int .i64)) (.own 3 (.int .i64))) (.d (.prod (.int .i64) (.int .i64))))) (.prod (.d (.int .u64)) (.own 127 (.prod (.prod (.int .i64) (.prod (.int .i64) (.int .i64))) (.prod (.int .i64) (.prod (.int .i64) (.prod .bool (.prod (.int .i64) (.int .u64)))))))))))), (false, (.d (.int .i64)))]
def board_New.lc : List AC := []
def board_New.D (N : Nat) : DFn := ⟨board_New.as, board_New.rs, ((Option TBoard) × Int), fun x => board_New N x.1 x.2.1, fun r o => (r.1, r.2.1), fun b => (b.1, (b.2, ())), fun b => ()⟩
theorem board_New.fit (N : Nat) : (board_New.D N).Fit := ⟨fun _ _ => rfl, fun _ _ => rfl, by kernel_rfl⟩
noncomputable def board_New.G (N : Nat) : Gam := gamOf [(32, place_Check.D N), (26, rules_Copy.D N), (49, place_Copy.D N), (50, zob_Of.D N)]
def board_New.A : Nat → Option LoopAnn := fun _ => none
noncomputable def board_New.fin (N : Nat) : St → Option ((Option TBoard) × Int) := resK tb Tryz.f29.results.toList (decRes (board_New.D N) board_New.lc)
theorem board_New.entry (N : Nat) (rec : List Item → St → Option ((Option TBoard) × Int)) (x : (argH board_New.as).den) : seg tb (board_New.G N) board_New.A 0 rec (board_New.fin N) segFuel [.code (bodyOf Tryz.f29)] (initSt Tryz.f29 (encArgs board_New.as x) (encMem board_New.as x)) = board_New.e N x.1 x.2.1 := by kernel_rfl
theorem board_New.ok (N : Nat) : FnOk Tryz.prog 29 (board_New.D N) := by
  refine FnOk_of tb_ok (Checked.mixed Tryz.checked) ⟨Tryz.f29, Tryz.func29, by kernel_rfl, by kernel_rfl, fun x y h => ⟨board_New.G N, board_New.A, N, gamOf_ok (by simp only [List.forall_mem_cons, List.not_mem_nil, false_implies, implies_true, and_true]; exact ⟨⟨place_Check.ok N, place_Check.fit N⟩, ⟨rules_Copy.ok N, rules_Copy.fit N⟩, ⟨place_Copy.ok N, place_Copy.fit N⟩, ⟨zob_Of.ok N, zob_Of.fit N⟩⟩), ?_⟩⟩ (board_New.fit N)
  rw [absFn_n (n0 := 0) rfl (by kernel_rfl)]
  exact (board_New.entry N _ x).trans h
/-! ### f47: gamehall/perft.check -/
def perft_check.as : List MK := [.d true (.prod .str (.prod (.int .i64) (.prod (.int .i64) (.prod (.slice 74 (.prod (.int .u8) (.prod (.int .i64) (.prod (.int .i64) (.slice 107 (.prod (.int .i64) (.prod (.int .i64) (.prod (.int .i64) (.int .i64))))))))) (.prod (.slice 3 (.int .i64)) (.prod .bool (.prod .bool (.prod (.slice 76 (.prod (.int .i64) (.prod (.int .i64) (.prod (.int .i64) .bool)))) (.prod (.int .i64) (.prod (.int .i64) (.int .i64))))))))))), .d true (.prod (.slice 3 (.int .i64)) (.prod (.prod (.slice 3 (.int .i64)) (.slice 3 (.int .i64))) (.prod (.int .i64) (.int .i64)))), .d false (.int .i64)]
def perft_check.rs : List (Bool × HT) := [(false, (.opt 100 (.prod (.prod (.d .str) (.prod (.d (.int .i64)) (.prod (.d (.int .i64)) (.prod (.own 74 (.prod (.int .u8) (.prod (.int .i64) (.prod (.int .i64) (.slice 107 (.prod (.int .i64) (.prod (.int .i64) (.prod (.int .i64) (.int .i64))))))))) (.prod (.own 3 (.int .i64)) (.prod (.d .bool) (.prod (.d .bool) (.prod (.own 76 (.prod (.int .i64) (.prod (.int .i64) (.prod (.int .i64) .bool)))) (.d (.prod (.int .i64) (.prod (.int .i64) (.int .i64)))))))))))) (.prod (.prod (.own 3 (.int .i64)) (.prod (.prod (.own 3 (.int .i64)) (.own 3 (.int .i64))) (.d (.prod (.int .i64) (.int .i64))))) (.prod (.d (.int .u64)) (.own 127 (.prod (.prod (.int .i64) (.prod (.int .i64) (.int .i64))) (.prod (.int .i64) (.prod (.int .i64) (.prod .bool (.prod (.int .i64) (.int .u64)))))))))))), (false, (.d (.int .i64)))]
def perft_check.lc : List AC := []
def perft_check.D (N : Nat) : DFn := ⟨perft_check.as, perft_check.rs, ((Option TBoard) × Int), fun x => perft_check N x.1 x.2.1 x.2.2.1, fun r o => (r.1, r.2.1), fun b => (b.1, (b.2, ())), fun b => ()⟩
theorem perft_check.fit (N : Nat) : (perft_check.D N).Fit := ⟨fun _ _ => rfl, fun _ _ => rfl, by kernel_rfl⟩
noncomputable def perft_check.G (N : Nat) : Gam := gamOf [(29, board_New.D N)]
def perft_check.A : Nat → Option LoopAnn := fun _ => none
noncomputable def perft_check.fin (N : Nat) : St → Option ((Option TBoard) × Int) := resK tb Tryz.f47.results.toList (decRes (perft_check.D N) perft_check.lc)
theorem perft_check.entry (N : Nat) (rec : List Item → St → Option ((Option TBoard) × Int)) (x : (argH perft_check.as).den) : seg tb (perft_check.G N) perft_check.A 0 rec (perft_check.fin N) segFuel [.code (bodyOf Tryz.f47)] (initSt Tryz.f47 (encArgs perft_check.as x) (encMem perft_check.as x)) = perft_check.e N x.1 x.2.1 x.2.2.1 := by kernel_rfl
theorem perft_check.ok (N : Nat) : FnOk Tryz.prog 47 (perft_check.D N) := by
  refine FnOk_of tb_ok (Checked.mixed Tryz.checked) ⟨Tryz.f47, Tryz.func47, by kernel_rfl, by kernel_rfl, fun x y h => ⟨perft_check.G N, perft_check.A, N, gamOf_ok (by simp only [List.forall_mem_cons, List.not_mem_nil, false_implies, implies_true, and_true]; exact ⟨board_New.ok N, board_New.fit N⟩), ?_⟩⟩ (perft_check.fit N)
  rw [absFn_n (n0 := 0) rfl (by kernel_rfl)]
  exact (perft_check.entry N _ x).trans h
/-! ### f59: gamehall/moves.Owner -/
def moves_Owner.as : List MK := [.d false (.int .i64)]
def moves_Owner.rs : List (Bool × HT) := [(false, (.d (.int .i64)))]
def moves_Owner.lc : List AC := []
def moves_Owner.D (N : Nat) : DFn := ⟨moves_Owner.as, moves_Owner.rs, Int, fun x => moves_Owner N x.1, fun r o => r.1, fun b => (b, ()), fun b => ()⟩
theorem moves_Owner.fit (N : Nat) : (moves_Owner.D N).Fit := ⟨fun _ _ => rfl, fun _ _ => rfl, by kernel_rfl⟩
noncomputable def moves_Owner.G (N : Nat) : Gam := gamOf []
def moves_Owner.A : Nat → Option LoopAnn := fun _ => none
noncomputable def moves_Owner.fin (N : Nat) : St → Option Int := resK tb Tryz.f59.results.toList (decRes (moves_Owner.D N) moves_Owner.lc)
theorem moves_Owner.entry (N : Nat) (rec : List Item → St → Option Int) (x : (argH moves_Owner.as).den) : seg tb (moves_Owner.G N) moves_Owner.A 0 rec (moves_Owner.fin N) segFuel [.code (bodyOf Tryz.f59)] (initSt Tryz.f59 (encArgs moves_Owner.as x) (encMem moves_Owner.as x)) = moves_Owner.e N x.1 := by kernel_rfl
theorem moves_Owner.ok (N : Nat) : FnOk Tryz.prog 59 (moves_Owner.D N) := by
  refine FnOk_of tb_ok (Checked.mixed Tryz.checked) ⟨Tryz.f59, Tryz.func59, by kernel_rfl, by kernel_rfl, fun x y h => ⟨moves_Owner.G N, moves_Owner.A, N, gamOf_ok (fun p hp => nomatch hp), ?_⟩⟩ (moves_Owner.fit N)
  rw [absFn_n (n0 := 0) rfl (by kernel_rfl)]
  exact (moves_Owner.entry N _ x).trans h
/-! ### f98: gamehall/ends.row -/
def ends_row.as : List MK := [.d true (.prod .str (.prod (.int .i64) (.prod (.int .i64) (.prod (.slice 74 (.prod (.int .u8) (.prod (.int .i64) (.prod (.int .i64) (.slice 107 (.prod (.int .i64) (.prod (.int .i64) (.prod (.int .i64) (.int .i64))))))))) (.prod (.slice 3 (.int .i64)) (.prod .bool (.prod .bool (.prod (.slice 76 (.prod (.int .i64) (.prod (.int .i64) (.prod (.int .i64) .bool)))) (.prod (.int .i64) (.prod (.int .i64) (.int .i64))))))))))), .d true (.prod (.slice 3 (.int .i64)) (.prod (.prod (.slice 3 (.int .i64)) (.slice 3 (.int .i64))) (.prod (.int .i64) (.int .i64)))), .d false (.int .i64), .d false (.int .i64)]
def ends_row.rs : List (Bool × HT) := [(false, (.d .bool))]
def ends_row.lc : List AC := []
def ends_row.D (N : Nat) : DFn := ⟨ends_row.as, ends_row.rs, Bool, fun x => ends_row N x.1 x.2.1 x.2.2.1 x.2.2.2.1, fun r o => r.1, fun b => (b, ()), fun b => ()⟩
theorem ends_row.fit (N : Nat) : (ends_row.D N).Fit := ⟨fun _ _ => rfl, fun _ _ => rfl, by kernel_rfl⟩
noncomputable def ends_row.G (N : Nat) : Gam := gamOf [(59, moves_Owner.D N)]
def ends_row.A : Nat → Option LoopAnn := fun k => bif Nat.beq k 0 then some ⟨[2, 3, 4, 5, 17, 18], [], [], [], [], 2, false⟩ else bif Nat.beq k 2 then some ⟨[2, 3, 4, 5, 9, 17, 18, 25, 26], [], [], [], [], 2, false⟩ else bif Nat.beq k 4 then some ⟨[2, 3, 4, 5, 9, 11, 12, 13, 14, 17, 18, 25, 26], [], [], [], [], 3, false⟩ else none
noncomputable def ends_row.fin (N : Nat) : St → Option Bool := resK tb Tryz.f98.results.toList (decRes (ends_row.D N) ends_row.lc)
noncomputable def ends_row.k0 : List Item := stackAt [.r, .l, .r, .b] (bodyOf Tryz.f98) []
def ends_row.st0 (r_ : TRules) (p_ : TPos) (player : Int) (count : Int) (t18_ : Int) : St := ⟨[.one .any, .one .any, .one (.int .i64 player), .one (.int .i64 count), .one (.ptr 0 0), .one (.ptr 1 0)] ++ List.replicate 11 (.one .any) ++ [.one (.int .i64 (p_.1.length : Int)), .one (.int .i64 t18_)] ++ List.replicate 71 (.one .any), [.var 26 [.str r_.1, .int .i64 r_.2.1, .int .i64 r_.2.2.1, .fro 74 (.prod (.int .u8) (.prod (.int .i64) (.prod (.int .i64) (.slice 107 (.prod (.int .i64) (.prod (.int .i64) (.prod (.int .i64) (.int .i64)))))))) r_.2.2.2.1, .fro 3 (.int .i64) r_.2.2.2.2.1, .bool r_.2.2.2.2.2.1, .bool r_.2.2.2.2.2.2.1, .fro 76 (.prod (.int .i64) (.prod (.int .i64) (.prod (.int .i64) .bool))) r_.2.2.2.2.2.2.2.1, .int .i64 r_.2.2.2.2.2.2.2.2.1, .int .i64 r_.2.2.2.2.2.2.2.2.2.1, .int .i64 r_.2.2.2.2.2.2.2.2.2.2], .var 29 [.fro 3 (.int .i64) p_.1, .fro 3 (.int .i64) p_.2.1.1, .fro 3 (.int .i64) p_.2.1.2, .int .i64 p_.2.2.1, .int .i64 p_.2.2.2]]⟩
noncomputable def ends_row.k1 : List Item := stackAt [.r, .l, .r, .b, .w, .r, .r, .l, .b, .r, .r, .b] (bodyOf Tryz.f98) []
def ends_row.st1 (r_ : TRules) (p_ : TPos) (player : Int) (count : Int) (s_ : Int) (t18_ : Int) (t26_ : Int) : St := ⟨[.one .any, .one .any, .one (.int .i64 player), .one (.int .i64 count), .one (.ptr 0 0), .one (.ptr 1 0)] ++ List.replicate 3 (.one .any) ++ [.one (.int .i64 s_)] ++ List.replicate 7 (.one .any) ++ [.one (.int .i64 (p_.1.length : Int)), .one (.int .i64 t18_)] ++ List.replicate 6 (.one .any) ++ [.agg [.int .i64 1, .int .i64 0, .int .i64 0, .int .i64 1, .int .i64 1, .int .i64 1, .int .i64 1, .int .i64 (-1)], .one (.int .i64 t26_)] ++ List.replicate 63 (.one .any), [.var 26 [.str r_.1, .int .i64 r_.2.1, .int .i64 r_.2.2.1, .fro 74 (.prod (.int .u8) (.prod (.int .i64) (.prod (.int .i64) (.slice 107 (.prod (.int .i64) (.prod (.int .i64) (.prod (.int .i64) (.int .i64)))))))) r_.2.2.2.1, .fro 3 (.int .i64) r_.2.2.2.2.1, .bool r_.2.2.2.2.2.1, .bool r_.2.2.2.2.2.2.1, .fro 76 (.prod (.int .i64) (.prod (.int .i64) (.prod (.int .i64) .bool))) r_.2.2.2.2.2.2.2.1, .int .i64 r_.2.2.2.2.2.2.2.2.1, .int .i64 r_.2.2.2.2.2.2.2.2.2.1, .int .i64 r_.2.2.2.2.2.2.2.2.2.2], .var 29 [.fro 3 (.int .i64) p_.1, .fro 3 (.int .i64) p_.2.1.1, .fro 3 (.int .i64) p_.2.1.2, .int .i64 p_.2.2.1, .int .i64 p_.2.2.2]]⟩
noncomputable def ends_row.k2 : List Item := stackAt [.r, .l, .r, .b, .w, .r, .r, .l, .b, .r, .r, .b, .w, .r, .r, .l, .b, .r, .r, .l, .b] (bodyOf Tryz.f98) []
def ends_row.st2 (r_ : TRules) (p_ : TPos) (player : Int) (count : Int) (s_ : Int) (x_ : Int) (y_ : Int) (n_ : Int) (t18_ : Int) (t26_ : Int) (d_ : Int) (d_2 : Int) : St := ⟨[.one .any, .one .any, .one (.int .i64 player), .one (.int .i64 count), .one (.ptr 0 0), .one (.ptr 1 0)] ++ List.replicate 3 (.one .any) ++ [.one (.int .i64 s_), .one .any, .one (.ptr 2 0), .one (.int .i64 x_), .one (.int .i64 y_), .one (.int .i64 n_), .one .any, .one .any, .one (.int .i64 (p_.1.length : Int)), .one (.int .i64 t18_)] ++ List.replicate 6 (.one .any) ++ [.agg [.int .i64 1, .int .i64 0, .int .i64 0, .int .i64 1, .int .i64 1, .int .i64 1, .int .i64 1, .int .i64 (-1)], .one (.int .i64 t26_)] ++ List.replicate 63 (.one .any), [.var 26 [.str r_.1, .int .i64 r_.2.1, .int .i64 r_.2.2.1, .fro 74 (.prod (.int .u8) (.prod (.int .i64) (.prod (.int .i64) (.slice 107 (.prod (.int .i64) (.prod (.int .i64) (.prod (.int .i64) (.int .i64)))))))) r_.2.2.2.1, .fro 3 (.int .i64) r_.2.2.2.2.1, .bool r_.2.2.2.2.2.1, .bool r_.2.2.2.2.2.2.1, .fro 76 (.prod (.int .i64) (.prod (.int .i64) (.prod (.int .i64) .bool))) r_.2.2.2.2.2.2.2.1, .int .i64 r_.2.2.2.2.2.2.2.2.1, .int .i64 r_.2.2.2.2.2.2.2.2.2.1, .int .i64 r_.2.2.2.2.2.2.2.2.2.2], .var 29 [.fro 3 (.int .i64) p_.1, .fro 3 (.int .i64) p_.2.1.1, .fro 3 (.int .i64) p_.2.1.2, .int .i64 p_.2.2.1, .int .i64 p_.2.2.2], .var 155 [.int .i64 d_, .int .i64 d_2]]⟩
theorem ends_row.step0 (N : Nat) (rec : List Item → St → Option Bool) (r_ : TRules) (p_ : TPos) (player : Int) (count : Int) (t18_ : Int) : seg tb (ends_row.G N) ends_row.A 0 rec (ends_row.fin N) segFuel (loopBody ends_row.k0) (ends_row.st0 r_ p_ player count t18_) = ends_row.s0 N r_ p_ player count (fun t18_ => rec ends_row.k0 (ends_row.st0 r_ p_ player count t18_)) (fun s_ t18_ t26_ => rec ends_row.k1 (ends_row.st1 r_ p_ player count s_ t18_ t26_)) (fun s_ x_ y_ n_ t18_ t26_ d_ d_2 => rec ends_row.k2 (ends_row.st2 r_ p_ player count s_ x_ y_ n_ t18_ t26_ d_ d_2)) t18_ := by kernel_rfl
theorem ends_row.step1 (N : Nat) (rec : List Item → St → Option Bool) (r_ : TRules) (p_ : TPos) (player : Int) (count : Int) (s_ : Int) (t18_ : Int) (t26_ : Int) : seg tb (ends_row.G N) ends_row.A 0 rec (ends_row.fin N) segFuel (loopBody ends_row.k1) (ends_row.st1 r_ p_ player count s_ t18_ t26_) = ends_row.s1 N r_ p_ player count (fun t18_ => rec ends_row.k0 (ends_row.st0 r_ p_ player count t18_)) (fun s_ t18_ t26_ => rec ends_row.k1 (ends_row.st1 r_ p_ player count s_ t18_ t26_)) (fun s_ x_ y_ n_ t18_ t26_ d_ d_2 => rec ends_row.k2 (ends_row.st2 r_ p_ player count s_ x_ y_ n_ t18_ t26_ d_ d_2)) s_ t18_ t26_ := by kernel_rfl
theorem ends_row.step2 (N : Nat) (rec : List Item → St → Option Bool) (r_ : TRules) (p_ : TPos) (player : Int) (count : Int) (s_ : Int) (x_ : Int) (y_ : Int) (n_ : Int) (t18_ : Int) (t26_ : Int) (d_ : Int) (d_2 : Int) : seg tb (ends_row.G N) ends_row.A 0 rec (ends_row.fin N) segFuel (loopBody ends_row.k2) (ends_row.st2 r_ p_ player count s_ x_ y_ n_ t18_ t26_ d_ d_2) = ends_row.s2 N r_ p_ player count (fun t18_ => rec ends_row.k0 (ends_row.st0 r_ p_ player count t18_)) (fun s_ t18_ t26_ => rec ends_row.k1 (ends_row.st1 r_ p_ player count s_ t18_ t26_)) (fun s_ x_ y_ n_ t18_ t26_ d_ d_2 => rec ends_row.k2 (ends_row.st2 r_ p_ player count s_ x_ y_ n_ t18_ t26_ d_ d_2)) s_ x_ y_ n_ t18_ t26_ d_ d_2 := by kernel_rfl
theorem ends_row.entry (N : Nat) (rec : List Item → St → Option Bool) (x : (argH ends_row.as).den) : seg tb (ends_row.G N) ends_row.A 0 rec (ends_row.fin N) segFuel [.code (bodyOf Tryz.f98)] (initSt Tryz.f98 (encArgs ends_row.as x) (encMem ends_row.as x)) = ends_row.e N (fun t18_ => rec ends_row.k0 (ends_row.st0 x.1 x.2.1 x.2.2.1 x.2.2.2.1 t18_)) (fun s_ t18_ t26_ => rec ends_row.k1 (ends_row.st1 x.1 x.2.1 x.2.2.1 x.2.2.2.1 s_ t18_ t26_)) (fun s_ x_ y_ n_ t18_ t26_ d_ d_2 => rec ends_row.k2 (ends_row.st2 x.1 x.2.1 x.2.2.1 x.2.2.2.1 s_ x_ y_ n_ t18_ t26_ d_ d_2)) x.1 x.2.1 x.2.2.1 x.2.2.2.1 := by kernel_rfl
theorem ends_row.runs (N : Nat) (r_ : TRules) (p_ : TPos) (player : Int) (count : Int) : ∀ n, (∀ (t18_ : Int), run tb (ends_row.G N) ends_row.A 0 (ends_row.fin N) n ends_row.k0 (ends_row.st0 r_ p_ player count t18_) = ends_row.l0 N r_ p_ player count n t18_) ∧ (∀ (s_ : Int) (t18_ : Int) (t26_ : Int), run tb (ends_row.G N) ends_row.A 0 (ends_row.fin N) n ends_row.k1 (ends_row.st1 r_ p_ player count s_ t18_ t26_) = ends_row.l1 N r_ p_ player count n s_ t18_ t26_) ∧ (∀ (s_ : Int) (x_ : Int) (y_ : Int) (n_ : Int) (t18_ : Int) (t26_ : Int) (d_ : Int) (d_2 : Int), run tb (ends_row.G N) ends_row.A 0 (ends_row.fin N) n ends_row.k2 (ends_row.st2 r_ p_ player count s_ x_ y_ n_ t18_ t26_ d_ d_2) = ends_row.l2 N r_ p_ player count n s_ x_ y_ n_ t18_ t26_ d_ d_2)
  | 0 => ⟨fun _ => rfl, fun _ _ _ => rfl, fun _ _ _ _ _ _ _ _ => rfl⟩
  | n + 1 => by
    obtain ⟨h0, h1, h2⟩ := ends_row.runs N r_ p_ player count n
    have e0 : (fun (t18_ : Int) => run tb (ends_row.G N) ends_row.A 0 (ends_row.fin N) n ends_row.k0 (ends_row.st0 r_ p_ player count t18_)) = ends_row.l0 N r_ p_ player count n := by funext t18_; exact h0 t18_
    have e1 : (fun (s_ : Int) (t18_ : Int) (t26_ : Int) => run tb (ends_row.G N) ends_row.A 0 (ends_row.fin N) n ends_row.k1 (ends_row.st1 r_ p_ player count s_ t18_ t26_)) = ends_row.l1 N r_ p_ player count n := by funext s_ t18_ t26_; exact h1 s_ t18_ t26_
    have e2 : (fun (s_ : Int) (x_ : Int) (y_ : Int) (n_ : Int) (t18_ : Int) (t26_ : Int) (d_ : Int) (d_2 : Int) => run tb (ends_row.G N) ends_row.A 0 (ends_row.fin N) n ends_row.k2 (ends_row.st2 r_ p_ player count s_ x_ y_ n_ t18_ t26_ d_ d_2)) = ends_row.l2 N r_ p_ player count n := by funext s_ x_ y_ n_ t18_ t26_ d_ d_2; exact h2 s_ x_ y_ n_ t18_ t26_ d_ d_2
    have g0 : (∀ (t18_ : Int), run tb (ends_row.G N) ends_row.A 0 (ends_row.fin N) (n + 1) ends_row.k0 (ends_row.st0 r_ p_ player count t18_) = ends_row.l0 N r_ p_ player count (n + 1) t18_) := by
      intro t18_
      exact (run_succ (by kernel_rfl)).trans ((ends_row.step0 N _ r_ p_ player count t18_).trans ((congr (congr (congrArg (fun r0 r1 r2 => ends_row.s0 N r_ p_ player count r0 r1 r2 t18_) e0) e1) e2).trans (ends_row.l0_s N r_ p_ player count n t18_).symm))
    have g1 : (∀ (s_ : Int) (t18_ : Int) (t26_ : Int), run tb (ends_row.G N) ends_row.A 0 (ends_row.fin N) (n + 1) ends_row.k1 (ends_row.st1 r_ p_ player count s_ t18_ t26_) = ends_row.l1 N r_ p_ player count (n + 1) s_ t18_ t26_) := by
      intro s_ t18_ t26_
      exact (run_succ (by kernel_rfl)).trans ((ends_row.step1 N _ r_ p_ player count s_ t18_ t26_).trans ((congr (congr (congrArg (fun r0 r1 r2 => ends_row.s1 N r_ p_ player count r0 r1 r2 s_ t18_ t26_) e0) e1) e2).trans (ends_row.l1_s N r_ p_ player count n s_ t18_ t26_).symm))
    have g2 : (∀ (s_ : Int) (x_ : Int) (y_ : Int) (n_ : Int) (t18_ : Int) (t26_ : Int) (d_ : Int) (d_2 : Int), run tb (ends_row.G N) ends_row.A 0 (ends_row.fin N) (n + 1) ends_row.k2 (ends_row.st2 r_ p_ player count s_ x_ y_ n_ t18_ t26_ d_ d_2) = ends_row.l2 N r_ p_ player count (n + 1) s_ x_ y_ n_ t18_ t26_ d_ d_2) := by
      intro s_ x_ y_ n_ t18_ t26_ d_ d_2
      exact (run_succ (by kernel_rfl)).trans ((ends_row.step2 N _ r_ p_ player count s_ x_ y_ n_ t18_ t26_ d_ d_2).trans ((congr (congr (congrArg (fun r0 r1 r2 => ends_row.s2 N r_ p_ player count r0 r1 r2 s_ x_ y_ n_ t18_ t26_ d_ d_2) e0) e1) e2).trans (ends_row.l2_s N r_ p_ player count n s_ x_ y_ n_ t18_ t26_ d_ d_2).symm))
    exact ⟨g0, g1, g2⟩
theorem ends_row.ok (N : Nat) : FnOk Tryz.prog 98 (ends_row.D N) := by
  refine FnOk_of tb_ok (Checked.mixed Tryz.checked) ⟨Tryz.f98, Tryz.func98, by kernel_rfl, by kernel_rfl, fun x y h => ⟨ends_row.G N, ends_row.A, N, gamOf_ok (by simp only [List.forall_mem_cons, List.not_mem_nil, false_implies, implies_true, and_true]; exact ⟨moves_Owner.ok N, moves_Owner.fit N⟩), ?_⟩⟩ (ends_row.fit N)
  rw [absFn_n (n0 := 0) rfl (by kernel_rfl)]
  refine (ends_row.entry N (run tb (ends_row.G N) ends_row.A 0 (ends_row.fin N) N) x).trans ?_
  have e0 : (fun (t18_ : Int) => run tb (ends_row.G N) ends_row.A 0 (ends_row.fin N) N ends_row.k0 (ends_row.st0 x.1 x.2.1 x.2.2.1 x.2.2.2.1 t18_)) = ends_row.l0 N x.1 x.2.1 x.2.2.1 x.2.2.2.1 N := by funext t18_; exact (ends_row.runs N x.1 x.2.1 x.2.2.1 x.2.2.2.1 N).1 t18_
  have e1 : (fun (s_ : Int) (t18_ : Int) (t26_ : Int) => run tb (ends_row.G N) ends_row.A 0 (ends_row.fin N) N ends_row.k1 (ends_row.st1 x.1 x.2.1 x.2.2.1 x.2.2.2.1 s_ t18_ t26_)) = ends_row.l1 N x.1 x.2.1 x.2.2.1 x.2.2.2.1 N := by funext s_ t18_ t26_; exact (ends_row.runs N x.1 x.2.1 x.2.2.1 x.2.2.2.1 N).2.1 s_ t18_ t26_
  have e2 : (fun (s_ : Int) (x_ : Int) (y_ : Int) (n_ : Int) (t18_ : Int) (t26_ : Int) (d_ : Int) (d_2 : Int) => run tb (ends_row.G N) ends_row.A 0 (ends_row.fin N) N ends_row.k2 (ends_row.st2 x.1 x.2.1 x.2.2.1 x.2.2.2.1 s_ x_ y_ n_ t18_ t26_ d_ d_2)) = ends_row.l2 N x.1 x.2.1 x.2.2.1 x.2.2.2.1 N := by funext s_ x_ y_ n_ t18_ t26_ d_ d_2; exact (ends_row.runs N x.1 x.2.1 x.2.2.1 x.2.2.2.1 N).2.2 s_ x_ y_ n_ t18_ t26_ d_ d_2
  have h' : (ends_row.D N).f x = ends_row.e N (ends_row.l0 N x.1 x.2.1 x.2.2.1 x.2.2.2.1 N) (ends_row.l1 N x.1 x.2.1 x.2.2.1 x.2.2.2.1 N) (ends_row.l2 N x.1 x.2.1 x.2.2.1 x.2.2.2.1 N) x.1 x.2.1 x.2.2.1 x.2.2.2.1 := by kernel_rfl
  exact (congr (congr (congrArg (fun r0 r1 r2 => ends_row.e N r0 r1 r2 x.1 x.2.1 x.2.2.1 x.2.2.2.1) e0) e1) e2).trans (h'.symm.trans h)
/-! ### f65: gamehall/moves.Cell -/
def moves_Cell.as : List MK := [.d false (.int .i64), .d false (.int .i64)]
def moves_Cell.rs : List (Bool × HT) := [(false, (.d (.int .i64)))]
def moves_Cell.lc : List AC := []
def moves_Cell.D (N : Nat) : DFn := ⟨moves_Cell.as, moves_Cell.rs, Int, fun x => moves_Cell N x.1 x.2.1, fun r o => r.1, fun b => (b, ()), fun b => ()⟩
theorem moves_Cell.fit (N : Nat) : (moves_Cell.D N).Fit := ⟨fun _ _ => rfl, fun _ _ => rfl, by kernel_rfl⟩
noncomputable def moves_Cell.G (N : Nat) : Gam := gamOf []
def moves_Cell.A : Nat → Option LoopAnn := fun _ => none
noncomputable def moves_Cell.fin (N : Nat) : St → Option Int := resK tb Tryz.f65.results.toList (decRes (moves_Cell.D N) moves_Cell.lc)
theorem moves_Cell.entry (N : Nat) (rec : List Item → St → Option Int) (x : (argH moves_Cell.as).den) : seg tb (moves_Cell.G N) moves_Cell.A 0 rec (moves_Cell.fin N) segFuel [.code (bodyOf Tryz.f65)] (initSt Tryz.f65 (encArgs moves_Cell.as x) (encMem moves_Cell.as x)) = moves_Cell.e N x.1 x.2.1 := by kernel_rfl
theorem moves_Cell.ok (N : Nat) : FnOk Tryz.prog 65 (moves_Cell.D N) := by
  refine FnOk_of tb_ok (Checked.mixed Tryz.checked) ⟨Tryz.f65, Tryz.func65, by kernel_rfl, by kernel_rfl, fun x y h => ⟨moves_Cell.G N, moves_Cell.A, N, gamOf_ok (fun p hp => nomatch hp), ?_⟩⟩ (moves_Cell.fit N)
  rw [absFn_n (n0 := 0) rfl (by kernel_rfl)]
  exact (moves_Cell.entry N _ x).trans h
/-! ### f86: gamehall/rules.Far -/
def rules_Far.as : List MK := [.d true (.prod .str (.prod (.int .i64) (.prod (.int .i64) (.prod (.slice 74 (.prod (.int .u8) (.prod (.int .i64) (.prod (.int .i64) (.slice 107 (.prod (.int .i64) (.prod (.int .i64) (.prod (.int .i64) (.int .i64))))))))) (.prod (.slice 3 (.int .i64)) (.prod .bool (.prod .bool (.prod (.slice 76 (.prod (.int .i64) (.prod (.int .i64) (.prod (.int .i64) .bool)))) (.prod (.int .i64) (.prod (.int .i64) (.int .i64))))))))))), .d false (.int .i64), .d false (.int .i64)]
def rules_Far.rs : List (Bool × HT) := [(false, (.d .bool))]
def rules_Far.lc : List AC := []
def rules_Far.D (N : Nat) : DFn := ⟨rules_Far.as, rules_Far.rs, Bool, fun x => rules_Far N x.1 x.2.1 x.2.2.1, fun r o => r.1, fun b => (b, ()), fun b => ()⟩
theorem rules_Far.fit (N : Nat) : (rules_Far.D N).Fit := ⟨fun _ _ => rfl, fun _ _ => rfl, by kernel_rfl⟩
noncomputable def rules_Far.G (N : Nat) : Gam := gamOf []
def rules_Far.A : Nat → Option LoopAnn := fun _ => none
noncomputable def rules_Far.fin (N : Nat) : St → Option Bool := resK tb Tryz.f86.results.toList (decRes (rules_Far.D N) rules_Far.lc)
theorem rules_Far.entry (N : Nat) (rec : List Item → St → Option Bool) (x : (argH rules_Far.as).den) : seg tb (rules_Far.G N) rules_Far.A 0 rec (rules_Far.fin N) segFuel [.code (bodyOf Tryz.f86)] (initSt Tryz.f86 (encArgs rules_Far.as x) (encMem rules_Far.as x)) = rules_Far.e N x.1 x.2.1 x.2.2.1 := by kernel_rfl
theorem rules_Far.ok (N : Nat) : FnOk Tryz.prog 86 (rules_Far.D N) := by
  refine FnOk_of tb_ok (Checked.mixed Tryz.checked) ⟨Tryz.f86, Tryz.func86, by kernel_rfl, by kernel_rfl, fun x y h => ⟨rules_Far.G N, rules_Far.A, N, gamOf_ok (fun p hp => nomatch hp), ?_⟩⟩ (rules_Far.fit N)
  rw [absFn_n (n0 := 0) rfl (by kernel_rfl)]
  exact (rules_Far.entry N _ x).trans h
/-! ### f84: gamehall/ends.holds -/
def ends_holds.as : List MK := [.d true (.prod .str (.prod (.int .i64) (.prod (.int .i64) (.prod (.slice 74 (.prod (.int .u8) (.prod (.int .i64) (.prod (.int .i64) (.slice 107 (.prod (.int .i64) (.prod (.int .i64) (.prod (.int .i64) (.int .i64))))))))) (.prod (.slice 3 (.int .i64)) (.prod .bool (.prod .bool (.prod (.slice 76 (.prod (.int .i64) (.prod (.int .i64) (.prod (.int .i64) .bool)))) (.prod (.int .i64) (.prod (.int .i64) (.int .i64))))))))))), .d true (.prod (.slice 3 (.int .i64)) (.prod (.prod (.slice 3 (.int .i64)) (.slice 3 (.int .i64))) (.prod (.int .i64) (.int .i64)))), .d true (.prod (.int .i64) (.prod (.int .i64) (.prod (.int .i64) .bool)))]
def ends_holds.rs : List (Bool × HT) := [(false, (.d .bool))]
def ends_holds.lc : List AC := []
def ends_holds.D (N : Nat) : DFn := ⟨ends_holds.as, ends_holds.rs, Bool, fun x => ends_holds N x.1 x.2.1 x.2.2.1, fun r o => r.1, fun b => (b, ()), fun b => ()⟩
theorem ends_holds.fit (N : Nat) : (ends_holds.D N).Fit := ⟨fun _ _ => rfl, fun _ _ => rfl, by kernel_rfl⟩
noncomputable def ends_holds.G (N : Nat) : Gam := gamOf [(98, ends_row.D N), (65, moves_Cell.D N), (86, rules_Far.D N)]
def ends_holds.A : Nat → Option LoopAnn := fun k => bif Nat.beq k 1 then some ⟨[3, 5, 7, 29, 30, 31], [], [], [], [1], 3, false⟩ else bif Nat.beq k 3 then some ⟨[4, 5, 10, 50, 51, 52], [], [], [], [0], 3, false⟩ else none
noncomputable def ends_holds.fin (N : Nat) : St → Option Bool := resK tb Tryz.f84.results.toList (decRes (ends_holds.D N) ends_holds.lc)
noncomputable def ends_holds.k0 : List Item := stackAt [.r, .r, .l, .r, .b, .r, .e, .r, .t, .l, .r, .b] (bodyOf Tryz.f84) []
def ends_holds.st0 (r_ : TRules) (p_ : TPos) (x_ : TEnd) (t31_ : Int) : St := ⟨List.replicate 3 (.one .any) ++ [.one (.ptr 0 0), .one .any, .one (.ptr 2 0), .one .any, .one (.int .i64 (w64 (1 - p_.2.2.1)))] ++ List.replicate 21 (.one .any) ++ [.one (.fro 3 (.int .i64) p_.1), .one (.int .i64 (p_.1.length : Int)), .one (.int .i64 t31_)] ++ List.replicate 38 (.one .any), [.var 26 [.str r_.1, .int .i64 r_.2.1, .int .i64 r_.2.2.1, .fro 74 (.prod (.int .u8) (.prod (.int .i64) (.prod (.int .i64) (.slice 107 (.prod (.int .i64) (.prod (.int .i64) (.prod (.int .i64) (.int .i64)))))))) r_.2.2.2.1, .fro 3 (.int .i64) r_.2.2.2.2.1, .bool r_.2.2.2.2.2.1, .bool r_.2.2.2.2.2.2.1, .fro 76 (.prod (.int .i64) (.prod (.int .i64) (.prod (.int .i64) .bool))) r_.2.2.2.2.2.2.2.1, .int .i64 r_.2.2.2.2.2.2.2.2.1, .int .i64 r_.2.2.2.2.2.2.2.2.2.1, .int .i64 r_.2.2.2.2.2.2.2.2.2.2], .gone, .var 76 [.int .i64 x_.1, .int .i64 x_.2.1, .int .i64 x_.2.2.1, .bool x_.2.2.2]]⟩
noncomputable def ends_holds.k1 : List Item := stackAt [.r, .r, .r, .r, .l, .r, .b] (bodyOf Tryz.f84) []
def ends_holds.st1 (r_ : TRules) (p_ : TPos) (x_ : TEnd) (n_ : Int) (t52_ : Int) : St := ⟨List.replicate 4 (.one .any) ++ [.one (.ptr 1 0), .one (.ptr 2 0)] ++ List.replicate 4 (.one .any) ++ [.one (.int .i64 n_)] ++ List.replicate 39 (.one .any) ++ [.one (.fro 3 (.int .i64) p_.1), .one (.int .i64 (p_.1.length : Int)), .one (.int .i64 t52_)] ++ List.replicate 17 (.one .any), [.gone, .var 29 [.fro 3 (.int .i64) p_.1, .fro 3 (.int .i64) p_.2.1.1, .fro 3 (.int .i64) p_.2.1.2, .int .i64 p_.2.2.1, .int .i64 p_.2.2.2], .var 76 [.int .i64 x_.1, .int .i64 x_.2.1, .int .i64 x_.2.2.1, .bool x_.2.2.2]]⟩
theorem ends_holds.step0 (N : Nat) (rec : List Item → St → Option Bool) (r_ : TRules) (p_ : TPos) (x_ : TEnd) (t31_ : Int) : seg tb (ends_holds.G N) ends_holds.A 0 rec (ends_holds.fin N) segFuel (loopBody ends_holds.k0) (ends_holds.st0 r_ p_ x_ t31_) = ends_holds.s0 N r_ p_ x_ (fun t31_ => rec ends_holds.k0 (ends_holds.st0 r_ p_ x_ t31_)) (fun n_ t52_ => rec ends_holds.k1 (ends_holds.st1 r_ p_ x_ n_ t52_)) t31_ := by kernel_rfl
theorem ends_holds.step1 (N : Nat) (rec : List Item → St → Option Bool) (r_ : TRules) (p_ : TPos) (x_ : TEnd) (n_ : Int) (t52_ : Int) : seg tb (ends_holds.G N) ends_holds.A 0 rec (ends_holds.fin N) segFuel (loopBody ends_holds.k1) (ends_holds.st1 r_ p_ x_ n_ t52_) = ends_holds.s1 N r_ p_ x_ (fun t31_ => rec ends_holds.k0 (ends_holds.st0 r_ p_ x_ t31_)) (fun n_ t52_ => rec ends_holds.k1 (ends_holds.st1 r_ p_ x_ n_ t52_)) n_ t52_ := by kernel_rfl
theorem ends_holds.entry (N : Nat) (rec : List Item → St → Option Bool) (x : (argH ends_holds.as).den) : seg tb (ends_holds.G N) ends_holds.A 0 rec (ends_holds.fin N) segFuel [.code (bodyOf Tryz.f84)] (initSt Tryz.f84 (encArgs ends_holds.as x) (encMem ends_holds.as x)) = ends_holds.e N (fun t31_ => rec ends_holds.k0 (ends_holds.st0 x.1 x.2.1 x.2.2.1 t31_)) (fun n_ t52_ => rec ends_holds.k1 (ends_holds.st1 x.1 x.2.1 x.2.2.1 n_ t52_)) x.1 x.2.1 x.2.2.1 := by kernel_rfl
theorem ends_holds.runs (N : Nat) (r_ : TRules) (p_ : TPos) (x_ : TEnd) : ∀ n, (∀ (t31_ : Int), run tb (ends_holds.G N) ends_holds.A 0 (ends_holds.fin N) n ends_holds.k0 (ends_holds.st0 r_ p_ x_ t31_) = ends_holds.l0 N r_ p_ x_ n t31_) ∧ (∀ (n_ : Int) (t52_ : Int), run tb (ends_holds.G N) ends_holds.A 0 (ends_holds.fin N) n ends_holds.k1 (ends_holds.st1 r_ p_ x_ n_ t52_) = ends_holds.l1 N r_ p_ x_ n n_ t52_)
  | 0 => ⟨fun _ => rfl, fun _ _ => rfl⟩
  | n + 1 => by
    obtain ⟨h0, h1⟩ := ends_holds.runs N r_ p_ x_ n
    have e0 : (fun (t31_ : Int) => run tb (ends_holds.G N) ends_holds.A 0 (ends_holds.fin N) n ends_holds.k0 (ends_holds.st0 r_ p_ x_ t31_)) = ends_holds.l0 N r_ p_ x_ n := by funext t31_; exact h0 t31_
    have e1 : (fun (n_ : Int) (t52_ : Int) => run tb (ends_holds.G N) ends_holds.A 0 (ends_holds.fin N) n ends_holds.k1 (ends_holds.st1 r_ p_ x_ n_ t52_)) = ends_holds.l1 N r_ p_ x_ n := by funext n_ t52_; exact h1 n_ t52_
    have g0 : (∀ (t31_ : Int), run tb (ends_holds.G N) ends_holds.A 0 (ends_holds.fin N) (n + 1) ends_holds.k0 (ends_holds.st0 r_ p_ x_ t31_) = ends_holds.l0 N r_ p_ x_ (n + 1) t31_) := by
      intro t31_
      exact (run_succ (by kernel_rfl)).trans ((ends_holds.step0 N _ r_ p_ x_ t31_).trans ((congr (congrArg (fun r0 r1 => ends_holds.s0 N r_ p_ x_ r0 r1 t31_) e0) e1).trans (ends_holds.l0_s N r_ p_ x_ n t31_).symm))
    have g1 : (∀ (n_ : Int) (t52_ : Int), run tb (ends_holds.G N) ends_holds.A 0 (ends_holds.fin N) (n + 1) ends_holds.k1 (ends_holds.st1 r_ p_ x_ n_ t52_) = ends_holds.l1 N r_ p_ x_ (n + 1) n_ t52_) := by
      intro n_ t52_
      exact (run_succ (by kernel_rfl)).trans ((ends_holds.step1 N _ r_ p_ x_ n_ t52_).trans ((congr (congrArg (fun r0 r1 => ends_holds.s1 N r_ p_ x_ r0 r1 n_ t52_) e0) e1).trans (ends_holds.l1_s N r_ p_ x_ n n_ t52_).symm))
    exact ⟨g0, g1⟩
theorem ends_holds.ok (N : Nat) : FnOk Tryz.prog 84 (ends_holds.D N) := by
  refine FnOk_of tb_ok (Checked.mixed Tryz.checked) ⟨Tryz.f84, Tryz.func84, by kernel_rfl, by kernel_rfl, fun x y h => ⟨ends_holds.G N, ends_holds.A, N, gamOf_ok (by simp only [List.forall_mem_cons, List.not_mem_nil, false_implies, implies_true, and_true]; exact ⟨⟨ends_row.ok N, ends_row.fit N⟩, ⟨moves_Cell.ok N, moves_Cell.fit N⟩, ⟨rules_Far.ok N, rules_Far.fit N⟩⟩), ?_⟩⟩ (ends_holds.fit N)
  rw [absFn_n (n0 := 0) rfl (by kernel_rfl)]
  refine (ends_holds.entry N (run tb (ends_holds.G N) ends_holds.A 0 (ends_holds.fin N) N) x).trans ?_
  have e0 : (fun (t31_ : Int) => run tb (ends_holds.G N) ends_holds.A 0 (ends_holds.fin N) N ends_holds.k0 (ends_holds.st0 x.1 x.2.1 x.2.2.1 t31_)) = ends_holds.l0 N x.1 x.2.1 x.2.2.1 N := by funext t31_; exact (ends_holds.runs N x.1 x.2.1 x.2.2.1 N).1 t31_
  have e1 : (fun (n_ : Int) (t52_ : Int) => run tb (ends_holds.G N) ends_holds.A 0 (ends_holds.fin N) N ends_holds.k1 (ends_holds.st1 x.1 x.2.1 x.2.2.1 n_ t52_)) = ends_holds.l1 N x.1 x.2.1 x.2.2.1 N := by funext n_ t52_; exact (ends_holds.runs N x.1 x.2.1 x.2.2.1 N).2 n_ t52_
  have h' : (ends_holds.D N).f x = ends_holds.e N (ends_holds.l0 N x.1 x.2.1 x.2.2.1 N) (ends_holds.l1 N x.1 x.2.1 x.2.2.1 N) x.1 x.2.1 x.2.2.1 := by kernel_rfl
  exact (congr (congrArg (fun r0 r1 => ends_holds.e N r0 r1 x.1 x.2.1 x.2.2.1) e0) e1).trans (h'.symm.trans h)
/-! ### f76: gamehall/ends.wins -/
def ends_wins.as : List MK := [.d false (.int .i64)]
def ends_wins.rs : List (Bool × HT) := [(false, (.d (.int .i64)))]
def ends_wins.lc : List AC := []
def ends_wins.D (N : Nat) : DFn := ⟨ends_wins.as, ends_wins.rs, Int, fun x => ends_wins N x.1, fun r o => r.1, fun b => (b, ()), fun b => ()⟩
theorem ends_wins.fit (N : Nat) : (ends_wins.D N).Fit := ⟨fun _ _ => rfl, fun _ _ => rfl, by kernel_rfl⟩
noncomputable def ends_wins.G (N : Nat) : Gam := gamOf []
def ends_wins.A : Nat → Option LoopAnn := fun _ => none
noncomputable def ends_wins.fin (N : Nat) : St → Option Int := resK tb Tryz.f76.results.toList (decRes (ends_wins.D N) ends_wins.lc)
theorem ends_wins.entry (N : Nat) (rec : List Item → St → Option Int) (x : (argH ends_wins.as).den) : seg tb (ends_wins.G N) ends_wins.A 0 rec (ends_wins.fin N) segFuel [.code (bodyOf Tryz.f76)] (initSt Tryz.f76 (encArgs ends_wins.as x) (encMem ends_wins.as x)) = ends_wins.e N x.1 := by kernel_rfl
theorem ends_wins.ok (N : Nat) : FnOk Tryz.prog 76 (ends_wins.D N) := by
  refine FnOk_of tb_ok (Checked.mixed Tryz.checked) ⟨Tryz.f76, Tryz.func76, by kernel_rfl, by kernel_rfl, fun x y h => ⟨ends_wins.G N, ends_wins.A, N, gamOf_ok (fun p hp => nomatch hp), ?_⟩⟩ (ends_wins.fit N)
  rw [absFn_n (n0 := 0) rfl (by kernel_rfl)]
  exact (ends_wins.entry N _ x).trans h
/-! ### f60: gamehall/moves.Kind -/
def moves_Kind.as : List MK := [.d false (.int .i64)]
def moves_Kind.rs : List (Bool × HT) := [(false, (.d (.int .i64)))]
def moves_Kind.lc : List AC := []
def moves_Kind.D (N : Nat) : DFn := ⟨moves_Kind.as, moves_Kind.rs, Int, fun x => moves_Kind N x.1, fun r o => r.1, fun b => (b, ()), fun b => ()⟩
theorem moves_Kind.fit (N : Nat) : (moves_Kind.D N).Fit := ⟨fun _ _ => rfl, fun _ _ => rfl, by kernel_rfl⟩
noncomputable def moves_Kind.G (N : Nat) : Gam := gamOf []
def moves_Kind.A : Nat → Option LoopAnn := fun _ => none
noncomputable def moves_Kind.fin (N : Nat) : St → Option Int := resK tb Tryz.f60.results.toList (decRes (moves_Kind.D N) moves_Kind.lc)
theorem moves_Kind.entry (N : Nat) (rec : List Item → St → Option Int) (x : (argH moves_Kind.as).den) : seg tb (moves_Kind.G N) moves_Kind.A 0 rec (moves_Kind.fin N) segFuel [.code (bodyOf Tryz.f60)] (initSt Tryz.f60 (encArgs moves_Kind.as x) (encMem moves_Kind.as x)) = moves_Kind.e N x.1 := by kernel_rfl
theorem moves_Kind.ok (N : Nat) : FnOk Tryz.prog 60 (moves_Kind.D N) := by
  refine FnOk_of tb_ok (Checked.mixed Tryz.checked) ⟨Tryz.f60, Tryz.func60, by kernel_rfl, by kernel_rfl, fun x y h => ⟨moves_Kind.G N, moves_Kind.A, N, gamOf_ok (fun p hp => nomatch hp), ?_⟩⟩ (moves_Kind.fit N)
  rw [absFn_n (n0 := 0) rfl (by kernel_rfl)]
  exact (moves_Kind.entry N _ x).trans h
/-! ### f96: math/bits.Len64 -/
def math_bits_Len64.as : List MK := [.d false (.int .u64)]
def math_bits_Len64.rs : List (Bool × HT) := [(false, (.d (.int .i64)))]
def math_bits_Len64.lc : List AC := []
def math_bits_Len64.D (N : Nat) : DFn := ⟨math_bits_Len64.as, math_bits_Len64.rs, Int, fun x => math_bits_Len64 N x.1, fun r o => r.1, fun b => (b, ()), fun b => ()⟩
theorem math_bits_Len64.fit (N : Nat) : (math_bits_Len64.D N).Fit := ⟨fun _ _ => rfl, fun _ _ => rfl, by kernel_rfl⟩
noncomputable def math_bits_Len64.G (N : Nat) : Gam := gamOf []
def math_bits_Len64.A : Nat → Option LoopAnn := fun _ => none
noncomputable def math_bits_Len64.fin (N : Nat) : St → Option Int := resK tb Tryz.f96.results.toList (decRes (math_bits_Len64.D N) math_bits_Len64.lc)
theorem math_bits_Len64.entry (N : Nat) (rec : List Item → St → Option Int) (x : (argH math_bits_Len64.as).den) : seg tb (math_bits_Len64.G N) math_bits_Len64.A 0 rec (math_bits_Len64.fin N) segFuel [.code (bodyOf Tryz.f96)] (initSt Tryz.f96 (encArgs math_bits_Len64.as x) (encMem math_bits_Len64.as x)) = math_bits_Len64.e N x.1 := by kernel_rfl
theorem math_bits_Len64.ok (N : Nat) : FnOk Tryz.prog 96 (math_bits_Len64.D N) := by
  refine FnOk_of tb_ok (Checked.mixed Tryz.checked) ⟨Tryz.f96, Tryz.func96, by kernel_rfl, by kernel_rfl, fun x y h => ⟨math_bits_Len64.G N, math_bits_Len64.A, N, gamOf_ok (fun p hp => nomatch hp), ?_⟩⟩ (math_bits_Len64.fit N)
  rw [absFn_n (n0 := 0) rfl (by kernel_rfl)]
  exact (math_bits_Len64.entry N _ x).trans h
/-! ### f80: math/bits.Len -/
def math_bits_Len.as : List MK := [.d false (.int .u64)]
def math_bits_Len.rs : List (Bool × HT) := [(false, (.d (.int .i64)))]
def math_bits_Len.lc : List AC := []
def math_bits_Len.D (N : Nat) : DFn := ⟨math_bits_Len.as, math_bits_Len.rs, Int, fun x => math_bits_Len N x.1, fun r o => r.1, fun b => (b, ()), fun b => ()⟩
theorem math_bits_Len.fit (N : Nat) : (math_bits_Len.D N).Fit := ⟨fun _ _ => rfl, fun _ _ => rfl, by kernel_rfl⟩
noncomputable def math_bits_Len.G (N : Nat) : Gam := gamOf [(96, math_bits_Len64.D N)]
def math_bits_Len.A : Nat → Option LoopAnn := fun _ => none
noncomputable def math_bits_Len.fin (N : Nat) : St → Option Int := resK tb Tryz.f80.results.toList (decRes (math_bits_Len.D N) math_bits_Len.lc)
theorem math_bits_Len.entry (N : Nat) (rec : List Item → St → Option Int) (x : (argH math_bits_Len.as).den) : seg tb (math_bits_Len.G N) math_bits_Len.A 0 rec (math_bits_Len.fin N) segFuel [.code (bodyOf Tryz.f80)] (initSt Tryz.f80 (encArgs math_bits_Len.as x) (encMem math_bits_Len.as x)) = math_bits_Len.e N x.1 := by kernel_rfl
theorem math_bits_Len.ok (N : Nat) : FnOk Tryz.prog 80 (math_bits_Len.D N) := by
  refine FnOk_of tb_ok (Checked.mixed Tryz.checked) ⟨Tryz.f80, Tryz.func80, by kernel_rfl, by kernel_rfl, fun x y h => ⟨math_bits_Len.G N, math_bits_Len.A, N, gamOf_ok (by simp only [List.forall_mem_cons, List.not_mem_nil, false_implies, implies_true, and_true]; exact ⟨math_bits_Len64.ok N, math_bits_Len64.fit N⟩), ?_⟩⟩ (math_bits_Len.fit N)
  rw [absFn_n (n0 := 0) rfl (by kernel_rfl)]
  exact (math_bits_Len.entry N _ x).trans h
/-! ### f97: cmp.isNaN[int] -/
def cmp_isNaN_int.as : List MK := [.d false (.int .i64)]
def cmp_isNaN_int.rs : List (Bool × HT) := [(false, (.d .bool))]
def cmp_isNaN_int.lc : List AC := []
def cmp_isNaN_int.D (N : Nat) : DFn := ⟨cmp_isNaN_int.as, cmp_isNaN_int.rs, Bool, fun x => cmp_isNaN_int N x.1, fun r o => r.1, fun b => (b, ()), fun b => ()⟩
theorem cmp_isNaN_int.fit (N : Nat) : (cmp_isNaN_int.D N).Fit := ⟨fun _ _ => rfl, fun _ _ => rfl, by kernel_rfl⟩
noncomputable def cmp_isNaN_int.G (N : Nat) : Gam := gamOf []
def cmp_isNaN_int.A : Nat → Option LoopAnn := fun _ => none
noncomputable def cmp_isNaN_int.fin (N : Nat) : St → Option Bool := resK tb Tryz.f97.results.toList (decRes (cmp_isNaN_int.D N) cmp_isNaN_int.lc)
theorem cmp_isNaN_int.entry (N : Nat) (rec : List Item → St → Option Bool) (x : (argH cmp_isNaN_int.as).den) : seg tb (cmp_isNaN_int.G N) cmp_isNaN_int.A 0 rec (cmp_isNaN_int.fin N) segFuel [.code (bodyOf Tryz.f97)] (initSt Tryz.f97 (encArgs cmp_isNaN_int.as x) (encMem cmp_isNaN_int.as x)) = cmp_isNaN_int.e N x.1 := by kernel_rfl
theorem cmp_isNaN_int.ok (N : Nat) : FnOk Tryz.prog 97 (cmp_isNaN_int.D N) := by
  refine FnOk_of tb_ok (Checked.mixed Tryz.checked) ⟨Tryz.f97, Tryz.func97, by kernel_rfl, by kernel_rfl, fun x y h => ⟨cmp_isNaN_int.G N, cmp_isNaN_int.A, N, gamOf_ok (fun p hp => nomatch hp), ?_⟩⟩ (cmp_isNaN_int.fit N)
  rw [absFn_n (n0 := 0) rfl (by kernel_rfl)]
  exact (cmp_isNaN_int.entry N _ x).trans h
/-! ### f82: cmp.Compare[int] -/
def cmp_Compare_int.as : List MK := [.d false (.int .i64), .d false (.int .i64)]
def cmp_Compare_int.rs : List (Bool × HT) := [(false, (.d (.int .i64)))]
def cmp_Compare_int.lc : List AC := []
def cmp_Compare_int.D (N : Nat) : DFn := ⟨cmp_Compare_int.as, cmp_Compare_int.rs, Int, fun x => cmp_Compare_int N x.1 x.2.1, fun r o => r.1, fun b => (b, ()), fun b => ()⟩
theorem cmp_Compare_int.fit (N : Nat) : (cmp_Compare_int.D N).Fit := ⟨fun _ _ => rfl, fun _ _ => rfl, by kernel_rfl⟩
noncomputable def cmp_Compare_int.G (N : Nat) : Gam := gamOf [(97, cmp_isNaN_int.D N)]
def cmp_Compare_int.A : Nat → Option LoopAnn := fun _ => none
noncomputable def cmp_Compare_int.fin (N : Nat) : St → Option Int := resK tb Tryz.f82.results.toList (decRes (cmp_Compare_int.D N) cmp_Compare_int.lc)
theorem cmp_Compare_int.entry (N : Nat) (rec : List Item → St → Option Int) (x : (argH cmp_Compare_int.as).den) : seg tb (cmp_Compare_int.G N) cmp_Compare_int.A 0 rec (cmp_Compare_int.fin N) segFuel [.code (bodyOf Tryz.f82)] (initSt Tryz.f82 (encArgs cmp_Compare_int.as x) (encMem cmp_Compare_int.as x)) = cmp_Compare_int.e N x.1 x.2.1 := by kernel_rfl
theorem cmp_Compare_int.ok (N : Nat) : FnOk Tryz.prog 82 (cmp_Compare_int.D N) := by
  refine FnOk_of tb_ok (Checked.mixed Tryz.checked) ⟨Tryz.f82, Tryz.func82, by kernel_rfl, by kernel_rfl, fun x y h => ⟨cmp_Compare_int.G N, cmp_Compare_int.A, N, gamOf_ok (by simp only [List.forall_mem_cons, List.not_mem_nil, false_implies, implies_true, and_true]; exact ⟨cmp_isNaN_int.ok N, cmp_isNaN_int.fit N⟩), ?_⟩⟩ (cmp_Compare_int.fit N)
  rw [absFn_n (n0 := 0) rfl (by kernel_rfl)]
  exact (cmp_Compare_int.entry N _ x).trans h
/-! ### f81: cmp.Or[int] -/
def cmp_Or_int.as : List MK := [.d false (.slice 3 (.int .i64))]
def cmp_Or_int.rs : List (Bool × HT) := [(false, (.d (.int .i64)))]
def cmp_Or_int.lc : List AC := []
def cmp_Or_int.D (N : Nat) : DFn := ⟨cmp_Or_int.as, cmp_Or_int.rs, Int, fun x => cmp_Or_int N x.1, fun r o => r.1, fun b => (b, ()), fun b => ()⟩
theorem cmp_Or_int.fit (N : Nat) : (cmp_Or_int.D N).Fit := ⟨fun _ _ => rfl, fun _ _ => rfl, by kernel_rfl⟩
noncomputable def cmp_Or_int.G (N : Nat) : Gam := gamOf []
def cmp_Or_int.A : Nat → Option LoopAnn := fun k => bif Nat.beq k 0 then some ⟨[3, 6, 7, 8], [], [], [], [], 0, false⟩ else none
noncomputable def cmp_Or_int.fin (N : Nat) : St → Option Int := resK tb Tryz.f81.results.toList (decRes (cmp_Or_int.D N) cmp_Or_int.lc)
noncomputable def cmp_Or_int.k0 : List Item := stackAt [.r, .r, .l, .r, .b] (bodyOf Tryz.f81) []
def cmp_Or_int.st0 (vals : LInt) (t8_ : Int) : St := ⟨List.replicate 3 (.one .any) ++ [.one (.int .i64 0), .one .any, .one .any, .one (.fro 3 (.int .i64) vals), .one (.int .i64 (vals.length : Int)), .one (.int .i64 t8_)] ++ List.replicate 9 (.one .any), []⟩
theorem cmp_Or_int.step0 (N : Nat) (rec : List Item → St → Option Int) (vals : LInt) (t8_ : Int) : seg tb (cmp_Or_int.G N) cmp_Or_int.A 0 rec (cmp_Or_int.fin N) segFuel (loopBody cmp_Or_int.k0) (cmp_Or_int.st0 vals t8_) = cmp_Or_int.s0 N vals (fun t8_ => rec cmp_Or_int.k0 (cmp_Or_int.st0 vals t8_)) t8_ := by kernel_rfl
theorem cmp_Or_int.entry (N : Nat) (rec : List Item → St → Option Int) (x : (argH cmp_Or_int.as).den) : seg tb (cmp_Or_int.G N) cmp_Or_int.A 0 rec (cmp_Or_int.fin N) segFuel [.code (bodyOf Tryz.f81)] (initSt Tryz.f81 (encArgs cmp_Or_int.as x) (encMem cmp_Or_int.as x)) = cmp_Or_int.e N (fun t8_ => rec cmp_Or_int.k0 (cmp_Or_int.st0 x.1 t8_)) x.1 := by kernel_rfl
theorem cmp_Or_int.runs (N : Nat) (vals : LInt) : ∀ n, (∀ (t8_ : Int), run tb (cmp_Or_int.G N) cmp_Or_int.A 0 (cmp_Or_int.fin N) n cmp_Or_int.k0 (cmp_Or_int.st0 vals t8_) = cmp_Or_int.l0 N vals n t8_)
  | 0 => fun _ => rfl
  | n + 1 => by
    have h0 := cmp_Or_int.runs N vals n
    have e0 : (fun (t8_ : Int) => run tb (cmp_Or_int.G N) cmp_Or_int.A 0 (cmp_Or_int.fin N) n cmp_Or_int.k0 (cmp_Or_int.st0 vals t8_)) = cmp_Or_int.l0 N vals n := by funext t8_; exact h0 t8_
    have g0 : (∀ (t8_ : Int), run tb (cmp_Or_int.G N) cmp_Or_int.A 0 (cmp_Or_int.fin N) (n + 1) cmp_Or_int.k0 (cmp_Or_int.st0 vals t8_) = cmp_Or_int.l0 N vals (n + 1) t8_) := by
      intro t8_
      exact (run_succ (by kernel_rfl)).trans ((cmp_Or_int.step0 N _ vals t8_).trans ((congrArg (fun r0 => cmp_Or_int.s0 N vals r0 t8_) e0).trans (cmp_Or_int.l0_s N vals n t8_).symm))
    exact g0
theorem cmp_Or_int.ok (N : Nat) : FnOk Tryz.prog 81 (cmp_Or_int.D N) := by
  refine FnOk_of tb_ok (Checked.mixed Tryz.checked) ⟨Tryz.f81, Tryz.func81, by kernel_rfl, by kernel_rfl, fun x y h => ⟨cmp_Or_int.G N, cmp_Or_int.A, N, gamOf_ok (fun p hp => nomatch hp), ?_⟩⟩ (cmp_Or_int.fit N)
  rw [absFn_n (n0 := 0) rfl (by kernel_rfl)]
  refine (cmp_Or_int.entry N (run tb (cmp_Or_int.G N) cmp_Or_int.A 0 (cmp_Or_int.fin N) N) x).trans ?_
  have e0 : (fun (t8_ : Int) => run tb (cmp_Or_int.G N) cmp_Or_int.A 0 (cmp_Or_int.fin N) N cmp_Or_int.k0 (cmp_Or_int.st0 x.1 t8_)) = cmp_Or_int.l0 N x.1 N := by funext t8_; exact (cmp_Or_int.runs N x.1 N) t8_
  have h' : (cmp_Or_int.D N).f x = cmp_Or_int.e N (cmp_Or_int.l0 N x.1 N) x.1 := by kernel_rfl
  exact (congrArg (fun r0 => cmp_Or_int.e N r0 x.1) e0).trans (h'.symm.trans h)
/-! ### f63: gamehall/moves.compare -/
def moves_compare.as : List MK := [.d true (.prod (.int .i64) (.prod (.int .i64) (.int .i64))), .d true (.prod (.int .i64) (.prod (.int .i64) (.int .i64)))]
def moves_compare.rs : List (Bool × HT) := [(false, (.d (.int .i64)))]
def moves_compare.lc : List AC := []
def moves_compare.D (N : Nat) : DFn := ⟨moves_compare.as, moves_compare.rs, Int, fun x => moves_compare N x.1 x.2.1, fun r o => r.1, fun b => (b, ()), fun b => ()⟩
theorem moves_compare.fit (N : Nat) : (moves_compare.D N).Fit := ⟨fun _ _ => rfl, fun _ _ => rfl, by kernel_rfl⟩
noncomputable def moves_compare.G (N : Nat) : Gam := gamOf [(82, cmp_Compare_int.D N), (81, cmp_Or_int.D N)]
def moves_compare.A : Nat → Option LoopAnn := fun _ => none
noncomputable def moves_compare.fin (N : Nat) : St → Option Int := resK tb Tryz.f63.results.toList (decRes (moves_compare.D N) moves_compare.lc)
theorem moves_compare.entry (N : Nat) (rec : List Item → St → Option Int) (x : (argH moves_compare.as).den) : seg tb (moves_compare.G N) moves_compare.A 0 rec (moves_compare.fin N) segFuel [.code (bodyOf Tryz.f63)] (initSt Tryz.f63 (encArgs moves_compare.as x) (encMem moves_compare.as x)) = moves_compare.e N x.1 x.2.1 := by kernel_rfl
theorem moves_compare.ok (N : Nat) : FnOk Tryz.prog 63 (moves_compare.D N) := by
  refine FnOk_of tb_ok (Checked.mixed Tryz.checked) ⟨Tryz.f63, Tryz.func63, by kernel_rfl, by kernel_rfl, fun x y h => ⟨moves_compare.G N, moves_compare.A, N, gamOf_ok (by simp only [List.forall_mem_cons, List.not_mem_nil, false_implies, implies_true, and_true]; exact ⟨⟨cmp_Compare_int.ok N, cmp_Compare_int.fit N⟩, ⟨cmp_Or_int.ok N, cmp_Or_int.fit N⟩⟩), ?_⟩⟩ (moves_compare.fit N)
  rw [absFn_n (n0 := 0) rfl (by kernel_rfl)]
  exact (moves_compare.entry N _ x).trans h
end
end Go.Proofs.YtnckilklmkpooaaGreat.Am
