/- PRINTED by gen.py: the abstract machine evaluates the loaded code to these functions. -/
import Derived.Test.YtpielijehhhobaaFnd1
import Derived.Test.YtpielijehhhobaaChecked
import Derived.Eval
set_option linter.unusedVariables false
set_option linter.unusedSimpArgs false
namespace Go.Proofs.Ytpielijehhhobaa.Am
open Go
set_option maxRecDepth 100000
def ti3 : TI := ⟨.int .i64, 1, 8, some (.int .i64), [.int .i64 0], false, none, none⟩
def ti4 : TI := ⟨.bool, 1, 1, some .bool, [.bool false], false, none, none⟩
def ti5 : TI := ⟨.int .u8, 1, 1, some (.int .u8), [.int .u8 0], false, none, none⟩
def ti9 : TI := ⟨.str, 1, 16, some .str, [.str (⟨#[]⟩ : ByteArray)], false, none, none⟩
def ti22 : TI := ⟨.slice 107, 1, 24, some (.slice 107 (.prod (.int .u8) (.prod (.int .i64) (.prod (.int .i64) (.slice 127 (.prod (.int .i64) (.prod (.int .i64) (.prod (.int .i64) (.int .i64))))))))), [.nilS], false, none, none⟩
def ti23 : TI := ⟨.slice 3, 1, 24, some (.slice 3 (.int .i64)), [.nilS], false, none, none⟩
def ti24 : TI := ⟨.slice 109, 1, 24, some (.slice 109 (.prod (.int .i64) (.prod (.int .i64) (.prod (.int .i64) .bool)))), [.nilS], false, none, none⟩
def ti26 : TI := ⟨.struct [(0, 9), (1, 3), (2, 3), (3, 22), (4, 23), (5, 4), (6, 4), (7, 24), (8, 3), (9, 3), (10, 3)], 11, 136, some (.prod .str (.prod (.int .i64) (.prod (.int .i64) (.prod (.slice 107 (.prod (.int .u8) (.prod (.int .i64) (.prod (.int .i64) (.slice 127 (.prod (.int .i64) (.prod (.int .i64) (.prod (.int .i64) (.int .i64))))))))) (.prod (.slice 3 (.int .i64)) (.prod .bool (.prod .bool (.prod (.slice 109 (.prod (.int .i64) (.prod (.int .i64) (.prod (.int .i64) .bool)))) (.prod (.int .i64) (.prod (.int .i64) (.int .i64))))))))))), [.str (⟨#[]⟩ : ByteArray), .int .i64 0, .int .i64 0, .nilS, .nilS, .bool false, .bool false, .nilS, .int .i64 0, .int .i64 0, .int .i64 0], false, none, none⟩
def ti27 : TI := ⟨.array 2 23, 2, 48, some (.prod (.slice 3 (.int .i64)) (.slice 3 (.int .i64))), [.nilS, .nilS], false, none, none⟩
def ti29 : TI := ⟨.struct [(0, 23), (1, 27), (3, 3), (4, 3)], 5, 88, some (.prod (.slice 3 (.int .i64)) (.prod (.prod (.slice 3 (.int .i64)) (.slice 3 (.int .i64))) (.prod (.int .i64) (.int .i64)))), [.nilS, .nilS, .nilS, .int .i64 0, .int .i64 0], false, none, none⟩
def ti33 : TI := ⟨.int .i64, 1, 8, some (.int .i64), [.int .i64 0], false, none, none⟩
def ti37 : TI := ⟨.slice 43, 1, 24, some (.slice 43 (.prod (.prod (.int .i64) (.prod (.int .i64) (.int .i64))) (.prod (.int .i64) (.int .i64)))), [.nilS], false, none, none⟩
def ti41 : TI := ⟨.struct [(0, 3), (1, 3), (2, 3)], 3, 24, some (.prod (.int .i64) (.prod (.int .i64) (.int .i64))), [.int .i64 0, .int .i64 0, .int .i64 0], true, none, none⟩
def ti43 : TI := ⟨.struct [(0, 41), (3, 3), (4, 3)], 5, 40, some (.prod (.prod (.int .i64) (.prod (.int .i64) (.int .i64))) (.prod (.int .i64) (.int .i64))), [.int .i64 0, .int .i64 0, .int .i64 0, .int .i64 0, .int .i64 0], true, none, none⟩
def ti45 : TI := ⟨.ptr 90, 1, 8, none, [.nilP], false, none, none⟩
def ti50 : TI := ⟨.int .u64, 1, 8, some (.int .u64), [.int .u64 0], false, none, none⟩
def ti53 : TI := ⟨.slice 41, 1, 24, some (.slice 41 (.prod (.int .i64) (.prod (.int .i64) (.int .i64)))), [.nilS], false, none, none⟩
def ti66 : TI := ⟨.ptr 115, 1, 8, none, [.nilP], false, none, none⟩
def ti80 : TI := ⟨.ptr 82, 1, 8, none, [.nilP], false, none, none⟩
def ti82 : TI := ⟨.struct [(0, 66), (1, 45)], 2, 16, none, [.nilP, .nilP], false, none, none⟩
def ti83 : TI := ⟨.ptr 86, 1, 8, some .nod, [.nilP], false, none, none⟩
def ti84 : TI := ⟨.slice 83, 1, 24, none, [.nilS], false, none, none⟩
def ti86 : TI := ⟨.struct [(0, 53), (1, 84), (2, 3), (3, 3)], 4, 64, none, [.nilS, .nilS, .int .i64 0, .int .i64 0], false, none, none⟩
def ti90 : TI := ⟨.struct [(0, 3)], 1, 8, some (.int .i64), [.int .i64 0], false, none, none⟩
def ti91 : TI := ⟨.int .u64, 1, 8, some (.int .u64), [.int .u64 0], false, none, none⟩
def ti101 : TI := ⟨.slice 33, 1, 24, some (.slice 33 (.int .i64)), [.nilS], false, none, none⟩
def ti103 : TI := ⟨.other, 1, 8, none, [.nilF], false, none, none⟩
def ti105 : TI := ⟨.slice 127, 1, 24, some (.slice 127 (.prod (.int .i64) (.prod (.int .i64) (.prod (.int .i64) (.int .i64))))), [.nilS], false, none, none⟩
def ti107 : TI := ⟨.struct [(0, 5), (1, 3), (2, 3), (3, 105)], 4, 48, some (.prod (.int .u8) (.prod (.int .i64) (.prod (.int .i64) (.slice 127 (.prod (.int .i64) (.prod (.int .i64) (.prod (.int .i64) (.int .i64)))))))), [.int .u8 0, .int .i64 0, .int .i64 0, .nilS], false, none, none⟩
def ti109 : TI := ⟨.struct [(0, 3), (1, 3), (2, 3), (3, 4)], 4, 32, some (.prod (.int .i64) (.prod (.int .i64) (.prod (.int .i64) .bool))), [.int .i64 0, .int .i64 0, .int .i64 0, .bool false], false, none, none⟩
def ti113 : TI := ⟨.slice 144, 1, 24, some (.slice 144 (.prod (.prod (.int .i64) (.prod (.int .i64) (.int .i64))) (.prod (.int .i64) (.prod (.int .i64) (.prod .bool (.prod (.int .i64) (.int .u64))))))), [.nilS], false, none, none⟩
def ti115 : TI := ⟨.struct [(0, 26), (11, 29), (16, 50), (17, 113)], 18, 256, some (.prod (.prod .str (.prod (.int .i64) (.prod (.int .i64) (.prod (.slice 107 (.prod (.int .u8) (.prod (.int .i64) (.prod (.int .i64) (.slice 127 (.prod (.int .i64) (.prod (.int .i64) (.prod (.int .i64) (.int .i64))))))))) (.prod (.slice 3 (.int .i64)) (.prod .bool (.prod .bool (.prod (.slice 109 (.prod (.int .i64) (.prod (.int .i64) (.prod (.int .i64) .bool)))) (.prod (.int .i64) (.prod (.int .i64) (.int .i64))))))))))) (.prod (.prod (.slice 3 (.int .i64)) (.prod (.prod (.slice 3 (.int .i64)) (.slice 3 (.int .i64))) (.prod (.int .i64) (.int .i64)))) (.prod (.int .u64) (.slice 144 (.prod (.prod (.int .i64) (.prod (.int .i64) (.int .i64))) (.prod (.int .i64) (.prod (.int .i64) (.prod .bool (.prod (.int .i64) (.int .u64)))))))))), [.str (⟨#[]⟩ : ByteArray), .int .i64 0, .int .i64 0, .nilS, .nilS, .bool false, .bool false, .nilS, .int .i64 0, .int .i64 0, .int .i64 0, .nilS, .nilS, .nilS, .int .i64 0, .int .i64 0, .int .u64 0, .nilS], false, none, none⟩
def ti127 : TI := ⟨.struct [(0, 3), (1, 3), (2, 3), (3, 3)], 4, 32, some (.prod (.int .i64) (.prod (.int .i64) (.prod (.int .i64) (.int .i64)))), [.int .i64 0, .int .i64 0, .int .i64 0, .int .i64 0], false, none, none⟩
def ti130 : TI := ⟨.other, 1, 8, none, [.nilF], false, none, none⟩
def ti144 : TI := ⟨.struct [(0, 41), (3, 3), (4, 3), (5, 4), (6, 3), (7, 50)], 8, 64, some (.prod (.prod (.int .i64) (.prod (.int .i64) (.int .i64))) (.prod (.int .i64) (.prod (.int .i64) (.prod .bool (.prod (.int .i64) (.int .u64)))))), [.int .i64 0, .int .i64 0, .int .i64 0, .int .i64 0, .int .i64 0, .bool false, .int .i64 0, .int .u64 0], false, none, none⟩
def ti158 : TI := ⟨.int .i64, 1, 8, some (.int .i64), [.int .i64 0], false, none, none⟩
def ti169 : TI := ⟨.array 2 3, 2, 16, some (.prod (.int .i64) (.int .i64)), [.int .i64 0, .int .i64 0], false, none, none⟩
def ti170 : TI := ⟨.array 4 169, 8, 64, some (.prod (.prod (.int .i64) (.int .i64)) (.prod (.prod (.int .i64) (.int .i64)) (.prod (.prod (.int .i64) (.int .i64)) (.prod (.int .i64) (.int .i64))))), [.int .i64 0, .int .i64 0, .int .i64 0, .int .i64 0, .int .i64 0, .int .i64 0, .int .i64 0, .int .i64 0], false, none, none⟩
def ti171 : TI := ⟨.int .u64, 1, 8, some (.int .u64), [.int .u64 0], false, none, none⟩
def ti175 : TI := ⟨.ptr 3, 1, 8, none, [.nilP], false, none, none⟩
def ti177 : TI := ⟨.ptr 171, 1, 8, none, [.nilP], false, none, none⟩
def tbt : TT := (.node 83 ti83 (.node 33 ti33 (.node 23 ti23 (.node 5 ti5 (.node 4 ti4 (.node 3 ti3 .nil .nil) .nil) (.node 22 ti22 (.node 9 ti9 .nil .nil) .nil)) (.node 27 ti27 (.node 26 ti26 (.node 24 ti24 .nil .nil) .nil) (.node 29 ti29 .nil .nil))) (.node 50 ti50 (.node 43 ti43 (.node 41 ti41 (.node 37 ti37 .nil .nil) .nil) (.node 45 ti45 .nil .nil)) (.node 80 ti80 (.node 66 ti66 (.node 53 ti53 .nil .nil) .nil) (.node 82 ti82 .nil .nil)))) (.node 115 ti115 (.node 103 ti103 (.node 90 ti90 (.node 86 ti86 (.node 84 ti84 .nil .nil) .nil) (.node 101 ti101 (.node 91 ti91 .nil .nil) .nil)) (.node 109 ti109 (.node 107 ti107 (.node 105 ti105 .nil .nil) .nil) (.node 113 ti113 .nil .nil))) (.node 169 ti169 (.node 144 ti144 (.node 130 ti130 (.node 127 ti127 .nil .nil) .nil) (.node 158 ti158 .nil .nil)) (.node 175 ti175 (.node 171 ti171 (.node 170 ti170 .nil .nil) .nil) (.node 177 ti177 .nil .nil)))))
def tb : Tab := tbt.get
theorem ti3_ok : TIok Try.prog tb 3 ti3 := TIok_mk (by kernel_rfl) (by kernel_rfl) ⟨rfl, rfl⟩ (by kernel_rfl) rfl trivial trivial (by kernel_rfl)
theorem ti4_ok : TIok Try.prog tb 4 ti4 := TIok_mk (by kernel_rfl) (by kernel_rfl) ⟨rfl, rfl⟩ (by kernel_rfl) rfl trivial trivial (by kernel_rfl)
theorem ti5_ok : TIok Try.prog tb 5 ti5 := TIok_mk (by kernel_rfl) (by kernel_rfl) ⟨rfl, rfl⟩ (by kernel_rfl) rfl trivial trivial (by kernel_rfl)
theorem ti9_ok : TIok Try.prog tb 9 ti9 := TIok_mk (by kernel_rfl) (by kernel_rfl) ⟨rfl, rfl⟩ (by kernel_rfl) rfl trivial trivial (by kernel_rfl)
theorem ti22_ok : TIok Try.prog tb 22 ti22 := TIok_mk (by kernel_rfl) (by kernel_rfl) ⟨rfl, rfl⟩ (by kernel_rfl) rfl trivial trivial (by kernel_rfl)
theorem ti23_ok : TIok Try.prog tb 23 ti23 := TIok_mk (by kernel_rfl) (by kernel_rfl) ⟨rfl, rfl⟩ (by kernel_rfl) rfl trivial trivial (by kernel_rfl)
theorem ti24_ok : TIok Try.prog tb 24 ti24 := TIok_mk (by kernel_rfl) (by kernel_rfl) ⟨rfl, rfl⟩ (by kernel_rfl) rfl trivial trivial (by kernel_rfl)
theorem ti26_ok : TIok Try.prog tb 26 ti26 := TIok_mk (by kernel_rfl) (by kernel_rfl) ⟨rfl, rfl⟩ (by kernel_rfl) rfl trivial trivial (by kernel_rfl)
theorem ti27_ok : TIok Try.prog tb 27 ti27 := TIok_mk (by kernel_rfl) (by kernel_rfl) ⟨rfl, rfl⟩ (by kernel_rfl) rfl trivial trivial (by kernel_rfl)
theorem ti29_ok : TIok Try.prog tb 29 ti29 := TIok_mk (by kernel_rfl) (by kernel_rfl) ⟨rfl, rfl⟩ (by kernel_rfl) rfl trivial trivial (by kernel_rfl)
theorem ti33_ok : TIok Try.prog tb 33 ti33 := TIok_mk (by kernel_rfl) (by kernel_rfl) ⟨rfl, rfl⟩ (by kernel_rfl) rfl trivial trivial (by kernel_rfl)
theorem ti37_ok : TIok Try.prog tb 37 ti37 := TIok_mk (by kernel_rfl) (by kernel_rfl) ⟨rfl, rfl⟩ (by kernel_rfl) rfl trivial trivial (by kernel_rfl)
theorem ti41_ok : TIok Try.prog tb 41 ti41 := TIok_mk (by kernel_rfl) (by kernel_rfl) ⟨rfl, rfl⟩ (by kernel_rfl) rfl trivial trivial (by kernel_rfl)
theorem ti43_ok : TIok Try.prog tb 43 ti43 := TIok_mk (by kernel_rfl) (by kernel_rfl) ⟨rfl, rfl⟩ (by kernel_rfl) rfl trivial trivial (by kernel_rfl)
theorem ti45_ok : TIok Try.prog tb 45 ti45 := TIok_mk (by kernel_rfl) (by kernel_rfl) trivial (by kernel_rfl) rfl trivial trivial (by kernel_rfl)
theorem ti50_ok : TIok Try.prog tb 50 ti50 := TIok_mk (by kernel_rfl) (by kernel_rfl) ⟨rfl, rfl⟩ (by kernel_rfl) rfl trivial trivial (by kernel_rfl)
theorem ti53_ok : TIok Try.prog tb 53 ti53 := TIok_mk (by kernel_rfl) (by kernel_rfl) ⟨rfl, rfl⟩ (by kernel_rfl) rfl trivial trivial (by kernel_rfl)
theorem ti66_ok : TIok Try.prog tb 66 ti66 := TIok_mk (by kernel_rfl) (by kernel_rfl) trivial (by kernel_rfl) rfl trivial trivial (by kernel_rfl)
theorem ti80_ok : TIok Try.prog tb 80 ti80 := TIok_mk (by kernel_rfl) (by kernel_rfl) trivial (by kernel_rfl) rfl trivial trivial (by kernel_rfl)
theorem ti82_ok : TIok Try.prog tb 82 ti82 := TIok_mk (by kernel_rfl) (by kernel_rfl) trivial (by kernel_rfl) rfl trivial trivial (by kernel_rfl)
theorem ti83_ok : TIok Try.prog tb 83 ti83 := TIok_mk (by kernel_rfl) (by kernel_rfl) ⟨rfl, rfl⟩ (by kernel_rfl) rfl trivial trivial (by kernel_rfl)
theorem ti84_ok : TIok Try.prog tb 84 ti84 := TIok_mk (by kernel_rfl) (by kernel_rfl) trivial (by kernel_rfl) rfl trivial trivial (by kernel_rfl)
theorem ti86_ok : TIok Try.prog tb 86 ti86 := TIok_mk (by kernel_rfl) (by kernel_rfl) trivial (by kernel_rfl) rfl trivial trivial (by kernel_rfl)
theorem ti90_ok : TIok Try.prog tb 90 ti90 := TIok_mk (by kernel_rfl) (by kernel_rfl) ⟨rfl, rfl⟩ (by kernel_rfl) rfl trivial trivial (by kernel_rfl)
theorem ti91_ok : TIok Try.prog tb 91 ti91 := TIok_mk (by kernel_rfl) (by kernel_rfl) ⟨rfl, rfl⟩ (by kernel_rfl) rfl trivial trivial (by kernel_rfl)
theorem ti101_ok : TIok Try.prog tb 101 ti101 := TIok_mk (by kernel_rfl) (by kernel_rfl) ⟨rfl, rfl⟩ (by kernel_rfl) rfl trivial trivial (by kernel_rfl)
theorem ti103_ok : TIok Try.prog tb 103 ti103 := TIok_mk (by kernel_rfl) (by kernel_rfl) trivial (by kernel_rfl) rfl trivial trivial (by kernel_rfl)
theorem ti105_ok : TIok Try.prog tb 105 ti105 := TIok_mk (by kernel_rfl) (by kernel_rfl) ⟨rfl, rfl⟩ (by kernel_rfl) rfl trivial trivial (by kernel_rfl)
theorem ti107_ok : TIok Try.prog tb 107 ti107 := TIok_mk (by kernel_rfl) (by kernel_rfl) ⟨rfl, rfl⟩ (by kernel_rfl) rfl trivial trivial (by kernel_rfl)
theorem ti109_ok : TIok Try.prog tb 109 ti109 := TIok_mk (by kernel_rfl) (by kernel_rfl) ⟨rfl, rfl⟩ (by kernel_rfl) rfl trivial trivial (by kernel_rfl)
theorem ti113_ok : TIok Try.prog tb 113 ti113 := TIok_mk (by kernel_rfl) (by kernel_rfl) ⟨rfl, rfl⟩ (by kernel_rfl) rfl trivial trivial (by kernel_rfl)
theorem ti115_ok : TIok Try.prog tb 115 ti115 := TIok_mk (by kernel_rfl) (by kernel_rfl) ⟨rfl, rfl⟩ (by kernel_rfl) rfl trivial trivial (by kernel_rfl)
theorem ti127_ok : TIok Try.prog tb 127 ti127 := TIok_mk (by kernel_rfl) (by kernel_rfl) ⟨rfl, rfl⟩ (by kernel_rfl) rfl trivial trivial (by kernel_rfl)
theorem ti130_ok : TIok Try.prog tb 130 ti130 := TIok_mk (by kernel_rfl) (by kernel_rfl) trivial (by kernel_rfl) rfl trivial trivial (by kernel_rfl)
theorem ti144_ok : TIok Try.prog tb 144 ti144 := TIok_mk (by kernel_rfl) (by kernel_rfl) ⟨rfl, rfl⟩ (by kernel_rfl) rfl trivial trivial (by kernel_rfl)
theorem ti158_ok : TIok Try.prog tb 158 ti158 := TIok_mk (by kernel_rfl) (by kernel_rfl) ⟨rfl, rfl⟩ (by kernel_rfl) rfl trivial trivial (by kernel_rfl)
theorem ti169_ok : TIok Try.prog tb 169 ti169 := TIok_mk (by kernel_rfl) (by kernel_rfl) ⟨rfl, rfl⟩ (by kernel_rfl) rfl trivial trivial (by kernel_rfl)
theorem ti170_ok : TIok Try.prog tb 170 ti170 := TIok_mk (by kernel_rfl) (by kernel_rfl) ⟨rfl, rfl⟩ (by kernel_rfl) rfl trivial trivial (by kernel_rfl)
theorem ti171_ok : TIok Try.prog tb 171 ti171 := TIok_mk (by kernel_rfl) (by kernel_rfl) ⟨rfl, rfl⟩ (by kernel_rfl) rfl trivial trivial (by kernel_rfl)
theorem ti175_ok : TIok Try.prog tb 175 ti175 := TIok_mk (by kernel_rfl) (by kernel_rfl) trivial (by kernel_rfl) rfl trivial trivial (by kernel_rfl)
theorem ti177_ok : TIok Try.prog tb 177 ti177 := TIok_mk (by kernel_rfl) (by kernel_rfl) trivial (by kernel_rfl) rfl trivial trivial (by kernel_rfl)
theorem tb_ok : TabOk Try.prog tb := TT.ok ⟨ti83_ok, ⟨ti33_ok, ⟨ti23_ok, ⟨ti5_ok, ⟨ti4_ok, ⟨ti3_ok, trivial, trivial⟩, trivial⟩, ⟨ti22_ok, ⟨ti9_ok, trivial, trivial⟩, trivial⟩⟩, ⟨ti27_ok, ⟨ti26_ok, ⟨ti24_ok, trivial, trivial⟩, trivial⟩, ⟨ti29_ok, trivial, trivial⟩⟩⟩, ⟨ti50_ok, ⟨ti43_ok, ⟨ti41_ok, ⟨ti37_ok, trivial, trivial⟩, trivial⟩, ⟨ti45_ok, trivial, trivial⟩⟩, ⟨ti80_ok, ⟨ti66_ok, ⟨ti53_ok, trivial, trivial⟩, trivial⟩, ⟨ti82_ok, trivial, trivial⟩⟩⟩⟩, ⟨ti115_ok, ⟨ti103_ok, ⟨ti90_ok, ⟨ti86_ok, ⟨ti84_ok, trivial, trivial⟩, trivial⟩, ⟨ti101_ok, ⟨ti91_ok, trivial, trivial⟩, trivial⟩⟩, ⟨ti109_ok, ⟨ti107_ok, ⟨ti105_ok, trivial, trivial⟩, trivial⟩, ⟨ti113_ok, trivial, trivial⟩⟩⟩, ⟨ti169_ok, ⟨ti144_ok, ⟨ti130_ok, ⟨ti127_ok, trivial, trivial⟩, trivial⟩, ⟨ti158_ok, trivial, trivial⟩⟩, ⟨ti175_ok, ⟨ti171_ok, ⟨ti170_ok, trivial, trivial⟩, trivial⟩, ⟨ti177_ok, trivial, trivial⟩⟩⟩⟩⟩
/-! ### f24: gamehall/gamehallkeep1.three -/
def gamehallkeep1_three.as : List MK := []
def gamehallkeep1_three.rs : List (Bool × HT) := [(true, (.prod (.d .str) (.prod (.d (.int .i64)) (.prod (.d (.int .i64)) (.prod (.own 107 (.prod (.int .u8) (.prod (.int .i64) (.prod (.int .i64) (.slice 127 (.prod (.int .i64) (.prod (.int .i64) (.prod (.int .i64) (.int .i64))))))))) (.prod (.own 3 (.int .i64)) (.prod (.d .bool) (.prod (.d .bool) (.prod (.own 109 (.prod (.int .i64) (.prod (.int .i64) (.prod (.int .i64) .bool)))) (.d (.prod (.int .i64) (.prod (.int .i64) (.int .i64)))))))))))))]
def gamehallkeep1_three.lc : List AC := []
def gamehallkeep1_three.D (N : Nat) : DFn := ⟨gamehallkeep1_three.as, gamehallkeep1_three.rs, TRules, fun x => gamehallkeep1_three N, fun r o => r.1, fun b => (b, ()), fun b => (), none⟩
theorem gamehallkeep1_three.fit (N : Nat) : (gamehallkeep1_three.D N).Fit := ⟨fun _ _ => rfl, fun _ _ => rfl, by kernel_rfl, (fun _ _ h => nomatch h), by kernel_rfl⟩
noncomputable def gamehallkeep1_three.G (N : Nat) : Gam := gamOf []
def gamehallkeep1_three.A : Nat → Option LoopAnn := fun _ => none
noncomputable def gamehallkeep1_three.fin (N : Nat) : St → Option TRules := resK tb Try.f24.results.toList (decRes (gamehallkeep1_three.D N) gamehallkeep1_three.lc)
theorem gamehallkeep1_three.entry (N : Nat) (rec : List Item → St → Option TRules) (x : (argH gamehallkeep1_three.as).den) : seg tb (gamehallkeep1_three.G N) gamehallkeep1_three.A 0 rec (gamehallkeep1_three.fin N) segFuel [.code (bodyOf Try.f24)] (initSt Try.f24 (encArgs gamehallkeep1_three.as x) (encMem gamehallkeep1_three.as x)) = gamehallkeep1_three.e N := by kernel_rfl
theorem gamehallkeep1_three.ok (N : Nat) : FnOk Try.prog 24 (gamehallkeep1_three.D N) := by
  refine FnOk_of tb_ok (Checked.mixed Try.checked) ⟨Try.f24, Try.func24, by kernel_rfl, by kernel_rfl, fun x y h => ⟨gamehallkeep1_three.G N, gamehallkeep1_three.A, N, gamOf_ok (fun p hp => nomatch hp), ?_⟩⟩ (gamehallkeep1_three.fit N)
  rw [absFn_n (n0 := 0) rfl (by kernel_rfl)]
  exact (gamehallkeep1_three.entry N _ x).trans h
/-! ### f25: gamehall/gamehallkeep1.near -/
def gamehallkeep1_near.as : List MK := []
def gamehallkeep1_near.rs : List (Bool × HT) := [(true, (.prod (.own 3 (.int .i64)) (.prod (.prod (.own 3 (.int .i64)) (.own 3 (.int .i64))) (.d (.prod (.int .i64) (.int .i64))))))]
def gamehallkeep1_near.lc : List AC := []
def gamehallkeep1_near.D (N : Nat) : DFn := ⟨gamehallkeep1_near.as, gamehallkeep1_near.rs, TPos, fun x => gamehallkeep1_near N, fun r o => r.1, fun b => (b, ()), fun b => (), none⟩
theorem gamehallkeep1_near.fit (N : Nat) : (gamehallkeep1_near.D N).Fit := ⟨fun _ _ => rfl, fun _ _ => rfl, by kernel_rfl, (fun _ _ h => nomatch h), by kernel_rfl⟩
noncomputable def gamehallkeep1_near.G (N : Nat) : Gam := gamOf []
def gamehallkeep1_near.A : Nat → Option LoopAnn := fun _ => none
noncomputable def gamehallkeep1_near.fin (N : Nat) : St → Option TPos := resK tb Try.f25.results.toList (decRes (gamehallkeep1_near.D N) gamehallkeep1_near.lc)
theorem gamehallkeep1_near.entry (N : Nat) (rec : List Item → St → Option TPos) (x : (argH gamehallkeep1_near.as).den) : seg tb (gamehallkeep1_near.G N) gamehallkeep1_near.A 0 rec (gamehallkeep1_near.fin N) segFuel [.code (bodyOf Try.f25)] (initSt Try.f25 (encArgs gamehallkeep1_near.as x) (encMem gamehallkeep1_near.as x)) = gamehallkeep1_near.e N := by kernel_rfl
theorem gamehallkeep1_near.ok (N : Nat) : FnOk Try.prog 25 (gamehallkeep1_near.D N) := by
  refine FnOk_of tb_ok (Checked.mixed Try.checked) ⟨Try.f25, Try.func25, by kernel_rfl, by kernel_rfl, fun x y h => ⟨gamehallkeep1_near.G N, gamehallkeep1_near.A, N, gamOf_ok (fun p hp => nomatch hp), ?_⟩⟩ (gamehallkeep1_near.fit N)
  rw [absFn_n (n0 := 0) rfl (by kernel_rfl)]
  exact (gamehallkeep1_near.entry N _ x).trans h
/-! ### f83: gamehall/rules.Name -/
def rules_Name.as : List MK := [.d false .str]
def rules_Name.rs : List (Bool × HT) := [(false, (.d .bool))]
def rules_Name.lc : List AC := []
def rules_Name.D (N : Nat) : DFn := ⟨rules_Name.as, rules_Name.rs, Bool, fun x => rules_Name N x.1, fun r o => r.1, fun b => (b, ()), fun b => (), none⟩
theorem rules_Name.fit (N : Nat) : (rules_Name.D N).Fit := ⟨fun _ _ => rfl, fun _ _ => rfl, by kernel_rfl, (fun _ _ h => nomatch h), by kernel_rfl⟩
noncomputable def rules_Name.G (N : Nat) : Gam := gamOf []
def rules_Name.A : Nat → Option LoopAnn := fun k => bif Nat.beq k 0 then some ⟨[0, 22, 23], [], [], [], [], 0, false⟩ else none
noncomputable def rules_Name.fin (N : Nat) : St → Option Bool := resK tb Try.f83.results.toList (decRes (rules_Name.D N) rules_Name.lc)
noncomputable def rules_Name.k0 : List Item := stackAt [.r, .r, .l, .r, .b] (bodyOf Try.f83) []
def rules_Name.st0 (s_ : ByteArray) (t23_ : Int) : St := ⟨[.one (.str s_)] ++ List.replicate 21 (.one .any) ++ [.one (.int .i64 (s_.size : Int)), .one (.int .i64 t23_)] ++ List.replicate 25 (.one .any), []⟩
theorem rules_Name.step0 (N : Nat) (rec : List Item → St → Option Bool) (s_ : ByteArray) (t23_ : Int) : seg tb (rules_Name.G N) rules_Name.A 0 rec (rules_Name.fin N) segFuel (loopBody rules_Name.k0) (rules_Name.st0 s_ t23_) = rules_Name.s0 N s_ (fun t23_ => rec rules_Name.k0 (rules_Name.st0 s_ t23_)) t23_ := by kernel_rfl
theorem rules_Name.entry (N : Nat) (rec : List Item → St → Option Bool) (x : (argH rules_Name.as).den) : seg tb (rules_Name.G N) rules_Name.A 0 rec (rules_Name.fin N) segFuel [.code (bodyOf Try.f83)] (initSt Try.f83 (encArgs rules_Name.as x) (encMem rules_Name.as x)) = rules_Name.e N (fun t23_ => rec rules_Name.k0 (rules_Name.st0 x.1 t23_)) x.1 := by kernel_rfl
theorem rules_Name.runs (N : Nat) (s_ : ByteArray) : ∀ n, (∀ (t23_ : Int), run tb (rules_Name.G N) rules_Name.A 0 (rules_Name.fin N) n rules_Name.k0 (rules_Name.st0 s_ t23_) = rules_Name.l0 N s_ n t23_)
  | 0 => fun _ => rfl
  | n + 1 => by
    have h0 := rules_Name.runs N s_ n
    have e0 : (fun (t23_ : Int) => run tb (rules_Name.G N) rules_Name.A 0 (rules_Name.fin N) n rules_Name.k0 (rules_Name.st0 s_ t23_)) = rules_Name.l0 N s_ n := by funext t23_; exact h0 t23_
    have g0 : (∀ (t23_ : Int), run tb (rules_Name.G N) rules_Name.A 0 (rules_Name.fin N) (n + 1) rules_Name.k0 (rules_Name.st0 s_ t23_) = rules_Name.l0 N s_ (n + 1) t23_) := by
      intro t23_
      exact (run_succ (by kernel_rfl)).trans ((rules_Name.step0 N _ s_ t23_).trans ((congrArg (fun r0 => rules_Name.s0 N s_ r0 t23_) e0).trans (rules_Name.l0_s N s_ n t23_).symm))
    exact g0
theorem rules_Name.ok (N : Nat) : FnOk Try.prog 83 (rules_Name.D N) := by
  refine FnOk_of tb_ok (Checked.mixed Try.checked) ⟨Try.f83, Try.func83, by kernel_rfl, by kernel_rfl, fun x y h => ⟨rules_Name.G N, rules_Name.A, N, gamOf_ok (fun p hp => nomatch hp), ?_⟩⟩ (rules_Name.fit N)
  rw [absFn_n (n0 := 0) rfl (by kernel_rfl)]
  refine (rules_Name.entry N (run tb (rules_Name.G N) rules_Name.A 0 (rules_Name.fin N) N) x).trans ?_
  have e0 : (fun (t23_ : Int) => run tb (rules_Name.G N) rules_Name.A 0 (rules_Name.fin N) N rules_Name.k0 (rules_Name.st0 x.1 t23_)) = rules_Name.l0 N x.1 N := by funext t23_; exact (rules_Name.runs N x.1 N) t23_
  have h' : (rules_Name.D N).f x = rules_Name.e N (rules_Name.l0 N x.1 N) x.1 := by kernel_rfl
  exact (congrArg (fun r0 => rules_Name.e N r0 x.1) e0).trans (h'.symm.trans h)
/-! ### f94: gamehall/rules.way -/
def rules_way.as : List MK := [.d true (.prod (.int .i64) (.prod (.int .i64) (.prod (.int .i64) (.int .i64))))]
def rules_way.rs : List (Bool × HT) := [(false, (.d (.int .i64)))]
def rules_way.lc : List AC := []
def rules_way.D (N : Nat) : DFn := ⟨rules_way.as, rules_way.rs, Int, fun x => rules_way N x.1, fun r o => r.1, fun b => (b, ()), fun b => (), none⟩
theorem rules_way.fit (N : Nat) : (rules_way.D N).Fit := ⟨fun _ _ => rfl, fun _ _ => rfl, by kernel_rfl, (fun _ _ h => nomatch h), by kernel_rfl⟩
noncomputable def rules_way.G (N : Nat) : Gam := gamOf []
def rules_way.A : Nat → Option LoopAnn := fun _ => none
noncomputable def rules_way.fin (N : Nat) : St → Option Int := resK tb Try.f94.results.toList (decRes (rules_way.D N) rules_way.lc)
theorem rules_way.entry (N : Nat) (rec : List Item → St → Option Int) (x : (argH rules_way.as).den) : seg tb (rules_way.G N) rules_way.A 0 rec (rules_way.fin N) segFuel [.code (bodyOf Try.f94)] (initSt Try.f94 (encArgs rules_way.as x) (encMem rules_way.as x)) = rules_way.e N x.1 := by kernel_rfl
theorem rules_way.ok (N : Nat) : FnOk Try.prog 94 (rules_way.D N) := by
  refine FnOk_of tb_ok (Checked.mixed Try.checked) ⟨Try.f94, Try.func94, by kernel_rfl, by kernel_rfl, fun x y h => ⟨rules_way.G N, rules_way.A, N, gamOf_ok (fun p hp => nomatch hp), ?_⟩⟩ (rules_way.fit N)
  rw [absFn_n (n0 := 0) rfl (by kernel_rfl)]
  exact (rules_way.entry N _ x).trans h
/-! ### f84: gamehall/rules.pieces -/
def rules_pieces.as : List MK := [.d false (.slice 107 (.prod (.int .u8) (.prod (.int .i64) (.prod (.int .i64) (.slice 127 (.prod (.int .i64) (.prod (.int .i64) (.prod (.int .i64) (.int .i64)))))))))]
def rules_pieces.rs : List (Bool × HT) := [(false, (.d (.int .i64)))]
def rules_pieces.lc : List AC := []
def rules_pieces.D (N : Nat) : DFn := ⟨rules_pieces.as, rules_pieces.rs, Int, fun x => rules_pieces N x.1, fun r o => r.1, fun b => (b, ()), fun b => (), none⟩
theorem rules_pieces.fit (N : Nat) : (rules_pieces.D N).Fit := ⟨fun _ _ => rfl, fun _ _ => rfl, by kernel_rfl, (fun _ _ h => nomatch h), by kernel_rfl⟩
noncomputable def rules_pieces.G (N : Nat) : Gam := gamOf [(94, rules_way.D N)]
def rules_pieces.A : Nat → Option LoopAnn := fun k => bif Nat.beq k 1 then some ⟨[0, 18, 19, 20], [], [], [], [], 0, false⟩ else bif Nat.beq k 3 then some ⟨[0, 4, 18, 19, 20, 35, 36, 37], [], [], [], [], 1, false⟩ else bif Nat.beq k 5 then some ⟨[0, 18, 19, 20, 72, 73, 74], [], [], [], [], 0, false⟩ else none
noncomputable def rules_pieces.fin (N : Nat) : St → Option Int := resK tb Try.f84.results.toList (decRes (rules_pieces.D N) rules_pieces.lc)
noncomputable def rules_pieces.k0 : List Item := stackAt [.r, .r, .l, .r, .b] (bodyOf Try.f84) []
def rules_pieces.st0 (l_ : (List TPiece)) (t20_ : Int) : St := ⟨[.one (.fro 107 (.prod (.int .u8) (.prod (.int .i64) (.prod (.int .i64) (.slice 127 (.prod (.int .i64) (.prod (.int .i64) (.prod (.int .i64) (.int .i64)))))))) l_)] ++ List.replicate 17 (.one .any) ++ [.one (.fro 107 (.prod (.int .u8) (.prod (.int .i64) (.prod (.int .i64) (.slice 127 (.prod (.int .i64) (.prod (.int .i64) (.prod (.int .i64) (.int .i64)))))))) l_), .one (.int .i64 (l_.length : Int)), .one (.int .i64 t20_)] ++ List.replicate 64 (.one .any), []⟩
noncomputable def rules_pieces.k1 : List Item := stackAt [.r, .r, .l, .r, .b, .w, .r, .r, .l, .b, .r, .r, .l, .r, .b] (bodyOf Try.f84) []
def rules_pieces.st1 (l_ : (List TPiece)) (t20_ : Int) (t35_ : (List TPiece)) (t36_ : Int) (t37_ : Int) (p_ : Int) (p_2 : Int) (p_3 : Int) (p_4 : (List TWay)) : St := ⟨[.one (.fro 107 (.prod (.int .u8) (.prod (.int .i64) (.prod (.int .i64) (.slice 127 (.prod (.int .i64) (.prod (.int .i64) (.prod (.int .i64) (.int .i64)))))))) l_)] ++ List.replicate 3 (.one .any) ++ [.one (.ptr 0 0)] ++ List.replicate 13 (.one .any) ++ [.one (.fro 107 (.prod (.int .u8) (.prod (.int .i64) (.prod (.int .i64) (.slice 127 (.prod (.int .i64) (.prod (.int .i64) (.prod (.int .i64) (.int .i64)))))))) l_), .one (.int .i64 (l_.length : Int)), .one (.int .i64 t20_)] ++ List.replicate 14 (.one .any) ++ [.one (.fro 107 (.prod (.int .u8) (.prod (.int .i64) (.prod (.int .i64) (.slice 127 (.prod (.int .i64) (.prod (.int .i64) (.prod (.int .i64) (.int .i64)))))))) t35_), .one (.int .i64 t36_), .one (.int .i64 t37_)] ++ List.replicate 47 (.one .any), [.var 107 [.int .u8 p_, .int .i64 p_2, .int .i64 p_3, .fro 127 (.prod (.int .i64) (.prod (.int .i64) (.prod (.int .i64) (.int .i64)))) p_4]]⟩
noncomputable def rules_pieces.k2 : List Item := stackAt [.r, .r, .l, .r, .b, .w, .r, .r, .l, .b, .r, .r, .r, .r, .r, .r, .b] (bodyOf Try.f84) []
def rules_pieces.st2 (l_ : (List TPiece)) (t20_ : Int) (t72_ : (List TWay)) (t73_ : Int) (t74_ : Int) : St := ⟨[.one (.fro 107 (.prod (.int .u8) (.prod (.int .i64) (.prod (.int .i64) (.slice 127 (.prod (.int .i64) (.prod (.int .i64) (.prod (.int .i64) (.int .i64)))))))) l_)] ++ List.replicate 17 (.one .any) ++ [.one (.fro 107 (.prod (.int .u8) (.prod (.int .i64) (.prod (.int .i64) (.slice 127 (.prod (.int .i64) (.prod (.int .i64) (.prod (.int .i64) (.int .i64)))))))) l_), .one (.int .i64 (l_.length : Int)), .one (.int .i64 t20_)] ++ List.replicate 51 (.one .any) ++ [.one (.fro 127 (.prod (.int .i64) (.prod (.int .i64) (.prod (.int .i64) (.int .i64)))) t72_), .one (.int .i64 t73_), .one (.int .i64 t74_)] ++ List.replicate 10 (.one .any), []⟩
theorem rules_pieces.step0 (N : Nat) (rec : List Item → St → Option Int) (l_ : (List TPiece)) (t20_ : Int) : seg tb (rules_pieces.G N) rules_pieces.A 0 rec (rules_pieces.fin N) segFuel (loopBody rules_pieces.k0) (rules_pieces.st0 l_ t20_) = rules_pieces.s0 N l_ (fun t20_ => rec rules_pieces.k0 (rules_pieces.st0 l_ t20_)) (fun t20_ t35_ t36_ t37_ p_ p_2 p_3 p_4 => rec rules_pieces.k1 (rules_pieces.st1 l_ t20_ t35_ t36_ t37_ p_ p_2 p_3 p_4)) (fun t20_ t72_ t73_ t74_ => rec rules_pieces.k2 (rules_pieces.st2 l_ t20_ t72_ t73_ t74_)) t20_ := by kernel_rfl
theorem rules_pieces.step1 (N : Nat) (rec : List Item → St → Option Int) (l_ : (List TPiece)) (t20_ : Int) (t35_ : (List TPiece)) (t36_ : Int) (t37_ : Int) (p_ : Int) (p_2 : Int) (p_3 : Int) (p_4 : (List TWay)) : seg tb (rules_pieces.G N) rules_pieces.A 0 rec (rules_pieces.fin N) segFuel (loopBody rules_pieces.k1) (rules_pieces.st1 l_ t20_ t35_ t36_ t37_ p_ p_2 p_3 p_4) = rules_pieces.s1 N l_ (fun t20_ => rec rules_pieces.k0 (rules_pieces.st0 l_ t20_)) (fun t20_ t35_ t36_ t37_ p_ p_2 p_3 p_4 => rec rules_pieces.k1 (rules_pieces.st1 l_ t20_ t35_ t36_ t37_ p_ p_2 p_3 p_4)) (fun t20_ t72_ t73_ t74_ => rec rules_pieces.k2 (rules_pieces.st2 l_ t20_ t72_ t73_ t74_)) t20_ t35_ t36_ t37_ p_ p_2 p_3 p_4 := by kernel_rfl
theorem rules_pieces.step2 (N : Nat) (rec : List Item → St → Option Int) (l_ : (List TPiece)) (t20_ : Int) (t72_ : (List TWay)) (t73_ : Int) (t74_ : Int) : seg tb (rules_pieces.G N) rules_pieces.A 0 rec (rules_pieces.fin N) segFuel (loopBody rules_pieces.k2) (rules_pieces.st2 l_ t20_ t72_ t73_ t74_) = rules_pieces.s2 N l_ (fun t20_ => rec rules_pieces.k0 (rules_pieces.st0 l_ t20_)) (fun t20_ t35_ t36_ t37_ p_ p_2 p_3 p_4 => rec rules_pieces.k1 (rules_pieces.st1 l_ t20_ t35_ t36_ t37_ p_ p_2 p_3 p_4)) (fun t20_ t72_ t73_ t74_ => rec rules_pieces.k2 (rules_pieces.st2 l_ t20_ t72_ t73_ t74_)) t20_ t72_ t73_ t74_ := by kernel_rfl
theorem rules_pieces.entry (N : Nat) (rec : List Item → St → Option Int) (x : (argH rules_pieces.as).den) : seg tb (rules_pieces.G N) rules_pieces.A 0 rec (rules_pieces.fin N) segFuel [.code (bodyOf Try.f84)] (initSt Try.f84 (encArgs rules_pieces.as x) (encMem rules_pieces.as x)) = rules_pieces.e N (fun t20_ => rec rules_pieces.k0 (rules_pieces.st0 x.1 t20_)) (fun t20_ t35_ t36_ t37_ p_ p_2 p_3 p_4 => rec rules_pieces.k1 (rules_pieces.st1 x.1 t20_ t35_ t36_ t37_ p_ p_2 p_3 p_4)) (fun t20_ t72_ t73_ t74_ => rec rules_pieces.k2 (rules_pieces.st2 x.1 t20_ t72_ t73_ t74_)) x.1 := by kernel_rfl
theorem rules_pieces.runs (N : Nat) (l_ : (List TPiece)) : ∀ n, (∀ (t20_ : Int), run tb (rules_pieces.G N) rules_pieces.A 0 (rules_pieces.fin N) n rules_pieces.k0 (rules_pieces.st0 l_ t20_) = rules_pieces.l0 N l_ n t20_) ∧ (∀ (t20_ : Int) (t35_ : (List TPiece)) (t36_ : Int) (t37_ : Int) (p_ : Int) (p_2 : Int) (p_3 : Int) (p_4 : (List TWay)), run tb (rules_pieces.G N) rules_pieces.A 0 (rules_pieces.fin N) n rules_pieces.k1 (rules_pieces.st1 l_ t20_ t35_ t36_ t37_ p_ p_2 p_3 p_4) = rules_pieces.l1 N l_ n t20_ t35_ t36_ t37_ p_ p_2 p_3 p_4) ∧ (∀ (t20_ : Int) (t72_ : (List TWay)) (t73_ : Int) (t74_ : Int), run tb (rules_pieces.G N) rules_pieces.A 0 (rules_pieces.fin N) n rules_pieces.k2 (rules_pieces.st2 l_ t20_ t72_ t73_ t74_) = rules_pieces.l2 N l_ n t20_ t72_ t73_ t74_)
  | 0 => ⟨fun _ => rfl, fun _ _ _ _ _ _ _ _ => rfl, fun _ _ _ _ => rfl⟩
  | n + 1 => by
    obtain ⟨h0, h1, h2⟩ := rules_pieces.runs N l_ n
    have e0 : (fun (t20_ : Int) => run tb (rules_pieces.G N) rules_pieces.A 0 (rules_pieces.fin N) n rules_pieces.k0 (rules_pieces.st0 l_ t20_)) = rules_pieces.l0 N l_ n := by funext t20_; exact h0 t20_
    have e1 : (fun (t20_ : Int) (t35_ : (List TPiece)) (t36_ : Int) (t37_ : Int) (p_ : Int) (p_2 : Int) (p_3 : Int) (p_4 : (List TWay)) => run tb (rules_pieces.G N) rules_pieces.A 0 (rules_pieces.fin N) n rules_pieces.k1 (rules_pieces.st1 l_ t20_ t35_ t36_ t37_ p_ p_2 p_3 p_4)) = rules_pieces.l1 N l_ n := by funext t20_ t35_ t36_ t37_ p_ p_2 p_3 p_4; exact h1 t20_ t35_ t36_ t37_ p_ p_2 p_3 p_4
    have e2 : (fun (t20_ : Int) (t72_ : (List TWay)) (t73_ : Int) (t74_ : Int) => run tb (rules_pieces.G N) rules_pieces.A 0 (rules_pieces.fin N) n rules_pieces.k2 (rules_pieces.st2 l_ t20_ t72_ t73_ t74_)) = rules_pieces.l2 N l_ n := by funext t20_ t72_ t73_ t74_; exact h2 t20_ t72_ t73_ t74_
    have g0 : (∀ (t20_ : Int), run tb (rules_pieces.G N) rules_pieces.A 0 (rules_pieces.fin N) (n + 1) rules_pieces.k0 (rules_pieces.st0 l_ t20_) = rules_pieces.l0 N l_ (n + 1) t20_) := by
      intro t20_
      exact (run_succ (by kernel_rfl)).trans ((rules_pieces.step0 N _ l_ t20_).trans ((congr (congr (congrArg (fun r0 r1 r2 => rules_pieces.s0 N l_ r0 r1 r2 t20_) e0) e1) e2).trans (rules_pieces.l0_s N l_ n t20_).symm))
    have g1 : (∀ (t20_ : Int) (t35_ : (List TPiece)) (t36_ : Int) (t37_ : Int) (p_ : Int) (p_2 : Int) (p_3 : Int) (p_4 : (List TWay)), run tb (rules_pieces.G N) rules_pieces.A 0 (rules_pieces.fin N) (n + 1) rules_pieces.k1 (rules_pieces.st1 l_ t20_ t35_ t36_ t37_ p_ p_2 p_3 p_4) = rules_pieces.l1 N l_ (n + 1) t20_ t35_ t36_ t37_ p_ p_2 p_3 p_4) := by
      intro t20_ t35_ t36_ t37_ p_ p_2 p_3 p_4
      exact (run_succ (by kernel_rfl)).trans ((rules_pieces.step1 N _ l_ t20_ t35_ t36_ t37_ p_ p_2 p_3 p_4).trans ((congr (congr (congrArg (fun r0 r1 r2 => rules_pieces.s1 N l_ r0 r1 r2 t20_ t35_ t36_ t37_ p_ p_2 p_3 p_4) e0) e1) e2).trans (rules_pieces.l1_s N l_ n t20_ t35_ t36_ t37_ p_ p_2 p_3 p_4).symm))
    have g2 : (∀ (t20_ : Int) (t72_ : (List TWay)) (t73_ : Int) (t74_ : Int), run tb (rules_pieces.G N) rules_pieces.A 0 (rules_pieces.fin N) (n + 1) rules_pieces.k2 (rules_pieces.st2 l_ t20_ t72_ t73_ t74_) = rules_pieces.l2 N l_ (n + 1) t20_ t72_ t73_ t74_) := by
      intro t20_ t72_ t73_ t74_
      exact (run_succ (by kernel_rfl)).trans ((rules_pieces.step2 N _ l_ t20_ t72_ t73_ t74_).trans ((congr (congr (congrArg (fun r0 r1 r2 => rules_pieces.s2 N l_ r0 r1 r2 t20_ t72_ t73_ t74_) e0) e1) e2).trans (rules_pieces.l2_s N l_ n t20_ t72_ t73_ t74_).symm))
    exact ⟨g0, g1, g2⟩
theorem rules_pieces.ok (N : Nat) : FnOk Try.prog 84 (rules_pieces.D N) := by
  refine FnOk_of tb_ok (Checked.mixed Try.checked) ⟨Try.f84, Try.func84, by kernel_rfl, by kernel_rfl, fun x y h => ⟨rules_pieces.G N, rules_pieces.A, N, gamOf_ok (by simp only [List.forall_mem_cons, List.not_mem_nil, false_implies, implies_true, and_true]; exact ⟨rules_way.ok N, rules_way.fit N⟩), ?_⟩⟩ (rules_pieces.fit N)
  rw [absFn_n (n0 := 0) rfl (by kernel_rfl)]
  refine (rules_pieces.entry N (run tb (rules_pieces.G N) rules_pieces.A 0 (rules_pieces.fin N) N) x).trans ?_
  have e0 : (fun (t20_ : Int) => run tb (rules_pieces.G N) rules_pieces.A 0 (rules_pieces.fin N) N rules_pieces.k0 (rules_pieces.st0 x.1 t20_)) = rules_pieces.l0 N x.1 N := by funext t20_; exact (rules_pieces.runs N x.1 N).1 t20_
  have e1 : (fun (t20_ : Int) (t35_ : (List TPiece)) (t36_ : Int) (t37_ : Int) (p_ : Int) (p_2 : Int) (p_3 : Int) (p_4 : (List TWay)) => run tb (rules_pieces.G N) rules_pieces.A 0 (rules_pieces.fin N) N rules_pieces.k1 (rules_pieces.st1 x.1 t20_ t35_ t36_ t37_ p_ p_2 p_3 p_4)) = rules_pieces.l1 N x.1 N := by funext t20_ t35_ t36_ t37_ p_ p_2 p_3 p_4; exact (rules_pieces.runs N x.1 N).2.1 t20_ t35_ t36_ t37_ p_ p_2 p_3 p_4
  have e2 : (fun (t20_ : Int) (t72_ : (List TWay)) (t73_ : Int) (t74_ : Int) => run tb (rules_pieces.G N) rules_pieces.A 0 (rules_pieces.fin N) N rules_pieces.k2 (rules_pieces.st2 x.1 t20_ t72_ t73_ t74_)) = rules_pieces.l2 N x.1 N := by funext t20_ t72_ t73_ t74_; exact (rules_pieces.runs N x.1 N).2.2 t20_ t72_ t73_ t74_
  have h' : (rules_pieces.D N).f x = rules_pieces.e N (rules_pieces.l0 N x.1 N) (rules_pieces.l1 N x.1 N) (rules_pieces.l2 N x.1 N) x.1 := by kernel_rfl
  exact (congr (congr (congrArg (fun r0 r1 r2 => rules_pieces.e N r0 r1 r2 x.1) e0) e1) e2).trans (h'.symm.trans h)
/-! ### f85: gamehall/rules.end -/
def rules_end.as : List MK := [.d true (.prod (.int .i64) (.prod (.int .i64) (.prod (.int .i64) .bool))), .d false (.int .i64)]
def rules_end.rs : List (Bool × HT) := [(false, (.d (.int .i64)))]
def rules_end.lc : List AC := []
def rules_end.D (N : Nat) : DFn := ⟨rules_end.as, rules_end.rs, Int, fun x => rules_end N x.1 x.2.1, fun r o => r.1, fun b => (b, ()), fun b => (), none⟩
theorem rules_end.fit (N : Nat) : (rules_end.D N).Fit := ⟨fun _ _ => rfl, fun _ _ => rfl, by kernel_rfl, (fun _ _ h => nomatch h), by kernel_rfl⟩
noncomputable def rules_end.G (N : Nat) : Gam := gamOf []
def rules_end.A : Nat → Option LoopAnn := fun _ => none
noncomputable def rules_end.fin (N : Nat) : St → Option Int := resK tb Try.f85.results.toList (decRes (rules_end.D N) rules_end.lc)
theorem rules_end.entry (N : Nat) (rec : List Item → St → Option Int) (x : (argH rules_end.as).den) : seg tb (rules_end.G N) rules_end.A 0 rec (rules_end.fin N) segFuel [.code (bodyOf Try.f85)] (initSt Try.f85 (encArgs rules_end.as x) (encMem rules_end.as x)) = rules_end.e N x.1 x.2.1 := by kernel_rfl
theorem rules_end.ok (N : Nat) : FnOk Try.prog 85 (rules_end.D N) := by
  refine FnOk_of tb_ok (Checked.mixed Try.checked) ⟨Try.f85, Try.func85, by kernel_rfl, by kernel_rfl, fun x y h => ⟨rules_end.G N, rules_end.A, N, gamOf_ok (fun p hp => nomatch hp), ?_⟩⟩ (rules_end.fit N)
  rw [absFn_n (n0 := 0) rfl (by kernel_rfl)]
  exact (rules_end.entry N _ x).trans h
/-! ### f58: gamehall/rules.Check -/
def rules_Check.as : List MK := [.d true (.prod .str (.prod (.int .i64) (.prod (.int .i64) (.prod (.slice 107 (.prod (.int .u8) (.prod (.int .i64) (.prod (.int .i64) (.slice 127 (.prod (.int .i64) (.prod (.int .i64) (.prod (.int .i64) (.int .i64))))))))) (.prod (.slice 3 (.int .i64)) (.prod .bool (.prod .bool (.prod (.slice 109 (.prod (.int .i64) (.prod (.int .i64) (.prod (.int .i64) .bool)))) (.prod (.int .i64) (.prod (.int .i64) (.int .i64)))))))))))]
def rules_Check.rs : List (Bool × HT) := [(false, (.d (.int .i64)))]
def rules_Check.lc : List AC := []
def rules_Check.D (N : Nat) : DFn := ⟨rules_Check.as, rules_Check.rs, Int, fun x => rules_Check N x.1, fun r o => r.1, fun b => (b, ()), fun b => (), none⟩
theorem rules_Check.fit (N : Nat) : (rules_Check.D N).Fit := ⟨fun _ _ => rfl, fun _ _ => rfl, by kernel_rfl, (fun _ _ h => nomatch h), by kernel_rfl⟩
noncomputable def rules_Check.G (N : Nat) : Gam := gamOf [(83, rules_Name.D N), (84, rules_pieces.D N), (85, rules_end.D N)]
def rules_Check.A : Nat → Option LoopAnn := fun k => bif Nat.beq k 1 then some ⟨[1, 49, 50, 51], [], [], [], [], 1, false⟩ else bif Nat.beq k 3 then some ⟨[1, 71, 72, 73], [], [], [], [], 1, false⟩ else none
noncomputable def rules_Check.fin (N : Nat) : St → Option Int := resK tb Try.f58.results.toList (decRes (rules_Check.D N) rules_Check.lc)
noncomputable def rules_Check.k0 : List Item := stackAt [.r, .r, .r, .r, .l, .r, .b] (bodyOf Try.f58) []
def rules_Check.st0 (r_ : TRules) (t50_ : Int) (t51_ : Int) : St := ⟨[.one .any, .one (.ptr 0 0)] ++ List.replicate 47 (.one .any) ++ [.one (.fro 3 (.int .i64) r_.2.2.2.2.1), .one (.int .i64 t50_), .one (.int .i64 t51_)] ++ List.replicate 67 (.one .any), [.var 26 [.str r_.1, .int .i64 r_.2.1, .int .i64 r_.2.2.1, .fro 107 (.prod (.int .u8) (.prod (.int .i64) (.prod (.int .i64) (.slice 127 (.prod (.int .i64) (.prod (.int .i64) (.prod (.int .i64) (.int .i64)))))))) r_.2.2.2.1, .fro 3 (.int .i64) r_.2.2.2.2.1, .bool r_.2.2.2.2.2.1, .bool r_.2.2.2.2.2.2.1, .fro 109 (.prod (.int .i64) (.prod (.int .i64) (.prod (.int .i64) .bool))) r_.2.2.2.2.2.2.2.1, .int .i64 r_.2.2.2.2.2.2.2.2.1, .int .i64 r_.2.2.2.2.2.2.2.2.2.1, .int .i64 r_.2.2.2.2.2.2.2.2.2.2]]⟩
noncomputable def rules_Check.k1 : List Item := stackAt [.r, .r, .r, .r, .r, .r, .l, .r, .b] (bodyOf Try.f58) []
def rules_Check.st1 (r_ : TRules) (t72_ : Int) (t73_ : Int) : St := ⟨[.one .any, .one (.ptr 0 0)] ++ List.replicate 69 (.one .any) ++ [.one (.fro 109 (.prod (.int .i64) (.prod (.int .i64) (.prod (.int .i64) .bool))) r_.2.2.2.2.2.2.2.1), .one (.int .i64 t72_), .one (.int .i64 t73_)] ++ List.replicate 45 (.one .any), [.var 26 [.str r_.1, .int .i64 r_.2.1, .int .i64 r_.2.2.1, .fro 107 (.prod (.int .u8) (.prod (.int .i64) (.prod (.int .i64) (.slice 127 (.prod (.int .i64) (.prod (.int .i64) (.prod (.int .i64) (.int .i64)))))))) r_.2.2.2.1, .fro 3 (.int .i64) r_.2.2.2.2.1, .bool r_.2.2.2.2.2.1, .bool r_.2.2.2.2.2.2.1, .fro 109 (.prod (.int .i64) (.prod (.int .i64) (.prod (.int .i64) .bool))) r_.2.2.2.2.2.2.2.1, .int .i64 r_.2.2.2.2.2.2.2.2.1, .int .i64 r_.2.2.2.2.2.2.2.2.2.1, .int .i64 r_.2.2.2.2.2.2.2.2.2.2]]⟩
theorem rules_Check.step0 (N : Nat) (rec : List Item → St → Option Int) (r_ : TRules) (t50_ : Int) (t51_ : Int) : seg tb (rules_Check.G N) rules_Check.A 0 rec (rules_Check.fin N) segFuel (loopBody rules_Check.k0) (rules_Check.st0 r_ t50_ t51_) = rules_Check.s0 N r_ (fun t50_ t51_ => rec rules_Check.k0 (rules_Check.st0 r_ t50_ t51_)) (fun t72_ t73_ => rec rules_Check.k1 (rules_Check.st1 r_ t72_ t73_)) t50_ t51_ := by kernel_rfl
theorem rules_Check.step1 (N : Nat) (rec : List Item → St → Option Int) (r_ : TRules) (t72_ : Int) (t73_ : Int) : seg tb (rules_Check.G N) rules_Check.A 0 rec (rules_Check.fin N) segFuel (loopBody rules_Check.k1) (rules_Check.st1 r_ t72_ t73_) = rules_Check.s1 N r_ (fun t50_ t51_ => rec rules_Check.k0 (rules_Check.st0 r_ t50_ t51_)) (fun t72_ t73_ => rec rules_Check.k1 (rules_Check.st1 r_ t72_ t73_)) t72_ t73_ := by kernel_rfl
theorem rules_Check.entry (N : Nat) (rec : List Item → St → Option Int) (x : (argH rules_Check.as).den) : seg tb (rules_Check.G N) rules_Check.A 0 rec (rules_Check.fin N) segFuel [.code (bodyOf Try.f58)] (initSt Try.f58 (encArgs rules_Check.as x) (encMem rules_Check.as x)) = rules_Check.e N (fun t50_ t51_ => rec rules_Check.k0 (rules_Check.st0 x.1 t50_ t51_)) (fun t72_ t73_ => rec rules_Check.k1 (rules_Check.st1 x.1 t72_ t73_)) x.1 := by kernel_rfl
theorem rules_Check.runs (N : Nat) (r_ : TRules) : ∀ n, (∀ (t50_ : Int) (t51_ : Int), run tb (rules_Check.G N) rules_Check.A 0 (rules_Check.fin N) n rules_Check.k0 (rules_Check.st0 r_ t50_ t51_) = rules_Check.l0 N r_ n t50_ t51_) ∧ (∀ (t72_ : Int) (t73_ : Int), run tb (rules_Check.G N) rules_Check.A 0 (rules_Check.fin N) n rules_Check.k1 (rules_Check.st1 r_ t72_ t73_) = rules_Check.l1 N r_ n t72_ t73_)
  | 0 => ⟨fun _ _ => rfl, fun _ _ => rfl⟩
  | n + 1 => by
    obtain ⟨h0, h1⟩ := rules_Check.runs N r_ n
    have e0 : (fun (t50_ : Int) (t51_ : Int) => run tb (rules_Check.G N) rules_Check.A 0 (rules_Check.fin N) n rules_Check.k0 (rules_Check.st0 r_ t50_ t51_)) = rules_Check.l0 N r_ n := by funext t50_ t51_; exact h0 t50_ t51_
    have e1 : (fun (t72_ : Int) (t73_ : Int) => run tb (rules_Check.G N) rules_Check.A 0 (rules_Check.fin N) n rules_Check.k1 (rules_Check.st1 r_ t72_ t73_)) = rules_Check.l1 N r_ n := by funext t72_ t73_; exact h1 t72_ t73_
    have g0 : (∀ (t50_ : Int) (t51_ : Int), run tb (rules_Check.G N) rules_Check.A 0 (rules_Check.fin N) (n + 1) rules_Check.k0 (rules_Check.st0 r_ t50_ t51_) = rules_Check.l0 N r_ (n + 1) t50_ t51_) := by
      intro t50_ t51_
      exact (run_succ (by kernel_rfl)).trans ((rules_Check.step0 N _ r_ t50_ t51_).trans ((congr (congrArg (fun r0 r1 => rules_Check.s0 N r_ r0 r1 t50_ t51_) e0) e1).trans (rules_Check.l0_s N r_ n t50_ t51_).symm))
    have g1 : (∀ (t72_ : Int) (t73_ : Int), run tb (rules_Check.G N) rules_Check.A 0 (rules_Check.fin N) (n + 1) rules_Check.k1 (rules_Check.st1 r_ t72_ t73_) = rules_Check.l1 N r_ (n + 1) t72_ t73_) := by
      intro t72_ t73_
      exact (run_succ (by kernel_rfl)).trans ((rules_Check.step1 N _ r_ t72_ t73_).trans ((congr (congrArg (fun r0 r1 => rules_Check.s1 N r_ r0 r1 t72_ t73_) e0) e1).trans (rules_Check.l1_s N r_ n t72_ t73_).symm))
    exact ⟨g0, g1⟩
theorem rules_Check.ok (N : Nat) : FnOk Try.prog 58 (rules_Check.D N) := by
  refine FnOk_of tb_ok (Checked.mixed Try.checked) ⟨Try.f58, Try.func58, by kernel_rfl, by kernel_rfl, fun x y h => ⟨rules_Check.G N, rules_Check.A, N, gamOf_ok (by simp only [List.forall_mem_cons, List.not_mem_nil, false_implies, implies_true, and_true]; exact ⟨⟨rules_Name.ok N, rules_Name.fit N⟩, ⟨rules_pieces.ok N, rules_pieces.fit N⟩, ⟨rules_end.ok N, rules_end.fit N⟩⟩), ?_⟩⟩ (rules_Check.fit N)
  rw [absFn_n (n0 := 0) rfl (by kernel_rfl)]
  refine (rules_Check.entry N (run tb (rules_Check.G N) rules_Check.A 0 (rules_Check.fin N) N) x).trans ?_
  have e0 : (fun (t50_ : Int) (t51_ : Int) => run tb (rules_Check.G N) rules_Check.A 0 (rules_Check.fin N) N rules_Check.k0 (rules_Check.st0 x.1 t50_ t51_)) = rules_Check.l0 N x.1 N := by funext t50_ t51_; exact (rules_Check.runs N x.1 N).1 t50_ t51_
  have e1 : (fun (t72_ : Int) (t73_ : Int) => run tb (rules_Check.G N) rules_Check.A 0 (rules_Check.fin N) N rules_Check.k1 (rules_Check.st1 x.1 t72_ t73_)) = rules_Check.l1 N x.1 N := by funext t72_ t73_; exact (rules_Check.runs N x.1 N).2 t72_ t73_
  have h' : (rules_Check.D N).f x = rules_Check.e N (rules_Check.l0 N x.1 N) (rules_Check.l1 N x.1 N) x.1 := by kernel_rfl
  exact (congr (congrArg (fun r0 r1 => rules_Check.e N r0 r1 x.1) e0) e1).trans (h'.symm.trans h)
/-! ### f37: gamehall/place.Check -/
def place_Check.as : List MK := [.d true (.prod .str (.prod (.int .i64) (.prod (.int .i64) (.prod (.slice 107 (.prod (.int .u8) (.prod (.int .i64) (.prod (.int .i64) (.slice 127 (.prod (.int .i64) (.prod (.int .i64) (.prod (.int .i64) (.int .i64))))))))) (.prod (.slice 3 (.int .i64)) (.prod .bool (.prod .bool (.prod (.slice 109 (.prod (.int .i64) (.prod (.int .i64) (.prod (.int .i64) .bool)))) (.prod (.int .i64) (.prod (.int .i64) (.int .i64))))))))))), .d true (.prod (.slice 3 (.int .i64)) (.prod (.prod (.slice 3 (.int .i64)) (.slice 3 (.int .i64))) (.prod (.int .i64) (.int .i64))))]
def place_Check.rs : List (Bool × HT) := [(false, (.d (.int .i64)))]
def place_Check.lc : List AC := []
def place_Check.D (N : Nat) : DFn := ⟨place_Check.as, place_Check.rs, Int, fun x => place_Check N x.1 x.2.1, fun r o => r.1, fun b => (b, ()), fun b => (), none⟩
theorem place_Check.fit (N : Nat) : (place_Check.D N).Fit := ⟨fun _ _ => rfl, fun _ _ => rfl, by kernel_rfl, (fun _ _ h => nomatch h), by kernel_rfl⟩
noncomputable def place_Check.G (N : Nat) : Gam := gamOf [(58, rules_Check.D N)]
def place_Check.A : Nat → Option LoopAnn := fun k => bif Nat.beq k 0 then some ⟨[2, 3, 47, 48, 49], [], [], [], [], 2, false⟩ else bif Nat.beq k 2 then some ⟨[3, 65, 66], [], [], [], [0], 2, false⟩ else bif Nat.beq k 4 then some ⟨[3, 65, 66, 69, 70, 71], [], [], [], [], 2, false⟩ else none
noncomputable def place_Check.fin (N : Nat) : St → Option Int := resK tb Try.f37.results.toList (decRes (place_Check.D N) place_Check.lc)
noncomputable def place_Check.k0 : List Item := stackAt [.r, .r, .r, .l, .r, .b] (bodyOf Try.f37) []
def place_Check.st0 (r_ : TRules) (p_ : TPos) (t49_ : Int) : St := ⟨[.one .any, .one .any, .one (.ptr 0 0), .one (.ptr 1 0)] ++ List.replicate 43 (.one .any) ++ [.one (.fro 3 (.int .i64) p_.1), .one (.int .i64 (p_.1.length : Int)), .one (.int .i64 t49_)] ++ List.replicate 51 (.one .any), [.var 26 [.str r_.1, .int .i64 r_.2.1, .int .i64 r_.2.2.1, .fro 107 (.prod (.int .u8) (.prod (.int .i64) (.prod (.int .i64) (.slice 127 (.prod (.int .i64) (.prod (.int .i64) (.prod (.int .i64) (.int .i64)))))))) r_.2.2.2.1, .fro 3 (.int .i64) r_.2.2.2.2.1, .bool r_.2.2.2.2.2.1, .bool r_.2.2.2.2.2.2.1, .fro 109 (.prod (.int .i64) (.prod (.int .i64) (.prod (.int .i64) .bool))) r_.2.2.2.2.2.2.2.1, .int .i64 r_.2.2.2.2.2.2.2.2.1, .int .i64 r_.2.2.2.2.2.2.2.2.2.1, .int .i64 r_.2.2.2.2.2.2.2.2.2.2], .var 29 [.fro 3 (.int .i64) p_.1, .fro 3 (.int .i64) p_.2.1.1, .fro 3 (.int .i64) p_.2.1.2, .int .i64 p_.2.2.1, .int .i64 p_.2.2.2]]⟩
noncomputable def place_Check.k1 : List Item := stackAt [.r, .r, .r, .r, .l, .r, .b] (bodyOf Try.f37) []
def place_Check.st1 (r_ : TRules) (p_ : TPos) (t66_ : Int) : St := ⟨List.replicate 3 (.one .any) ++ [.one (.ptr 1 0)] ++ List.replicate 61 (.one .any) ++ [.agg [.fro 3 (.int .i64) p_.2.1.1, .fro 3 (.int .i64) p_.2.1.2], .one (.int .i64 t66_)] ++ List.replicate 34 (.one .any), [.gone, .var 29 [.fro 3 (.int .i64) p_.1, .fro 3 (.int .i64) p_.2.1.1, .fro 3 (.int .i64) p_.2.1.2, .int .i64 p_.2.2.1, .int .i64 p_.2.2.2]]⟩
noncomputable def place_Check.k2 : List Item := stackAt [.r, .r, .r, .r, .l, .r, .b, .w, .r, .r, .l, .b, .r, .r, .b] (bodyOf Try.f37) []
def place_Check.st2 (r_ : TRules) (p_ : TPos) (t66_ : Int) (t69_ : LInt) (t70_ : Int) (t71_ : Int) : St := ⟨List.replicate 3 (.one .any) ++ [.one (.ptr 1 0)] ++ List.replicate 61 (.one .any) ++ [.agg [.fro 3 (.int .i64) p_.2.1.1, .fro 3 (.int .i64) p_.2.1.2], .one (.int .i64 t66_), .one .any, .one .any, .one (.fro 3 (.int .i64) t69_), .one (.int .i64 t70_), .one (.int .i64 t71_)] ++ List.replicate 29 (.one .any), [.gone, .var 29 [.fro 3 (.int .i64) p_.1, .fro 3 (.int .i64) p_.2.1.1, .fro 3 (.int .i64) p_.2.1.2, .int .i64 p_.2.2.1, .int .i64 p_.2.2.2]]⟩
theorem place_Check.step0 (N : Nat) (rec : List Item → St → Option Int) (r_ : TRules) (p_ : TPos) (t49_ : Int) : seg tb (place_Check.G N) place_Check.A 0 rec (place_Check.fin N) segFuel (loopBody place_Check.k0) (place_Check.st0 r_ p_ t49_) = place_Check.s0 N r_ p_ (fun t49_ => rec place_Check.k0 (place_Check.st0 r_ p_ t49_)) (fun t66_ => rec place_Check.k1 (place_Check.st1 r_ p_ t66_)) (fun t66_ t69_ t70_ t71_ => rec place_Check.k2 (place_Check.st2 r_ p_ t66_ t69_ t70_ t71_)) t49_ := by kernel_rfl
theorem place_Check.step1 (N : Nat) (rec : List Item → St → Option Int) (r_ : TRules) (p_ : TPos) (t66_ : Int) : seg tb (place_Check.G N) place_Check.A 0 rec (place_Check.fin N) segFuel (loopBody place_Check.k1) (place_Check.st1 r_ p_ t66_) = place_Check.s1 N r_ p_ (fun t49_ => rec place_Check.k0 (place_Check.st0 r_ p_ t49_)) (fun t66_ => rec place_Check.k1 (place_Check.st1 r_ p_ t66_)) (fun t66_ t69_ t70_ t71_ => rec place_Check.k2 (place_Check.st2 r_ p_ t66_ t69_ t70_ t71_)) t66_ := by kernel_rfl
theorem place_Check.step2 (N : Nat) (rec : List Item → St → Option Int) (r_ : TRules) (p_ : TPos) (t66_ : Int) (t69_ : LInt) (t70_ : Int) (t71_ : Int) : seg tb (place_Check.G N) place_Check.A 0 rec (place_Check.fin N) segFuel (loopBody place_Check.k2) (place_Check.st2 r_ p_ t66_ t69_ t70_ t71_) = place_Check.s2 N r_ p_ (fun t49_ => rec place_Check.k0 (place_Check.st0 r_ p_ t49_)) (fun t66_ => rec place_Check.k1 (place_Check.st1 r_ p_ t66_)) (fun t66_ t69_ t70_ t71_ => rec place_Check.k2 (place_Check.st2 r_ p_ t66_ t69_ t70_ t71_)) t66_ t69_ t70_ t71_ := by kernel_rfl
theorem place_Check.entry (N : Nat) (rec : List Item → St → Option Int) (x : (argH place_Check.as).den) : seg tb (place_Check.G N) place_Check.A 0 rec (place_Check.fin N) segFuel [.code (bodyOf Try.f37)] (initSt Try.f37 (encArgs place_Check.as x) (encMem place_Check.as x)) = place_Check.e N (fun t49_ => rec place_Check.k0 (place_Check.st0 x.1 x.2.1 t49_)) (fun t66_ => rec place_Check.k1 (place_Check.st1 x.1 x.2.1 t66_)) (fun t66_ t69_ t70_ t71_ => rec place_Check.k2 (place_Check.st2 x.1 x.2.1 t66_ t69_ t70_ t71_)) x.1 x.2.1 := by kernel_rfl
theorem place_Check.runs (N : Nat) (r_ : TRules) (p_ : TPos) : ∀ n, (∀ (t49_ : Int), run tb (place_Check.G N) place_Check.A 0 (place_Check.fin N) n place_Check.k0 (place_Check.st0 r_ p_ t49_) = place_Check.l0 N r_ p_ n t49_) ∧ (∀ (t66_ : Int), run tb (place_Check.G N) place_Check.A 0 (place_Check.fin N) n place_Check.k1 (place_Check.st1 r_ p_ t66_) = place_Check.l1 N r_ p_ n t66_) ∧ (∀ (t66_ : Int) (t69_ : LInt) (t70_ : Int) (t71_ : Int), run tb (place_Check.G N) place_Check.A 0 (place_Check.fin N) n place_Check.k2 (place_Check.st2 r_ p_ t66_ t69_ t70_ t71_) = place_Check.l2 N r_ p_ n t66_ t69_ t70_ t71_)
  | 0 => ⟨fun _ => rfl, fun _ => rfl, fun _ _ _ _ => rfl⟩
  | n + 1 => by
    obtain ⟨h0, h1, h2⟩ := place_Check.runs N r_ p_ n
    have e0 : (fun (t49_ : Int) => run tb (place_Check.G N) place_Check.A 0 (place_Check.fin N) n place_Check.k0 (place_Check.st0 r_ p_ t49_)) = place_Check.l0 N r_ p_ n := by funext t49_; exact h0 t49_
    have e1 : (fun (t66_ : Int) => run tb (place_Check.G N) place_Check.A 0 (place_Check.fin N) n place_Check.k1 (place_Check.st1 r_ p_ t66_)) = place_Check.l1 N r_ p_ n := by funext t66_; exact h1 t66_
    have e2 : (fun (t66_ : Int) (t69_ : LInt) (t70_ : Int) (t71_ : Int) => run tb (place_Check.G N) place_Check.A 0 (place_Check.fin N) n place_Check.k2 (place_Check.st2 r_ p_ t66_ t69_ t70_ t71_)) = place_Check.l2 N r_ p_ n := by funext t66_ t69_ t70_ t71_; exact h2 t66_ t69_ t70_ t71_
    have g0 : (∀ (t49_ : Int), run tb (place_Check.G N) place_Check.A 0 (place_Check.fin N) (n + 1) place_Check.k0 (place_Check.st0 r_ p_ t49_) = place_Check.l0 N r_ p_ (n + 1) t49_) := by
      intro t49_
      exact (run_succ (by kernel_rfl)).trans ((place_Check.step0 N _ r_ p_ t49_).trans ((congr (congr (congrArg (fun r0 r1 r2 => place_Check.s0 N r_ p_ r0 r1 r2 t49_) e0) e1) e2).trans (place_Check.l0_s N r_ p_ n t49_).symm))
    have g1 : (∀ (t66_ : Int), run tb (place_Check.G N) place_Check.A 0 (place_Check.fin N) (n + 1) place_Check.k1 (place_Check.st1 r_ p_ t66_) = place_Check.l1 N r_ p_ (n + 1) t66_) := by
      intro t66_
      exact (run_succ (by kernel_rfl)).trans ((place_Check.step1 N _ r_ p_ t66_).trans ((congr (congr (congrArg (fun r0 r1 r2 => place_Check.s1 N r_ p_ r0 r1 r2 t66_) e0) e1) e2).trans (place_Check.l1_s N r_ p_ n t66_).symm))
    have g2 : (∀ (t66_ : Int) (t69_ : LInt) (t70_ : Int) (t71_ : Int), run tb (place_Check.G N) place_Check.A 0 (place_Check.fin N) (n + 1) place_Check.k2 (place_Check.st2 r_ p_ t66_ t69_ t70_ t71_) = place_Check.l2 N r_ p_ (n + 1) t66_ t69_ t70_ t71_) := by
      intro t66_ t69_ t70_ t71_
      exact (run_succ (by kernel_rfl)).trans ((place_Check.step2 N _ r_ p_ t66_ t69_ t70_ t71_).trans ((congr (congr (congrArg (fun r0 r1 r2 => place_Check.s2 N r_ p_ r0 r1 r2 t66_ t69_ t70_ t71_) e0) e1) e2).trans (place_Check.l2_s N r_ p_ n t66_ t69_ t70_ t71_).symm))
    exact ⟨g0, g1, g2⟩
theorem place_Check.ok (N : Nat) : FnOk Try.prog 37 (place_Check.D N) := by
  refine FnOk_of tb_ok (Checked.mixed Try.checked) ⟨Try.f37, Try.func37, by kernel_rfl, by kernel_rfl, fun x y h => ⟨place_Check.G N, place_Check.A, N, gamOf_ok (by simp only [List.forall_mem_cons, List.not_mem_nil, false_implies, implies_true, and_true]; exact ⟨rules_Check.ok N, rules_Check.fit N⟩), ?_⟩⟩ (place_Check.fit N)
  rw [absFn_n (n0 := 0) rfl (by kernel_rfl)]
  refine (place_Check.entry N (run tb (place_Check.G N) place_Check.A 0 (place_Check.fin N) N) x).trans ?_
  have e0 : (fun (t49_ : Int) => run tb (place_Check.G N) place_Check.A 0 (place_Check.fin N) N place_Check.k0 (place_Check.st0 x.1 x.2.1 t49_)) = place_Check.l0 N x.1 x.2.1 N := by funext t49_; exact (place_Check.runs N x.1 x.2.1 N).1 t49_
  have e1 : (fun (t66_ : Int) => run tb (place_Check.G N) place_Check.A 0 (place_Check.fin N) N place_Check.k1 (place_Check.st1 x.1 x.2.1 t66_)) = place_Check.l1 N x.1 x.2.1 N := by funext t66_; exact (place_Check.runs N x.1 x.2.1 N).2.1 t66_
  have e2 : (fun (t66_ : Int) (t69_ : LInt) (t70_ : Int) (t71_ : Int) => run tb (place_Check.G N) place_Check.A 0 (place_Check.fin N) N place_Check.k2 (place_Check.st2 x.1 x.2.1 t66_ t69_ t70_ t71_)) = place_Check.l2 N x.1 x.2.1 N := by funext t66_ t69_ t70_ t71_; exact (place_Check.runs N x.1 x.2.1 N).2.2 t66_ t69_ t70_ t71_
  have h' : (place_Check.D N).f x = place_Check.e N (place_Check.l0 N x.1 x.2.1 N) (place_Check.l1 N x.1 x.2.1 N) (place_Check.l2 N x.1 x.2.1 N) x.1 x.2.1 := by kernel_rfl
  exact (congr (congr (congrArg (fun r0 r1 r2 => place_Check.e N r0 r1 r2 x.1 x.2.1) e0) e1) e2).trans (h'.symm.trans h)
/-! ### f46: gamehall/rules.Copy -/
def rules_Copy.as : List MK := [.d true (.prod .str (.prod (.int .i64) (.prod (.int .i64) (.prod (.slice 107 (.prod (.int .u8) (.prod (.int .i64) (.prod (.int .i64) (.slice 127 (.prod (.int .i64) (.prod (.int .i64) (.prod (.int .i64) (.int .i64))))))))) (.prod (.slice 3 (.int .i64)) (.prod .bool (.prod .bool (.prod (.slice 109 (.prod (.int .i64) (.prod (.int .i64) (.prod (.int .i64) .bool)))) (.prod (.int .i64) (.prod (.int .i64) (.int .i64)))))))))))]
def rules_Copy.rs : List (Bool × HT) := [(true, (.prod (.d .str) (.prod (.d (.int .i64)) (.prod (.d (.int .i64)) (.prod (.own 107 (.prod (.int .u8) (.prod (.int .i64) (.prod (.int .i64) (.slice 127 (.prod (.int .i64) (.prod (.int .i64) (.prod (.int .i64) (.int .i64))))))))) (.prod (.own 3 (.int .i64)) (.prod (.d .bool) (.prod (.d .bool) (.prod (.own 109 (.prod (.int .i64) (.prod (.int .i64) (.prod (.int .i64) .bool)))) (.d (.prod (.int .i64) (.prod (.int .i64) (.int .i64)))))))))))))]
def rules_Copy.lc : List AC := []
def rules_Copy.D (N : Nat) : DFn := ⟨rules_Copy.as, rules_Copy.rs, TRules, fun x => rules_Copy N x.1, fun r o => r.1, fun b => (b, ()), fun b => (), none⟩
theorem rules_Copy.fit (N : Nat) : (rules_Copy.D N).Fit := ⟨fun _ _ => rfl, fun _ _ => rfl, by kernel_rfl, (fun _ _ h => nomatch h), by kernel_rfl⟩
noncomputable def rules_Copy.G (N : Nat) : Gam := gamOf []
def rules_Copy.A : Nat → Option LoopAnn := fun k => bif Nat.beq k 0 then some ⟨[1, 2, 3, 13, 14, 15], [], [], [], [], 4, false⟩ else none
noncomputable def rules_Copy.fin (N : Nat) : St → Option TRules := resK tb Try.f46.results.toList (decRes (rules_Copy.D N) rules_Copy.lc)
noncomputable def rules_Copy.k0 : List Item := stackAt [.r, .r, .r, .l, .r, .b] (bodyOf Try.f46) []
def rules_Copy.st0 (r_ : TRules) (t14_ : Int) (t15_ : Int) (m3_ : (List TPiece)) : St := ⟨[.one .any, .one (.ptr 0 0), .one (.ptr 1 0), .one (.ptr 2 0)] ++ List.replicate 9 (.one .any) ++ [.one (.fro 107 (.prod (.int .u8) (.prod (.int .i64) (.prod (.int .i64) (.slice 127 (.prod (.int .i64) (.prod (.int .i64) (.prod (.int .i64) (.int .i64)))))))) r_.2.2.2.1), .one (.int .i64 t14_), .one (.int .i64 t15_)] ++ List.replicate 23 (.one .any), [.var 26 [.str r_.1, .int .i64 r_.2.1, .int .i64 r_.2.2.1, .fro 107 (.prod (.int .u8) (.prod (.int .i64) (.prod (.int .i64) (.slice 127 (.prod (.int .i64) (.prod (.int .i64) (.prod (.int .i64) (.int .i64)))))))) r_.2.2.2.1, .fro 3 (.int .i64) r_.2.2.2.2.1, .bool r_.2.2.2.2.2.1, .bool r_.2.2.2.2.2.2.1, .fro 109 (.prod (.int .i64) (.prod (.int .i64) (.prod (.int .i64) .bool))) r_.2.2.2.2.2.2.2.1, .int .i64 r_.2.2.2.2.2.2.2.2.1, .int .i64 r_.2.2.2.2.2.2.2.2.2.1, .int .i64 r_.2.2.2.2.2.2.2.2.2.2], .var 26 [.str (⟨#[]⟩ : ByteArray), .int .i64 0, .int .i64 0, .nilS, .nilS, .bool false, .bool false, .nilS, .int .i64 0, .int .i64 0, .int .i64 0], .var 26 [.str r_.1, .int .i64 r_.2.1, .int .i64 r_.2.2.1, .own 3, .fro 3 (.int .i64) r_.2.2.2.2.1, .bool r_.2.2.2.2.2.1, .bool r_.2.2.2.2.2.2.1, .fro 109 (.prod (.int .i64) (.prod (.int .i64) (.prod (.int .i64) .bool))) r_.2.2.2.2.2.2.2.1, .int .i64 r_.2.2.2.2.2.2.2.2.1, .int .i64 r_.2.2.2.2.2.2.2.2.2.1, .int .i64 r_.2.2.2.2.2.2.2.2.2.2], .row 107 (.prod (.int .u8) (.prod (.int .i64) (.prod (.int .i64) (.slice 127 (.prod (.int .i64) (.prod (.int .i64) (.prod (.int .i64) (.int .i64)))))))) m3_]⟩
theorem rules_Copy.step0 (N : Nat) (rec : List Item → St → Option TRules) (r_ : TRules) (t14_ : Int) (t15_ : Int) (m3_ : (List TPiece)) : seg tb (rules_Copy.G N) rules_Copy.A 0 rec (rules_Copy.fin N) segFuel (loopBody rules_Copy.k0) (rules_Copy.st0 r_ t14_ t15_ m3_) = rules_Copy.s0 N r_ (fun t14_ t15_ m3_ => rec rules_Copy.k0 (rules_Copy.st0 r_ t14_ t15_ m3_)) t14_ t15_ m3_ := by kernel_rfl
theorem rules_Copy.entry (N : Nat) (rec : List Item → St → Option TRules) (x : (argH rules_Copy.as).den) : seg tb (rules_Copy.G N) rules_Copy.A 0 rec (rules_Copy.fin N) segFuel [.code (bodyOf Try.f46)] (initSt Try.f46 (encArgs rules_Copy.as x) (encMem rules_Copy.as x)) = rules_Copy.e N (fun t14_ t15_ m3_ => rec rules_Copy.k0 (rules_Copy.st0 x.1 t14_ t15_ m3_)) x.1 := by kernel_rfl
theorem rules_Copy.runs (N : Nat) (r_ : TRules) : ∀ n, (∀ (t14_ : Int) (t15_ : Int) (m3_ : (List TPiece)), run tb (rules_Copy.G N) rules_Copy.A 0 (rules_Copy.fin N) n rules_Copy.k0 (rules_Copy.st0 r_ t14_ t15_ m3_) = rules_Copy.l0 N r_ n t14_ t15_ m3_)
  | 0 => fun _ _ _ => rfl
  | n + 1 => by
    have h0 := rules_Copy.runs N r_ n
    have e0 : (fun (t14_ : Int) (t15_ : Int) (m3_ : (List TPiece)) => run tb (rules_Copy.G N) rules_Copy.A 0 (rules_Copy.fin N) n rules_Copy.k0 (rules_Copy.st0 r_ t14_ t15_ m3_)) = rules_Copy.l0 N r_ n := by funext t14_ t15_ m3_; exact h0 t14_ t15_ m3_
    have g0 : (∀ (t14_ : Int) (t15_ : Int) (m3_ : (List TPiece)), run tb (rules_Copy.G N) rules_Copy.A 0 (rules_Copy.fin N) (n + 1) rules_Copy.k0 (rules_Copy.st0 r_ t14_ t15_ m3_) = rules_Copy.l0 N r_ (n + 1) t14_ t15_ m3_) := by
      intro t14_ t15_ m3_
      exact (run_succ (by kernel_rfl)).trans ((rules_Copy.step0 N _ r_ t14_ t15_ m3_).trans ((congrArg (fun r0 => rules_Copy.s0 N r_ r0 t14_ t15_ m3_) e0).trans (rules_Copy.l0_s N r_ n t14_ t15_ m3_).symm))
    exact g0
theorem rules_Copy.ok (N : Nat) : FnOk Try.prog 46 (rules_Copy.D N) := by
  refine FnOk_of tb_ok (Checked.mixed Try.checked) ⟨Try.f46, Try.func46, by kernel_rfl, by kernel_rfl, fun x y h => ⟨rules_Copy.G N, rules_Copy.A, N, gamOf_ok (fun p hp => nomatch hp), ?_⟩⟩ (rules_Copy.fit N)
  rw [absFn_n (n0 := 0) rfl (by kernel_rfl)]
  refine (rules_Copy.entry N (run tb (rules_Copy.G N) rules_Copy.A 0 (rules_Copy.fin N) N) x).trans ?_
  have e0 : (fun (t14_ : Int) (t15_ : Int) (m3_ : (List TPiece)) => run tb (rules_Copy.G N) rules_Copy.A 0 (rules_Copy.fin N) N rules_Copy.k0 (rules_Copy.st0 x.1 t14_ t15_ m3_)) = rules_Copy.l0 N x.1 N := by funext t14_ t15_ m3_; exact (rules_Copy.runs N x.1 N) t14_ t15_ m3_
  have h' : (rules_Copy.D N).f x = rules_Copy.e N (rules_Copy.l0 N x.1 N) x.1 := by kernel_rfl
  exact (congrArg (fun r0 => rules_Copy.e N r0 x.1) e0).trans (h'.symm.trans h)
/-! ### f75: slices.Clone[[]int,int] -/
def slices_Clone_int_int.as : List MK := [.d false (.slice 3 (.int .i64))]
def slices_Clone_int_int.rs : List (Bool × HT) := [(false, (.own 3 (.int .i64)))]
def slices_Clone_int_int.lc : List AC := []
def slices_Clone_int_int.D (N : Nat) : DFn := ⟨slices_Clone_int_int.as, slices_Clone_int_int.rs, LInt, fun x => slices_Clone_int_int N x.1, fun r o => r.1, fun b => (b, ()), fun b => (), none⟩
theorem slices_Clone_int_int.fit (N : Nat) : (slices_Clone_int_int.D N).Fit := ⟨fun _ _ => rfl, fun _ _ => rfl, by kernel_rfl, (fun _ _ h => nomatch h), by kernel_rfl⟩
noncomputable def slices_Clone_int_int.G (N : Nat) : Gam := gamOf []
def slices_Clone_int_int.A : Nat → Option LoopAnn := fun _ => none
noncomputable def slices_Clone_int_int.fin (N : Nat) : St → Option LInt := resK tb Try.f75.results.toList (decRes (slices_Clone_int_int.D N) slices_Clone_int_int.lc)
theorem slices_Clone_int_int.entry0 (N : Nat) (rec : List Item → St → Option LInt) : seg tb (slices_Clone_int_int.G N) slices_Clone_int_int.A 0 rec (slices_Clone_int_int.fin N) segFuel [.code (bodyOf Try.f75)] (initSt Try.f75 [.one .nilS] []) = some [] := by kernel_rfl
theorem slices_Clone_int_int.entry (N : Nat) (rec : List Item → St → Option LInt) (x : LInt) : seg tb (slices_Clone_int_int.G N) slices_Clone_int_int.A 0 rec (slices_Clone_int_int.fin N) segFuel [.code (bodyOf Try.f75)] (initSt Try.f75 [.one (.frn 3 (.int .i64) x)] []) = slices_Clone_int_int.e N x := by kernel_rfl
theorem slices_Clone_int_int.ok (N : Nat) : FnOk Try.prog 75 (slices_Clone_int_int.D N) := by
  refine FnOk_ofN (e := 3) (t := (.int .i64)) (h := rfl) tb_ok (Checked.mixed Try.checked) ⟨Try.f75, Try.func75, by kernel_rfl, by kernel_rfl, fun x y h => ⟨slices_Clone_int_int.G N, slices_Clone_int_int.A, N, gamOf_ok (fun p hp => nomatch hp), fun hx => ?_, ?_⟩⟩ (slices_Clone_int_int.fit N)
  · subst hx; rw [absFn_n (n0 := 0) rfl (by kernel_rfl)]; exact (slices_Clone_int_int.entry0 N _).trans h
  · rw [absFn_n (n0 := 0) rfl (by kernel_rfl)]; exact (slices_Clone_int_int.entry N _ x).trans h
/-! ### f47: gamehall/place.Copy -/
def place_Copy.as : List MK := [.d true (.prod (.slice 3 (.int .i64)) (.prod (.prod (.slice 3 (.int .i64)) (.slice 3 (.int .i64))) (.prod (.int .i64) (.int .i64))))]
def place_Copy.rs : List (Bool × HT) := [(true, (.prod (.own 3 (.int .i64)) (.prod (.prod (.own 3 (.int .i64)) (.own 3 (.int .i64))) (.d (.prod (.int .i64) (.int .i64))))))]
def place_Copy.lc : List AC := []
def place_Copy.D (N : Nat) : DFn := ⟨place_Copy.as, place_Copy.rs, TPos, fun x => place_Copy N x.1, fun r o => r.1, fun b => (b, ()), fun b => (), none⟩
theorem place_Copy.fit (N : Nat) : (place_Copy.D N).Fit := ⟨fun _ _ => rfl, fun _ _ => rfl, by kernel_rfl, (fun _ _ h => nomatch h), by kernel_rfl⟩
noncomputable def place_Copy.G (N : Nat) : Gam := gamOf [(75, slices_Clone_int_int.D N)]
def place_Copy.A : Nat → Option LoopAnn := fun k => bif Nat.beq k 0 then some ⟨[], [], [], [], [], 0, true⟩ else none
noncomputable def place_Copy.fin (N : Nat) : St → Option TPos := resK tb Try.f47.results.toList (decRes (place_Copy.D N) place_Copy.lc)
theorem place_Copy.entry (N : Nat) (rec : List Item → St → Option TPos) (x : (argH place_Copy.as).den) : seg tb (place_Copy.G N) place_Copy.A 0 rec (place_Copy.fin N) segFuel [.code (bodyOf Try.f47)] (initSt Try.f47 (encArgs place_Copy.as x) (encMem place_Copy.as x)) = place_Copy.e N x.1 := by kernel_rfl
theorem place_Copy.ok (N : Nat) : FnOk Try.prog 47 (place_Copy.D N) := by
  refine FnOk_of tb_ok (Checked.mixed Try.checked) ⟨Try.f47, Try.func47, by kernel_rfl, by kernel_rfl, fun x y h => ⟨place_Copy.G N, place_Copy.A, N, gamOf_ok (by simp only [List.forall_mem_cons, List.not_mem_nil, false_implies, implies_true, and_true]; exact ⟨slices_Clone_int_int.ok N, slices_Clone_int_int.fit N⟩), ?_⟩⟩ (place_Copy.fit N)
  rw [absFn_n (n0 := 0) rfl (by kernel_rfl)]
  exact (place_Copy.entry N _ x).trans h
/-! ### f15: gamehall/zob.Mix -/
def zob_Mix.as : List MK := [.d false (.int .i64)]
def zob_Mix.rs : List (Bool × HT) := [(false, (.d (.int .u64)))]
def zob_Mix.lc : List AC := []
def zob_Mix.D (N : Nat) : DFn := ⟨zob_Mix.as, zob_Mix.rs, Int, fun x => zob_Mix N x.1, fun r o => r.1, fun b => (b, ()), fun b => (), none⟩
theorem zob_Mix.fit (N : Nat) : (zob_Mix.D N).Fit := ⟨fun _ _ => rfl, fun _ _ => rfl, by kernel_rfl, (fun _ _ h => nomatch h), by kernel_rfl⟩
noncomputable def zob_Mix.G (N : Nat) : Gam := gamOf []
def zob_Mix.A : Nat → Option LoopAnn := fun _ => none
noncomputable def zob_Mix.fin (N : Nat) : St → Option Int := resK tb Try.f15.results.toList (decRes (zob_Mix.D N) zob_Mix.lc)
theorem zob_Mix.entry (N : Nat) (rec : List Item → St → Option Int) (x : (argH zob_Mix.as).den) : seg tb (zob_Mix.G N) zob_Mix.A 0 rec (zob_Mix.fin N) segFuel [.code (bodyOf Try.f15)] (initSt Try.f15 (encArgs zob_Mix.as x) (encMem zob_Mix.as x)) = zob_Mix.e N x.1 := by kernel_rfl
theorem zob_Mix.ok (N : Nat) : FnOk Try.prog 15 (zob_Mix.D N) := by
  refine FnOk_of tb_ok (Checked.mixed Try.checked) ⟨Try.f15, Try.func15, by kernel_rfl, by kernel_rfl, fun x y h => ⟨zob_Mix.G N, zob_Mix.A, N, gamOf_ok (fun p hp => nomatch hp), ?_⟩⟩ (zob_Mix.fit N)
  rw [absFn_n (n0 := 0) rfl (by kernel_rfl)]
  exact (zob_Mix.entry N _ x).trans h
/-! ### f76: gamehall/zob.turn -/
def zob_turn.as : List MK := [.d false (.int .i64)]
def zob_turn.rs : List (Bool × HT) := [(false, (.d (.int .u64)))]
def zob_turn.lc : List AC := []
def zob_turn.D (N : Nat) : DFn := ⟨zob_turn.as, zob_turn.rs, Int, fun x => zob_turn N x.1, fun r o => r.1, fun b => (b, ()), fun b => (), none⟩
theorem zob_turn.fit (N : Nat) : (zob_turn.D N).Fit := ⟨fun _ _ => rfl, fun _ _ => rfl, by kernel_rfl, (fun _ _ h => nomatch h), by kernel_rfl⟩
noncomputable def zob_turn.G (N : Nat) : Gam := gamOf [(15, zob_Mix.D N)]
def zob_turn.A : Nat → Option LoopAnn := fun _ => none
noncomputable def zob_turn.fin (N : Nat) : St → Option Int := resK tb Try.f76.results.toList (decRes (zob_turn.D N) zob_turn.lc)
theorem zob_turn.entry (N : Nat) (rec : List Item → St → Option Int) (x : (argH zob_turn.as).den) : seg tb (zob_turn.G N) zob_turn.A 0 rec (zob_turn.fin N) segFuel [.code (bodyOf Try.f76)] (initSt Try.f76 (encArgs zob_turn.as x) (encMem zob_turn.as x)) = zob_turn.e N x.1 := by kernel_rfl
theorem zob_turn.ok (N : Nat) : FnOk Try.prog 76 (zob_turn.D N) := by
  refine FnOk_of tb_ok (Checked.mixed Try.checked) ⟨Try.f76, Try.func76, by kernel_rfl, by kernel_rfl, fun x y h => ⟨zob_turn.G N, zob_turn.A, N, gamOf_ok (by simp only [List.forall_mem_cons, List.not_mem_nil, false_implies, implies_true, and_true]; exact ⟨zob_Mix.ok N, zob_Mix.fit N⟩), ?_⟩⟩ (zob_turn.fit N)
  rw [absFn_n (n0 := 0) rfl (by kernel_rfl)]
  exact (zob_turn.entry N _ x).trans h
/-! ### f77: gamehall/zob.square -/
def zob_square.as : List MK := [.d false (.int .i64), .d false (.int .i64)]
def zob_square.rs : List (Bool × HT) := [(false, (.d (.int .u64)))]
def zob_square.lc : List AC := []
def zob_square.D (N : Nat) : DFn := ⟨zob_square.as, zob_square.rs, Int, fun x => zob_square N x.1 x.2.1, fun r o => r.1, fun b => (b, ()), fun b => (), none⟩
theorem zob_square.fit (N : Nat) : (zob_square.D N).Fit := ⟨fun _ _ => rfl, fun _ _ => rfl, by kernel_rfl, (fun _ _ h => nomatch h), by kernel_rfl⟩
noncomputable def zob_square.G (N : Nat) : Gam := gamOf [(15, zob_Mix.D N)]
def zob_square.A : Nat → Option LoopAnn := fun _ => none
noncomputable def zob_square.fin (N : Nat) : St → Option Int := resK tb Try.f77.results.toList (decRes (zob_square.D N) zob_square.lc)
theorem zob_square.entry (N : Nat) (rec : List Item → St → Option Int) (x : (argH zob_square.as).den) : seg tb (zob_square.G N) zob_square.A 0 rec (zob_square.fin N) segFuel [.code (bodyOf Try.f77)] (initSt Try.f77 (encArgs zob_square.as x) (encMem zob_square.as x)) = zob_square.e N x.1 x.2.1 := by kernel_rfl
theorem zob_square.ok (N : Nat) : FnOk Try.prog 77 (zob_square.D N) := by
  refine FnOk_of tb_ok (Checked.mixed Try.checked) ⟨Try.f77, Try.func77, by kernel_rfl, by kernel_rfl, fun x y h => ⟨zob_square.G N, zob_square.A, N, gamOf_ok (by simp only [List.forall_mem_cons, List.not_mem_nil, false_implies, implies_true, and_true]; exact ⟨zob_Mix.ok N, zob_Mix.fit N⟩), ?_⟩⟩ (zob_square.fit N)
  rw [absFn_n (n0 := 0) rfl (by kernel_rfl)]
  exact (zob_square.entry N _ x).trans h
/-! ### f78: gamehall/zob.held -/
def zob_held.as : List MK := [.d false (.int .i64), .d false (.int .i64), .d false (.int .i64)]
def zob_held.rs : List (Bool × HT) := [(false, (.d (.int .u64)))]
def zob_held.lc : List AC := []
def zob_held.D (N : Nat) : DFn := ⟨zob_held.as, zob_held.rs, Int, fun x => zob_held N x.1 x.2.1 x.2.2.1, fun r o => r.1, fun b => (b, ()), fun b => (), none⟩
theorem zob_held.fit (N : Nat) : (zob_held.D N).Fit := ⟨fun _ _ => rfl, fun _ _ => rfl, by kernel_rfl, (fun _ _ h => nomatch h), by kernel_rfl⟩
noncomputable def zob_held.G (N : Nat) : Gam := gamOf [(15, zob_Mix.D N)]
def zob_held.A : Nat → Option LoopAnn := fun _ => none
noncomputable def zob_held.fin (N : Nat) : St → Option Int := resK tb Try.f78.results.toList (decRes (zob_held.D N) zob_held.lc)
theorem zob_held.entry (N : Nat) (rec : List Item → St → Option Int) (x : (argH zob_held.as).den) : seg tb (zob_held.G N) zob_held.A 0 rec (zob_held.fin N) segFuel [.code (bodyOf Try.f78)] (initSt Try.f78 (encArgs zob_held.as x) (encMem zob_held.as x)) = zob_held.e N x.1 x.2.1 x.2.2.1 := by kernel_rfl
theorem zob_held.ok (N : Nat) : FnOk Try.prog 78 (zob_held.D N) := by
  refine FnOk_of tb_ok (Checked.mixed Try.checked) ⟨Try.f78, Try.func78, by kernel_rfl, by kernel_rfl, fun x y h => ⟨zob_held.G N, zob_held.A, N, gamOf_ok (by simp only [List.forall_mem_cons, List.not_mem_nil, false_implies, implies_true, and_true]; exact ⟨zob_Mix.ok N, zob_Mix.fit N⟩), ?_⟩⟩ (zob_held.fit N)
  rw [absFn_n (n0 := 0) rfl (by kernel_rfl)]
  exact (zob_held.entry N _ x).trans h
/-! ### f48: gamehall/zob.Of -/
def zob_Of.as : List MK := [.d true (.prod (.slice 3 (.int .i64)) (.prod (.prod (.slice 3 (.int .i64)) (.slice 3 (.int .i64))) (.prod (.int .i64) (.int .i64))))]
def zob_Of.rs : List (Bool × HT) := [(false, (.d (.int .u64)))]
def zob_Of.lc : List AC := []
def zob_Of.D (N : Nat) : DFn := ⟨zob_Of.as, zob_Of.rs, Int, fun x => zob_Of N x.1, fun r o => r.1, fun b => (b, ()), fun b => (), none⟩
theorem zob_Of.fit (N : Nat) : (zob_Of.D N).Fit := ⟨fun _ _ => rfl, fun _ _ => rfl, by kernel_rfl, (fun _ _ h => nomatch h), by kernel_rfl⟩
noncomputable def zob_Of.G (N : Nat) : Gam := gamOf [(76, zob_turn.D N), (77, zob_square.D N), (78, zob_held.D N)]
def zob_Of.A : Nat → Option LoopAnn := fun k => bif Nat.beq k 0 then some ⟨[1, 3, 14, 15, 16], [], [], [], [], 1, false⟩ else bif Nat.beq k 2 then some ⟨[3, 28, 29], [], [], [], [], 0, false⟩ else bif Nat.beq k 4 then some ⟨[3, 6, 28, 29, 33, 34, 35], [], [], [], [], 0, false⟩ else none
noncomputable def zob_Of.fin (N : Nat) : St → Option Int := resK tb Try.f48.results.toList (decRes (zob_Of.D N) zob_Of.lc)
noncomputable def zob_Of.k0 : List Item := stackAt [.r, .r, .l, .r, .b] (bodyOf Try.f48) []
def zob_Of.st0 (p_ : TPos) (k_ : Int) (t16_ : Int) : St := ⟨[.one .any, .one (.ptr 0 0), .one .any, .one (.int .u64 k_)] ++ List.replicate 10 (.one .any) ++ [.one (.fro 3 (.int .i64) p_.1), .one (.int .i64 (p_.1.length : Int)), .one (.int .i64 t16_)] ++ List.replicate 32 (.one .any), [.var 29 [.fro 3 (.int .i64) p_.1, .fro 3 (.int .i64) p_.2.1.1, .fro 3 (.int .i64) p_.2.1.2, .int .i64 p_.2.2.1, .int .i64 p_.2.2.2]]⟩
noncomputable def zob_Of.k1 : List Item := stackAt [.r, .r, .r, .l, .r, .b] (bodyOf Try.f48) []
def zob_Of.st1 (p_ : TPos) (k_ : Int) (t29_ : Int) : St := ⟨List.replicate 3 (.one .any) ++ [.one (.int .u64 k_)] ++ List.replicate 24 (.one .any) ++ [.agg [.fro 3 (.int .i64) p_.2.1.1, .fro 3 (.int .i64) p_.2.1.2], .one (.int .i64 t29_)] ++ List.replicate 19 (.one .any), []⟩
noncomputable def zob_Of.k2 : List Item := stackAt [.r, .r, .r, .l, .r, .b, .w, .r, .r, .l, .b, .r, .r, .b] (bodyOf Try.f48) []
def zob_Of.st2 (p_ : TPos) (k_ : Int) (o_ : Int) (t29_ : Int) (t33_ : LInt) (t34_ : Int) (t35_ : Int) : St := ⟨List.replicate 3 (.one .any) ++ [.one (.int .u64 k_), .one .any, .one .any, .one (.int .i64 o_)] ++ List.replicate 21 (.one .any) ++ [.agg [.fro 3 (.int .i64) p_.2.1.1, .fro 3 (.int .i64) p_.2.1.2], .one (.int .i64 t29_)] ++ List.replicate 3 (.one .any) ++ [.one (.fro 3 (.int .i64) t33_), .one (.int .i64 t34_), .one (.int .i64 t35_)] ++ List.replicate 13 (.one .any), []⟩
theorem zob_Of.step0 (N : Nat) (rec : List Item → St → Option Int) (p_ : TPos) (k_ : Int) (t16_ : Int) : seg tb (zob_Of.G N) zob_Of.A 0 rec (zob_Of.fin N) segFuel (loopBody zob_Of.k0) (zob_Of.st0 p_ k_ t16_) = zob_Of.s0 N p_ (fun k_ t16_ => rec zob_Of.k0 (zob_Of.st0 p_ k_ t16_)) (fun k_ t29_ => rec zob_Of.k1 (zob_Of.st1 p_ k_ t29_)) (fun k_ o_ t29_ t33_ t34_ t35_ => rec zob_Of.k2 (zob_Of.st2 p_ k_ o_ t29_ t33_ t34_ t35_)) k_ t16_ := by kernel_rfl
theorem zob_Of.step1 (N : Nat) (rec : List Item → St → Option Int) (p_ : TPos) (k_ : Int) (t29_ : Int) : seg tb (zob_Of.G N) zob_Of.A 0 rec (zob_Of.fin N) segFuel (loopBody zob_Of.k1) (zob_Of.st1 p_ k_ t29_) = zob_Of.s1 N p_ (fun k_ t16_ => rec zob_Of.k0 (zob_Of.st0 p_ k_ t16_)) (fun k_ t29_ => rec zob_Of.k1 (zob_Of.st1 p_ k_ t29_)) (fun k_ o_ t29_ t33_ t34_ t35_ => rec zob_Of.k2 (zob_Of.st2 p_ k_ o_ t29_ t33_ t34_ t35_)) k_ t29_ := by kernel_rfl
theorem zob_Of.step2 (N : Nat) (rec : List Item → St → Option Int) (p_ : TPos) (k_ : Int) (o_ : Int) (t29_ : Int) (t33_ : LInt) (t34_ : Int) (t35_ : Int) : seg tb (zob_Of.G N) zob_Of.A 0 rec (zob_Of.fin N) segFuel (loopBody zob_Of.k2) (zob_Of.st2 p_ k_ o_ t29_ t33_ t34_ t35_) = zob_Of.s2 N p_ (fun k_ t16_ => rec zob_Of.k0 (zob_Of.st0 p_ k_ t16_)) (fun k_ t29_ => rec zob_Of.k1 (zob_Of.st1 p_ k_ t29_)) (fun k_ o_ t29_ t33_ t34_ t35_ => rec zob_Of.k2 (zob_Of.st2 p_ k_ o_ t29_ t33_ t34_ t35_)) k_ o_ t29_ t33_ t34_ t35_ := by kernel_rfl
theorem zob_Of.entry (N : Nat) (rec : List Item → St → Option Int) (x : (argH zob_Of.as).den) : seg tb (zob_Of.G N) zob_Of.A 0 rec (zob_Of.fin N) segFuel [.code (bodyOf Try.f48)] (initSt Try.f48 (encArgs zob_Of.as x) (encMem zob_Of.as x)) = zob_Of.e N (fun k_ t16_ => rec zob_Of.k0 (zob_Of.st0 x.1 k_ t16_)) (fun k_ t29_ => rec zob_Of.k1 (zob_Of.st1 x.1 k_ t29_)) (fun k_ o_ t29_ t33_ t34_ t35_ => rec zob_Of.k2 (zob_Of.st2 x.1 k_ o_ t29_ t33_ t34_ t35_)) x.1 := by kernel_rfl
theorem zob_Of.runs (N : Nat) (p_ : TPos) : ∀ n, (∀ (k_ : Int) (t16_ : Int), run tb (zob_Of.G N) zob_Of.A 0 (zob_Of.fin N) n zob_Of.k0 (zob_Of.st0 p_ k_ t16_) = zob_Of.l0 N p_ n k_ t16_) ∧ (∀ (k_ : Int) (t29_ : Int), run tb (zob_Of.G N) zob_Of.A 0 (zob_Of.fin N) n zob_Of.k1 (zob_Of.st1 p_ k_ t29_) = zob_Of.l1 N p_ n k_ t29_) ∧ (∀ (k_ : Int) (o_ : Int) (t29_ : Int) (t33_ : LInt) (t34_ : Int) (t35_ : Int), run tb (zob_Of.G N) zob_Of.A 0 (zob_Of.fin N) n zob_Of.k2 (zob_Of.st2 p_ k_ o_ t29_ t33_ t34_ t35_) = zob_Of.l2 N p_ n k_ o_ t29_ t33_ t34_ t35_)
  | 0 => ⟨fun _ _ => rfl, fun _ _ => rfl, fun _ _ _ _ _ _ => rfl⟩
  | n + 1 => by
    obtain ⟨h0, h1, h2⟩ := zob_Of.runs N p_ n
    have e0 : (fun (k_ : Int) (t16_ : Int) => run tb (zob_Of.G N) zob_Of.A 0 (zob_Of.fin N) n zob_Of.k0 (zob_Of.st0 p_ k_ t16_)) = zob_Of.l0 N p_ n := by funext k_ t16_; exact h0 k_ t16_
    have e1 : (fun (k_ : Int) (t29_ : Int) => run tb (zob_Of.G N) zob_Of.A 0 (zob_Of.fin N) n zob_Of.k1 (zob_Of.st1 p_ k_ t29_)) = zob_Of.l1 N p_ n := by funext k_ t29_; exact h1 k_ t29_
    have e2 : (fun (k_ : Int) (o_ : Int) (t29_ : Int) (t33_ : LInt) (t34_ : Int) (t35_ : Int) => run tb (zob_Of.G N) zob_Of.A 0 (zob_Of.fin N) n zob_Of.k2 (zob_Of.st2 p_ k_ o_ t29_ t33_ t34_ t35_)) = zob_Of.l2 N p_ n := by funext k_ o_ t29_ t33_ t34_ t35_; exact h2 k_ o_ t29_ t33_ t34_ t35_
    have g0 : (∀ (k_ : Int) (t16_ : Int), run tb (zob_Of.G N) zob_Of.A 0 (zob_Of.fin N) (n + 1) zob_Of.k0 (zob_Of.st0 p_ k_ t16_) = zob_Of.l0 N p_ (n + 1) k_ t16_) := by
      intro k_ t16_
      exact (run_succ (by kernel_rfl)).trans ((zob_Of.step0 N _ p_ k_ t16_).trans ((congr (congr (congrArg (fun r0 r1 r2 => zob_Of.s0 N p_ r0 r1 r2 k_ t16_) e0) e1) e2).trans (zob_Of.l0_s N p_ n k_ t16_).symm))
    have g1 : (∀ (k_ : Int) (t29_ : Int), run tb (zob_Of.G N) zob_Of.A 0 (zob_Of.fin N) (n + 1) zob_Of.k1 (zob_Of.st1 p_ k_ t29_) = zob_Of.l1 N p_ (n + 1) k_ t29_) := by
      intro k_ t29_
      exact (run_succ (by kernel_rfl)).trans ((zob_Of.step1 N _ p_ k_ t29_).trans ((congr (congr (congrArg (fun r0 r1 r2 => zob_Of.s1 N p_ r0 r1 r2 k_ t29_) e0) e1) e2).trans (zob_Of.l1_s N p_ n k_ t29_).symm))
    have g2 : (∀ (k_ : Int) (o_ : Int) (t29_ : Int) (t33_ : LInt) (t34_ : Int) (t35_ : Int), run tb (zob_Of.G N) zob_Of.A 0 (zob_Of.fin N) (n + 1) zob_Of.k2 (zob_Of.st2 p_ k_ o_ t29_ t33_ t34_ t35_) = zob_Of.l2 N p_ (n + 1) k_ o_ t29_ t33_ t34_ t35_) := by
      intro k_ o_ t29_ t33_ t34_ t35_
      exact (run_succ (by kernel_rfl)).trans ((zob_Of.step2 N _ p_ k_ o_ t29_ t33_ t34_ t35_).trans ((congr (congr (congrArg (fun r0 r1 r2 => zob_Of.s2 N p_ r0 r1 r2 k_ o_ t29_ t33_ t34_ t35_) e0) e1) e2).trans (zob_Of.l2_s N p_ n k_ o_ t29_ t33_ t34_ t35_).symm))
    exact ⟨g0, g1, g2⟩
theorem zob_Of.ok (N : Nat) : FnOk Try.prog 48 (zob_Of.D N) := by
  refine FnOk_of tb_ok (Checked.mixed Try.checked) ⟨Try.f48, Try.func48, by kernel_rfl, by kernel_rfl, fun x y h => ⟨zob_Of.G N, zob_Of.A, N, gamOf_ok (by simp only [List.forall_mem_cons, List.not_mem_nil, false_implies, implies_true, and_true]; exact ⟨⟨zob_turn.ok N, zob_turn.fit N⟩, ⟨zob_square.ok N, zob_square.fit N⟩, ⟨zob_held.ok N, zob_held.fit N⟩⟩), ?_⟩⟩ (zob_Of.fit N)
  rw [absFn_n (n0 := 0) rfl (by kernel_rfl)]
  refine (zob_Of.entry N (run tb (zob_Of.G N) zob_Of.A 0 (zob_Of.fin N) N) x).trans ?_
  have e0 : (fun (k_ : Int) (t16_ : Int) => run tb (zob_Of.G N) zob_Of.A 0 (zob_Of.fin N) N zob_Of.k0 (zob_Of.st0 x.1 k_ t16_)) = zob_Of.l0 N x.1 N := by funext k_ t16_; exact (zob_Of.runs N x.1 N).1 k_ t16_
  have e1 : (fun (k_ : Int) (t29_ : Int) => run tb (zob_Of.G N) zob_Of.A 0 (zob_Of.fin N) N zob_Of.k1 (zob_Of.st1 x.1 k_ t29_)) = zob_Of.l1 N x.1 N := by funext k_ t29_; exact (zob_Of.runs N x.1 N).2.1 k_ t29_
  have e2 : (fun (k_ : Int) (o_ : Int) (t29_ : Int) (t33_ : LInt) (t34_ : Int) (t35_ : Int) => run tb (zob_Of.G N) zob_Of.A 0 (zob_Of.fin N) N zob_Of.k2 (zob_Of.st2 x.1 k_ o_ t29_ t33_ t34_ t35_)) = zob_Of.l2 N x.1 N := by funext k_ o_ t29_ t33_ t34_ t35_; exact (zob_Of.runs N x.1 N).2.2 k_ o_ t29_ t33_ t34_ t35_
  have h' : (zob_Of.D N).f x = zob_Of.e N (zob_Of.l0 N x.1 N) (zob_Of.l1 N x.1 N) (zob_Of.l2 N x.1 N) x.1 := by kernel_rfl
  exact (congr (congr (congrArg (fun r0 r1 r2 => zob_Of.e N r0 r1 r2 x.1) e0) e1) e2).trans (h'.symm.trans h)
/-! ### f27: gamehall/board.New -/
def board_New.as : List MK := [.d true (.prod .str (.prod (.int .i64) (.prod (.int .i64) (.prod (.slice 107 (.prod (.int .u8) (.prod (.int .i64) (.prod (.int .i64) (.slice 127 (.prod (.int .i64) (.prod (.int .i64) (.prod (.int .i64) (.int .i64))))))))) (.prod (.slice 3 (.int .i64)) (.prod .bool (.prod .bool (.prod (.slice 109 (.prod (.int .i64) (.prod (.int .i64) (.prod (.int .i64) .bool)))) (.prod (.int .i64) (.prod (.int .i64) (.int .i64))))))))))), .d true (.prod (.slice 3 (.int .i64)) (.prod (.prod (.slice 3 (.int .i64)) (.slice 3 (.int .i64))) (.prod (.int .i64) (.int .i64))))]
def board_New.rs : List (Bool × HT) := [(false, (.opt 115 (.prod (.prod (.d .str) (.prod (.d (.int .i64)) (.prod (.d (.int .i64)) (.prod (.own 107 (.prod (.int .u8) (.prod (.int .i64) (.prod (.int .i64) (.slice 127 (.prod (.int .i64) (.prod (.int .i64) (.prod (.int .i64) (.int .i64))))))))) (.prod (.own 3 (.int .i64)) (.prod (.d .bool) (.prod (.d .bool) (.prod (.own 109 (.prod (.int .i64) (.prod (.int .i64) (.prod (.int .i64) .bool)))) (.d (.prod (.int .i64) (.prod (.int .i64) (.int .i64)))))))))))) (.prod (.prod (.own 3 (.int .i64)) (.prod (.prod (.own 3 (.int .i64)) (.own 3 (.int .i64))) (.d (.prod (.int .i64) (.int .i64))))) (.prod (.d (.int .u64)) (.own 144 (.prod (.prod (.int .i64) (.prod (.int .i64) (.int .i64))) (.prod (.int .i64) (.prod (.int .i64) (.prod .bool (.prod (.int .i64) (.int .u64)))))))))))), (false, (.d (.int .i64)))]
def board_New.lc : List AC := []
def board_New.D (N : Nat) : DFn := ⟨board_New.as, board_New.rs, ((Option TBoard) × Int), fun x => board_New N x.1 x.2.1, fun r o => (r.1, r.2.1), fun b => (b.1, (b.2, ())), fun b => (), none⟩
theorem board_New.fit (N : Nat) : (board_New.D N).Fit := ⟨fun _ _ => rfl, fun _ _ => rfl, by kernel_rfl, (fun _ _ h => nomatch h), by kernel_rfl⟩
noncomputable def board_New.G (N : Nat) : Gam := gamOf [(37, place_Check.D N), (46, rules_Copy.D N), (47, place_Copy.D N), (48, zob_Of.D N)]
def board_New.A : Nat → Option LoopAnn := fun _ => none
noncomputable def board_New.fin (N : Nat) : St → Option ((Option TBoard) × Int) := resK tb Try.f27.results.toList (decRes (board_New.D N) board_New.lc)
theorem board_New.entry (N : Nat) (rec : List Item → St → Option ((Option TBoard) × Int)) (x : (argH board_New.as).den) : seg tb (board_New.G N) board_New.A 0 rec (board_New.fin N) segFuel [.code (bodyOf Try.f27)] (initSt Try.f27 (encArgs board_New.as x) (encMem board_New.as x)) = board_New.e N x.1 x.2.1 := by kernel_rfl
theorem board_New.ok (N : Nat) : FnOk Try.prog 27 (board_New.D N) := by
  refine FnOk_of tb_ok (Checked.mixed Try.checked) ⟨Try.f27, Try.func27, by kernel_rfl, by kernel_rfl, fun x y h => ⟨board_New.G N, board_New.A, N, gamOf_ok (by simp only [List.forall_mem_cons, List.not_mem_nil, false_implies, implies_true, and_true]; exact ⟨⟨place_Check.ok N, place_Check.fit N⟩, ⟨rules_Copy.ok N, rules_Copy.fit N⟩, ⟨place_Copy.ok N, place_Copy.fit N⟩, ⟨zob_Of.ok N, zob_Of.fit N⟩⟩), ?_⟩⟩ (board_New.fit N)
  rw [absFn_n (n0 := 0) rfl (by kernel_rfl)]
  exact (board_New.entry N _ x).trans h
/-! ### f13: gamehall/walk.NewSource -/
def walk_NewSource.as : List MK := [.d false (.int .i64)]
def walk_NewSource.rs : List (Bool × HT) := [(false, (.opt 90 (.d (.int .i64)))), (false, (.d (.int .i64)))]
def walk_NewSource.lc : List AC := []
def walk_NewSource.D (N : Nat) : DFn := ⟨walk_NewSource.as, walk_NewSource.rs, ((Option Int) × Int), fun x => walk_NewSource N x.1, fun r o => (r.1, r.2.1), fun b => (b.1, (b.2, ())), fun b => (), none⟩
theorem walk_NewSource.fit (N : Nat) : (walk_NewSource.D N).Fit := ⟨fun _ _ => rfl, fun _ _ => rfl, by kernel_rfl, (fun _ _ h => nomatch h), by kernel_rfl⟩
noncomputable def walk_NewSource.G (N : Nat) : Gam := gamOf []
def walk_NewSource.A : Nat → Option LoopAnn := fun _ => none
noncomputable def walk_NewSource.fin (N : Nat) : St → Option ((Option Int) × Int) := resK tb Try.f13.results.toList (decRes (walk_NewSource.D N) walk_NewSource.lc)
theorem walk_NewSource.entry (N : Nat) (rec : List Item → St → Option ((Option Int) × Int)) (x : (argH walk_NewSource.as).den) : seg tb (walk_NewSource.G N) walk_NewSource.A 0 rec (walk_NewSource.fin N) segFuel [.code (bodyOf Try.f13)] (initSt Try.f13 (encArgs walk_NewSource.as x) (encMem walk_NewSource.as x)) = walk_NewSource.e N x.1 := by kernel_rfl
theorem walk_NewSource.ok (N : Nat) : FnOk Try.prog 13 (walk_NewSource.D N) := by
  refine FnOk_of tb_ok (Checked.mixed Try.checked) ⟨Try.f13, Try.func13, by kernel_rfl, by kernel_rfl, fun x y h => ⟨walk_NewSource.G N, walk_NewSource.A, N, gamOf_ok (fun p hp => nomatch hp), ?_⟩⟩ (walk_NewSource.fit N)
  rw [absFn_n (n0 := 0) rfl (by kernel_rfl)]
  exact (walk_NewSource.entry N _ x).trans h
/-! ### f62: gamehall/moves.Owner -/
def moves_Owner.as : List MK := [.d false (.int .i64)]
def moves_Owner.rs : List (Bool × HT) := [(false, (.d (.int .i64)))]
def moves_Owner.lc : List AC := []
def moves_Owner.D (N : Nat) : DFn := ⟨moves_Owner.as, moves_Owner.rs, Int, fun x => moves_Owner N x.1, fun r o => r.1, fun b => (b, ()), fun b => (), none⟩
theorem moves_Owner.fit (N : Nat) : (moves_Owner.D N).Fit := ⟨fun _ _ => rfl, fun _ _ => rfl, by kernel_rfl, (fun _ _ h => nomatch h), by kernel_rfl⟩
noncomputable def moves_Owner.G (N : Nat) : Gam := gamOf []
def moves_Owner.A : Nat → Option LoopAnn := fun _ => none
noncomputable def moves_Owner.fin (N : Nat) : St → Option Int := resK tb Try.f62.results.toList (decRes (moves_Owner.D N) moves_Owner.lc)
theorem moves_Owner.entry (N : Nat) (rec : List Item → St → Option Int) (x : (argH moves_Owner.as).den) : seg tb (moves_Owner.G N) moves_Owner.A 0 rec (moves_Owner.fin N) segFuel [.code (bodyOf Try.f62)] (initSt Try.f62 (encArgs moves_Owner.as x) (encMem moves_Owner.as x)) = moves_Owner.e N x.1 := by kernel_rfl
theorem moves_Owner.ok (N : Nat) : FnOk Try.prog 62 (moves_Owner.D N) := by
  refine FnOk_of tb_ok (Checked.mixed Try.checked) ⟨Try.f62, Try.func62, by kernel_rfl, by kernel_rfl, fun x y h => ⟨moves_Owner.G N, moves_Owner.A, N, gamOf_ok (fun p hp => nomatch hp), ?_⟩⟩ (moves_Owner.fit N)
  rw [absFn_n (n0 := 0) rfl (by kernel_rfl)]
  exact (moves_Owner.entry N _ x).trans h
/-! ### f92: gamehall/ends.row -/
def ends_row.as : List MK := [.d true (.prod .str (.prod (.int .i64) (.prod (.int .i64) (.prod (.slice 107 (.prod (.int .u8) (.prod (.int .i64) (.prod (.int .i64) (.slice 127 (.prod (.int .i64) (.prod (.int .i64) (.prod (.int .i64) (.int .i64))))))))) (.prod (.slice 3 (.int .i64)) (.prod .bool (.prod .bool (.prod (.slice 109 (.prod (.int .i64) (.prod (.int .i64) (.prod (.int .i64) .bool)))) (.prod (.int .i64) (.prod (.int .i64) (.int .i64))))))))))), .d true (.prod (.slice 3 (.int .i64)) (.prod (.prod (.slice 3 (.int .i64)) (.slice 3 (.int .i64))) (.prod (.int .i64) (.int .i64)))), .d false (.int .i64), .d false (.int .i64)]
def ends_row.rs : List (Bool × HT) := [(false, (.d .bool))]
def ends_row.lc : List AC := []
def ends_row.D (N : Nat) : DFn := ⟨ends_row.as, ends_row.rs, Bool, fun x => ends_row N x.1 x.2.1 x.2.2.1 x.2.2.2.1, fun r o => r.1, fun b => (b, ()), fun b => (), none⟩
theorem ends_row.fit (N : Nat) : (ends_row.D N).Fit := ⟨fun _ _ => rfl, fun _ _ => rfl, by kernel_rfl, (fun _ _ h => nomatch h), by kernel_rfl⟩
noncomputable def ends_row.G (N : Nat) : Gam := gamOf [(62, moves_Owner.D N)]
def ends_row.A : Nat → Option LoopAnn := fun k => bif Nat.beq k 0 then some ⟨[2, 3, 4, 5, 17, 18], [], [], [], [], 2, false⟩ else bif Nat.beq k 2 then some ⟨[2, 3, 4, 5, 9, 17, 18, 25, 26], [], [], [], [], 2, false⟩ else bif Nat.beq k 4 then some ⟨[2, 3, 4, 5, 9, 11, 12, 13, 14, 17, 18, 25, 26], [], [], [], [], 3, false⟩ else none
noncomputable def ends_row.fin (N : Nat) : St → Option Bool := resK tb Try.f92.results.toList (decRes (ends_row.D N) ends_row.lc)
noncomputable def ends_row.k0 : List Item := stackAt [.r, .l, .r, .b] (bodyOf Try.f92) []
def ends_row.st0 (r_ : TRules) (p_ : TPos) (player : Int) (count : Int) (t18_ : Int) : St := ⟨[.one .any, .one .any, .one (.int .i64 player), .one (.int .i64 count), .one (.ptr 0 0), .one (.ptr 1 0)] ++ List.replicate 11 (.one .any) ++ [.one (.int .i64 (p_.1.length : Int)), .one (.int .i64 t18_)] ++ List.replicate 71 (.one .any), [.var 26 [.str r_.1, .int .i64 r_.2.1, .int .i64 r_.2.2.1, .fro 107 (.prod (.int .u8) (.prod (.int .i64) (.prod (.int .i64) (.slice 127 (.prod (.int .i64) (.prod (.int .i64) (.prod (.int .i64) (.int .i64)))))))) r_.2.2.2.1, .fro 3 (.int .i64) r_.2.2.2.2.1, .bool r_.2.2.2.2.2.1, .bool r_.2.2.2.2.2.2.1, .fro 109 (.prod (.int .i64) (.prod (.int .i64) (.prod (.int .i64) .bool))) r_.2.2.2.2.2.2.2.1, .int .i64 r_.2.2.2.2.2.2.2.2.1, .int .i64 r_.2.2.2.2.2.2.2.2.2.1, .int .i64 r_.2.2.2.2.2.2.2.2.2.2], .var 29 [.fro 3 (.int .i64) p_.1, .fro 3 (.int .i64) p_.2.1.1, .fro 3 (.int .i64) p_.2.1.2, .int .i64 p_.2.2.1, .int .i64 p_.2.2.2]]⟩
noncomputable def ends_row.k1 : List Item := stackAt [.r, .l, .r, .b, .w, .r, .r, .l, .b, .r, .r, .b] (bodyOf Try.f92) []
def ends_row.st1 (r_ : TRules) (p_ : TPos) (player : Int) (count : Int) (s_ : Int) (t18_ : Int) (t26_ : Int) : St := ⟨[.one .any, .one .any, .one (.int .i64 player), .one (.int .i64 count), .one (.ptr 0 0), .one (.ptr 1 0)] ++ List.replicate 3 (.one .any) ++ [.one (.int .i64 s_)] ++ List.replicate 7 (.one .any) ++ [.one (.int .i64 (p_.1.length : Int)), .one (.int .i64 t18_)] ++ List.replicate 6 (.one .any) ++ [.agg [.int .i64 1, .int .i64 0, .int .i64 0, .int .i64 1, .int .i64 1, .int .i64 1, .int .i64 1, .int .i64 (-1)], .one (.int .i64 t26_)] ++ List.replicate 63 (.one .any), [.var 26 [.str r_.1, .int .i64 r_.2.1, .int .i64 r_.2.2.1, .fro 107 (.prod (.int .u8) (.prod (.int .i64) (.prod (.int .i64) (.slice 127 (.prod (.int .i64) (.prod (.int .i64) (.prod (.int .i64) (.int .i64)))))))) r_.2.2.2.1, .fro 3 (.int .i64) r_.2.2.2.2.1, .bool r_.2.2.2.2.2.1, .bool r_.2.2.2.2.2.2.1, .fro 109 (.prod (.int .i64) (.prod (.int .i64) (.prod (.int .i64) .bool))) r_.2.2.2.2.2.2.2.1, .int .i64 r_.2.2.2.2.2.2.2.2.1, .int .i64 r_.2.2.2.2.2.2.2.2.2.1, .int .i64 r_.2.2.2.2.2.2.2.2.2.2], .var 29 [.fro 3 (.int .i64) p_.1, .fro 3 (.int .i64) p_.2.1.1, .fro 3 (.int .i64) p_.2.1.2, .int .i64 p_.2.2.1, .int .i64 p_.2.2.2]]⟩
noncomputable def ends_row.k2 : List Item := stackAt [.r, .l, .r, .b, .w, .r, .r, .l, .b, .r, .r, .b, .w, .r, .r, .l, .b, .r, .r, .l, .b] (bodyOf Try.f92) []
def ends_row.st2 (r_ : TRules) (p_ : TPos) (player : Int) (count : Int) (s_ : Int) (x_ : Int) (y_ : Int) (n_ : Int) (t18_ : Int) (t26_ : Int) (d_ : Int) (d_2 : Int) : St := ⟨[.one .any, .one .any, .one (.int .i64 player), .one (.int .i64 count), .one (.ptr 0 0), .one (.ptr 1 0)] ++ List.replicate 3 (.one .any) ++ [.one (.int .i64 s_), .one .any, .one (.ptr 2 0), .one (.int .i64 x_), .one (.int .i64 y_), .one (.int .i64 n_), .one .any, .one .any, .one (.int .i64 (p_.1.length : Int)), .one (.int .i64 t18_)] ++ List.replicate 6 (.one .any) ++ [.agg [.int .i64 1, .int .i64 0, .int .i64 0, .int .i64 1, .int .i64 1, .int .i64 1, .int .i64 1, .int .i64 (-1)], .one (.int .i64 t26_)] ++ List.replicate 63 (.one .any), [.var 26 [.str r_.1, .int .i64 r_.2.1, .int .i64 r_.2.2.1, .fro 107 (.prod (.int .u8) (.prod (.int .i64) (.prod (.int .i64) (.slice 127 (.prod (.int .i64) (.prod (.int .i64) (.prod (.int .i64) (.int .i64)))))))) r_.2.2.2.1, .fro 3 (.int .i64) r_.2.2.2.2.1, .bool r_.2.2.2.2.2.1, .bool r_.2.2.2.2.2.2.1, .fro 109 (.prod (.int .i64) (.prod (.int .i64) (.prod (.int .i64) .bool))) r_.2.2.2.2.2.2.2.1, .int .i64 r_.2.2.2.2.2.2.2.2.1, .int .i64 r_.2.2.2.2.2.2.2.2.2.1, .int .i64 r_.2.2.2.2.2.2.2.2.2.2], .var 29 [.fro 3 (.int .i64) p_.1, .fro 3 (.int .i64) p_.2.1.1, .fro 3 (.int .i64) p_.2.1.2, .int .i64 p_.2.2.1, .int .i64 p_.2.2.2], .var 169 [.int .i64 d_, .int .i64 d_2]]⟩
theorem ends_row.step0 (N : Nat) (rec : List Item → St → Option Bool) (r_ : TRules) (p_ : TPos) (player : Int) (count : Int) (t18_ : Int) : seg tb (ends_row.G N) ends_row.A 0 rec (ends_row.fin N) segFuel (loopBody ends_row.k0) (ends_row.st0 r_ p_ player count t18_) = ends_row.s0 N r_ p_ player count (fun t18_ => rec ends_row.k0 (ends_row.st0 r_ p_ player count t18_)) (fun s_ t18_ t26_ => rec ends_row.k1 (ends_row.st1 r_ p_ player count s_ t18_ t26_)) (fun s_ x_ y_ n_ t18_ t26_ d_ d_2 => rec ends_row.k2 (ends_row.st2 r_ p_ player count s_ x_ y_ n_ t18_ t26_ d_ d_2)) t18_ := by kernel_rfl
theorem ends_row.step1 (N : Nat) (rec : List Item → St → Option Bool) (r_ : TRules) (p_ : TPos) (player : Int) (count : Int) (s_ : Int) (t18_ : Int) (t26_ : Int) : seg tb (ends_row.G N) ends_row.A 0 rec (ends_row.fin N) segFuel (loopBody ends_row.k1) (ends_row.st1 r_ p_ player count s_ t18_ t26_) = ends_row.s1 N r_ p_ player count (fun t18_ => rec ends_row.k0 (ends_row.st0 r_ p_ player count t18_)) (fun s_ t18_ t26_ => rec ends_row.k1 (ends_row.st1 r_ p_ player count s_ t18_ t26_)) (fun s_ x_ y_ n_ t18_ t26_ d_ d_2 => rec ends_row.k2 (ends_row.st2 r_ p_ player count s_ x_ y_ n_ t18_ t26_ d_ d_2)) s_ t18_ t26_ := by kernel_rfl
theorem ends_row.step2 (N : Nat) (rec : List Item → St → Option Bool) (r_ : TRules) (p_ : TPos) (player : Int) (count : Int) (s_ : Int) (x_ : Int) (y_ : Int) (n_ : Int) (t18_ : Int) (t26_ : Int) (d_ : Int) (d_2 : Int) : seg tb (ends_row.G N) ends_row.A 0 rec (ends_row.fin N) segFuel (loopBody ends_row.k2) (ends_row.st2 r_ p_ player count s_ x_ y_ n_ t18_ t26_ d_ d_2) = ends_row.s2 N r_ p_ player count (fun t18_ => rec ends_row.k0 (ends_row.st0 r_ p_ player count t18_)) (fun s_ t18_ t26_ => rec ends_row.k1 (ends_row.st1 r_ p_ player count s_ t18_ t26_)) (fun s_ x_ y_ n_ t18_ t26_ d_ d_2 => rec ends_row.k2 (ends_row.st2 r_ p_ player count s_ x_ y_ n_ t18_ t26_ d_ d_2)) s_ x_ y_ n_ t18_ t26_ d_ d_2 := by kernel_rfl
theorem ends_row.entry (N : Nat) (rec : List Item → St → Option Bool) (x : (argH ends_row.as).den) : seg tb (ends_row.G N) ends_row.A 0 rec (ends_row.fin N) segFuel [.code (bodyOf Try.f92)] (initSt Try.f92 (encArgs ends_row.as x) (encMem ends_row.as x)) = ends_row.e N (fun t18_ => rec ends_row.k0 (ends_row.st0 x.1 x.2.1 x.2.2.1 x.2.2.2.1 t18_)) (fun s_ t18_ t26_ => rec ends_row.k1 (ends_row.st1 x.1 x.2.1 x.2.2.1 x.2.2.2.1 s_ t18_ t26_)) (fun s_ x_ y_ n_ t18_ t26_ d_ d_2 => rec ends_row.k2 (ends_row.st2 x.1 x.2.1 x.2.2.1 x.2.2.2.1 s_ x_ y_ n_ t18_ t26_ d_ d_2)) x.1 x.2.1 x.2.2.1 x.2.2.2.1 := by kernel_rfl
theorem ends_row.runs (N : Nat) (r_ : TRules) (p_ : TPos) (player : Int) (count : Int) : ∀ n, (∀ (t18_ : Int), run tb (ends_row.G N) ends_row.A 0 (ends_row.fin N) n ends_row.k0 (ends_row.st0 r_ p_ player count t18_) = ends_row.l0 N r_ p_ player count n t18_) ∧ (∀ (s_ : Int) (t18_ : Int) (t26_ : Int), run tb (ends_row.G N) ends_row.A 0 (ends_row.fin N) n ends_row.k1 (ends_row.st1 r_ p_ player count s_ t18_ t26_) = ends_row.l1 N r_ p_ player count n s_ t18_ t26_) ∧ (∀ (s_ : Int) (x_ : Int) (y_ : Int) (n_ : Int) (t18_ : Int) (t26_ : Int) (d_ : Int) (d_2 : Int), run tb (ends_row.G N) ends_row.A 0 (ends_row.fin N) n ends_row.k2 (ends_row.st2 r_ p_ player count s_ x_ y_ n_ t18_ t26_ d_ d_2) = ends_row.l2 N r_ p_ player count n s_ x_ y_ n_ t18_ t26_ d_ d_2)
  | 0 => ⟨fun _ => rfl, fun _ _ _ => rfl, fun _ _ _ _ _ _ _ _ => rfl⟩
  | n + 1 => by
    obtain ⟨h0, h1, h2⟩ := ends_row.runs N r_ p_ player count n
    have e0 : (fun (t18_ : Int) => run tb (ends_row.G N) ends_row.A 0 (ends_row.fin N) n ends_row.k0 (ends_row.st0 r_ p_ player count t18_)) = ends_row.l0 N r_ p_ player count n := by funext t18_; exact h0 t18_
    have e1 : (fun (s_ : Int) (t18_ : Int) (t26_ : Int) => run tb (ends_row.G N) ends_row.A 0 (ends_row.fin N) n ends_row.k1 (ends_row.st1 r_ p_ player count s_ t18_ t26_)) = ends_row.l1 N r_ p_ player count n := by funext s_ t18_ t26_; exact h1 s_ t18_ t26_
    have e2 : (fun (s_ : Int) (x_ : Int) (y_ : Int) (n_ : Int) (t18_ : Int) (t26_ : Int) (d_ : Int) (d_2 : Int) => run tb (ends_row.G N) ends_row.A 0 (ends_row.fin N) n ends_row.k2 (ends_row.st2 r_ p_ player count s_ x_ y_ n_ t18_ t26_ d_ d_2)) = ends_row.l2 N r_ p_ player count n := by funext s_ x_ y_ n_ t18_ t26_ d_ d_2; exact h2 s_ x_ y_ n_ t18_ t26_ d_ d_2
    have g0 : (∀ (t18_ : Int), run tb (ends_row.G N) ends_row.A 0 (ends_row.fin N) (n + 1) ends_row.k0 (ends_row.st0 r_ p_ player count t18_) = ends_row.l0 N r_ p_ player count (n + 1) t18_) := by
      intro t18_
      exact (run_succ (by kernel_rfl)).trans ((ends_row.step0 N _ r_ p_ player count t18_).trans ((congr (congr (congrArg (fun r0 r1 r2 => ends_row.s0 N r_ p_ player count r0 r1 r2 t18_) e0) e1) e2).trans (ends_row.l0_s N r_ p_ player count n t18_).symm))
    have g1 : (∀ (s_ : Int) (t18_ : Int) (t26_ : Int), run tb (ends_row.G N) ends_row.A 0 (ends_row.fin N) (n + 1) ends_row.k1 (ends_row.st1 r_ p_ player count s_ t18_ t26_) = ends_row.l1 N r_ p_ player count (n + 1) s_ t18_ t26_) := by
      intro s_ t18_ t26_
      exact (run_succ (by kernel_rfl)).trans ((ends_row.step1 N _ r_ p_ player count s_ t18_ t26_).trans ((congr (congr (congrArg (fun r0 r1 r2 => ends_row.s1 N r_ p_ player count r0 r1 r2 s_ t18_ t26_) e0) e1) e2).trans (ends_row.l1_s N r_ p_ player count n s_ t18_ t26_).symm))
    have g2 : (∀ (s_ : Int) (x_ : Int) (y_ : Int) (n_ : Int) (t18_ : Int) (t26_ : Int) (d_ : Int) (d_2 : Int), run tb (ends_row.G N) ends_row.A 0 (ends_row.fin N) (n + 1) ends_row.k2 (ends_row.st2 r_ p_ player count s_ x_ y_ n_ t18_ t26_ d_ d_2) = ends_row.l2 N r_ p_ player count (n + 1) s_ x_ y_ n_ t18_ t26_ d_ d_2) := by
      intro s_ x_ y_ n_ t18_ t26_ d_ d_2
      exact (run_succ (by kernel_rfl)).trans ((ends_row.step2 N _ r_ p_ player count s_ x_ y_ n_ t18_ t26_ d_ d_2).trans ((congr (congr (congrArg (fun r0 r1 r2 => ends_row.s2 N r_ p_ player count r0 r1 r2 s_ x_ y_ n_ t18_ t26_ d_ d_2) e0) e1) e2).trans (ends_row.l2_s N r_ p_ player count n s_ x_ y_ n_ t18_ t26_ d_ d_2).symm))
    exact ⟨g0, g1, g2⟩
theorem ends_row.ok (N : Nat) : FnOk Try.prog 92 (ends_row.D N) := by
  refine FnOk_of tb_ok (Checked.mixed Try.checked) ⟨Try.f92, Try.func92, by kernel_rfl, by kernel_rfl, fun x y h => ⟨ends_row.G N, ends_row.A, N, gamOf_ok (by simp only [List.forall_mem_cons, List.not_mem_nil, false_implies, implies_true, and_true]; exact ⟨moves_Owner.ok N, moves_Owner.fit N⟩), ?_⟩⟩ (ends_row.fit N)
  rw [absFn_n (n0 := 0) rfl (by kernel_rfl)]
  refine (ends_row.entry N (run tb (ends_row.G N) ends_row.A 0 (ends_row.fin N) N) x).trans ?_
  have e0 : (fun (t18_ : Int) => run tb (ends_row.G N) ends_row.A 0 (ends_row.fin N) N ends_row.k0 (ends_row.st0 x.1 x.2.1 x.2.2.1 x.2.2.2.1 t18_)) = ends_row.l0 N x.1 x.2.1 x.2.2.1 x.2.2.2.1 N := by funext t18_; exact (ends_row.runs N x.1 x.2.1 x.2.2.1 x.2.2.2.1 N).1 t18_
  have e1 : (fun (s_ : Int) (t18_ : Int) (t26_ : Int) => run tb (ends_row.G N) ends_row.A 0 (ends_row.fin N) N ends_row.k1 (ends_row.st1 x.1 x.2.1 x.2.2.1 x.2.2.2.1 s_ t18_ t26_)) = ends_row.l1 N x.1 x.2.1 x.2.2.1 x.2.2.2.1 N := by funext s_ t18_ t26_; exact (ends_row.runs N x.1 x.2.1 x.2.2.1 x.2.2.2.1 N).2.1 s_ t18_ t26_
  have e2 : (fun (s_ : Int) (x_ : Int) (y_ : Int) (n_ : Int) (t18_ : Int) (t26_ : Int) (d_ : Int) (d_2 : Int) => run tb (ends_row.G N) ends_row.A 0 (ends_row.fin N) N ends_row.k2 (ends_row.st2 x.1 x.2.1 x.2.2.1 x.2.2.2.1 s_ x_ y_ n_ t18_ t26_ d_ d_2)) = ends_row.l2 N x.1 x.2.1 x.2.2.1 x.2.2.2.1 N := by funext s_ x_ y_ n_ t18_ t26_ d_ d_2; exact (ends_row.runs N x.1 x.2.1 x.2.2.1 x.2.2.2.1 N).2.2 s_ x_ y_ n_ t18_ t26_ d_ d_2
  have h' : (ends_row.D N).f x = ends_row.e N (ends_row.l0 N x.1 x.2.1 x.2.2.1 x.2.2.2.1 N) (ends_row.l1 N x.1 x.2.1 x.2.2.1 x.2.2.2.1 N) (ends_row.l2 N x.1 x.2.1 x.2.2.1 x.2.2.2.1 N) x.1 x.2.1 x.2.2.1 x.2.2.2.1 := by kernel_rfl
  exact (congr (congr (congrArg (fun r0 r1 r2 => ends_row.e N r0 r1 r2 x.1 x.2.1 x.2.2.1 x.2.2.2.1) e0) e1) e2).trans (h'.symm.trans h)
/-! ### f74: gamehall/moves.Cell -/
def moves_Cell.as : List MK := [.d false (.int .i64), .d false (.int .i64)]
def moves_Cell.rs : List (Bool × HT) := [(false, (.d (.int .i64)))]
def moves_Cell.lc : List AC := []
def moves_Cell.D (N : Nat) : DFn := ⟨moves_Cell.as, moves_Cell.rs, Int, fun x => moves_Cell N x.1 x.2.1, fun r o => r.1, fun b => (b, ()), fun b => (), none⟩
theorem moves_Cell.fit (N : Nat) : (moves_Cell.D N).Fit := ⟨fun _ _ => rfl, fun _ _ => rfl, by kernel_rfl, (fun _ _ h => nomatch h), by kernel_rfl⟩
noncomputable def moves_Cell.G (N : Nat) : Gam := gamOf []
def moves_Cell.A : Nat → Option LoopAnn := fun _ => none
noncomputable def moves_Cell.fin (N : Nat) : St → Option Int := resK tb Try.f74.results.toList (decRes (moves_Cell.D N) moves_Cell.lc)
theorem moves_Cell.entry (N : Nat) (rec : List Item → St → Option Int) (x : (argH moves_Cell.as).den) : seg tb (moves_Cell.G N) moves_Cell.A 0 rec (moves_Cell.fin N) segFuel [.code (bodyOf Try.f74)] (initSt Try.f74 (encArgs moves_Cell.as x) (encMem moves_Cell.as x)) = moves_Cell.e N x.1 x.2.1 := by kernel_rfl
theorem moves_Cell.ok (N : Nat) : FnOk Try.prog 74 (moves_Cell.D N) := by
  refine FnOk_of tb_ok (Checked.mixed Try.checked) ⟨Try.f74, Try.func74, by kernel_rfl, by kernel_rfl, fun x y h => ⟨moves_Cell.G N, moves_Cell.A, N, gamOf_ok (fun p hp => nomatch hp), ?_⟩⟩ (moves_Cell.fit N)
  rw [absFn_n (n0 := 0) rfl (by kernel_rfl)]
  exact (moves_Cell.entry N _ x).trans h
/-! ### f93: gamehall/rules.Far -/
def rules_Far.as : List MK := [.d true (.prod .str (.prod (.int .i64) (.prod (.int .i64) (.prod (.slice 107 (.prod (.int .u8) (.prod (.int .i64) (.prod (.int .i64) (.slice 127 (.prod (.int .i64) (.prod (.int .i64) (.prod (.int .i64) (.int .i64))))))))) (.prod (.slice 3 (.int .i64)) (.prod .bool (.prod .bool (.prod (.slice 109 (.prod (.int .i64) (.prod (.int .i64) (.prod (.int .i64) .bool)))) (.prod (.int .i64) (.prod (.int .i64) (.int .i64))))))))))), .d false (.int .i64), .d false (.int .i64)]
def rules_Far.rs : List (Bool × HT) := [(false, (.d .bool))]
def rules_Far.lc : List AC := []
def rules_Far.D (N : Nat) : DFn := ⟨rules_Far.as, rules_Far.rs, Bool, fun x => rules_Far N x.1 x.2.1 x.2.2.1, fun r o => r.1, fun b => (b, ()), fun b => (), none⟩
theorem rules_Far.fit (N : Nat) : (rules_Far.D N).Fit := ⟨fun _ _ => rfl, fun _ _ => rfl, by kernel_rfl, (fun _ _ h => nomatch h), by kernel_rfl⟩
noncomputable def rules_Far.G (N : Nat) : Gam := gamOf []
def rules_Far.A : Nat → Option LoopAnn := fun _ => none
noncomputable def rules_Far.fin (N : Nat) : St → Option Bool := resK tb Try.f93.results.toList (decRes (rules_Far.D N) rules_Far.lc)
theorem rules_Far.entry (N : Nat) (rec : List Item → St → Option Bool) (x : (argH rules_Far.as).den) : seg tb (rules_Far.G N) rules_Far.A 0 rec (rules_Far.fin N) segFuel [.code (bodyOf Try.f93)] (initSt Try.f93 (encArgs rules_Far.as x) (encMem rules_Far.as x)) = rules_Far.e N x.1 x.2.1 x.2.2.1 := by kernel_rfl
theorem rules_Far.ok (N : Nat) : FnOk Try.prog 93 (rules_Far.D N) := by
  refine FnOk_of tb_ok (Checked.mixed Try.checked) ⟨Try.f93, Try.func93, by kernel_rfl, by kernel_rfl, fun x y h => ⟨rules_Far.G N, rules_Far.A, N, gamOf_ok (fun p hp => nomatch hp), ?_⟩⟩ (rules_Far.fit N)
  rw [absFn_n (n0 := 0) rfl (by kernel_rfl)]
  exact (rules_Far.entry N _ x).trans h
/-! ### f80: gamehall/ends.holds -/
def ends_holds.as : List MK := [.d true (.prod .str (.prod (.int .i64) (.prod (.int .i64) (.prod (.slice 107 (.prod (.int .u8) (.prod (.int .i64) (.prod (.int .i64) (.slice 127 (.prod (.int .i64) (.prod (.int .i64) (.prod (.int .i64) (.int .i64))))))))) (.prod (.slice 3 (.int .i64)) (.prod .bool (.prod .bool (.prod (.slice 109 (.prod (.int .i64) (.prod (.int .i64) (.prod (.int .i64) .bool)))) (.prod (.int .i64) (.prod (.int .i64) (.int .i64))))))))))), .d true (.prod (.slice 3 (.int .i64)) (.prod (.prod (.slice 3 (.int .i64)) (.slice 3 (.int .i64))) (.prod (.int .i64) (.int .i64)))), .d true (.prod (.int .i64) (.prod (.int .i64) (.prod (.int .i64) .bool)))]
def ends_holds.rs : List (Bool × HT) := [(false, (.d .bool))]
def ends_holds.lc : List AC := []
def ends_holds.D (N : Nat) : DFn := ⟨ends_holds.as, ends_holds.rs, Bool, fun x => ends_holds N x.1 x.2.1 x.2.2.1, fun r o => r.1, fun b => (b, ()), fun b => (), none⟩
theorem ends_holds.fit (N : Nat) : (ends_holds.D N).Fit := ⟨fun _ _ => rfl, fun _ _ => rfl, by kernel_rfl, (fun _ _ h => nomatch h), by kernel_rfl⟩
noncomputable def ends_holds.G (N : Nat) : Gam := gamOf [(92, ends_row.D N), (74, moves_Cell.D N), (93, rules_Far.D N)]
def ends_holds.A : Nat → Option LoopAnn := fun k => bif Nat.beq k 1 then some ⟨[3, 5, 7, 29, 30, 31], [], [], [], [1], 3, false⟩ else bif Nat.beq k 3 then some ⟨[4, 5, 10, 50, 51, 52], [], [], [], [0], 3, false⟩ else none
noncomputable def ends_holds.fin (N : Nat) : St → Option Bool := resK tb Try.f80.results.toList (decRes (ends_holds.D N) ends_holds.lc)
noncomputable def ends_holds.k0 : List Item := stackAt [.r, .r, .l, .r, .b, .r, .e, .r, .t, .l, .r, .b] (bodyOf Try.f80) []
def ends_holds.st0 (r_ : TRules) (p_ : TPos) (x_ : TEnd) (t31_ : Int) : St := ⟨List.replicate 3 (.one .any) ++ [.one (.ptr 0 0), .one .any, .one (.ptr 2 0), .one .any, .one (.int .i64 (w64 (1 - p_.2.2.1)))] ++ List.replicate 21 (.one .any) ++ [.one (.fro 3 (.int .i64) p_.1), .one (.int .i64 (p_.1.length : Int)), .one (.int .i64 t31_)] ++ List.replicate 38 (.one .any), [.var 26 [.str r_.1, .int .i64 r_.2.1, .int .i64 r_.2.2.1, .fro 107 (.prod (.int .u8) (.prod (.int .i64) (.prod (.int .i64) (.slice 127 (.prod (.int .i64) (.prod (.int .i64) (.prod (.int .i64) (.int .i64)))))))) r_.2.2.2.1, .fro 3 (.int .i64) r_.2.2.2.2.1, .bool r_.2.2.2.2.2.1, .bool r_.2.2.2.2.2.2.1, .fro 109 (.prod (.int .i64) (.prod (.int .i64) (.prod (.int .i64) .bool))) r_.2.2.2.2.2.2.2.1, .int .i64 r_.2.2.2.2.2.2.2.2.1, .int .i64 r_.2.2.2.2.2.2.2.2.2.1, .int .i64 r_.2.2.2.2.2.2.2.2.2.2], .gone, .var 109 [.int .i64 x_.1, .int .i64 x_.2.1, .int .i64 x_.2.2.1, .bool x_.2.2.2]]⟩
noncomputable def ends_holds.k1 : List Item := stackAt [.r, .r, .r, .r, .l, .r, .b] (bodyOf Try.f80) []
def ends_holds.st1 (r_ : TRules) (p_ : TPos) (x_ : TEnd) (n_ : Int) (t52_ : Int) : St := ⟨List.replicate 4 (.one .any) ++ [.one (.ptr 1 0), .one (.ptr 2 0)] ++ List.replicate 4 (.one .any) ++ [.one (.int .i64 n_)] ++ List.replicate 39 (.one .any) ++ [.one (.fro 3 (.int .i64) p_.1), .one (.int .i64 (p_.1.length : Int)), .one (.int .i64 t52_)] ++ List.replicate 17 (.one .any), [.gone, .var 29 [.fro 3 (.int .i64) p_.1, .fro 3 (.int .i64) p_.2.1.1, .fro 3 (.int .i64) p_.2.1.2, .int .i64 p_.2.2.1, .int .i64 p_.2.2.2], .var 109 [.int .i64 x_.1, .int .i64 x_.2.1, .int .i64 x_.2.2.1, .bool x_.2.2.2]]⟩
theorem ends_holds.step0 (N : Nat) (rec : List Item → St → Option Bool) (r_ : TRules) (p_ : TPos) (x_ : TEnd) (t31_ : Int) : seg tb (ends_holds.G N) ends_holds.A 0 rec (ends_holds.fin N) segFuel (loopBody ends_holds.k0) (ends_holds.st0 r_ p_ x_ t31_) = ends_holds.s0 N r_ p_ x_ (fun t31_ => rec ends_holds.k0 (ends_holds.st0 r_ p_ x_ t31_)) (fun n_ t52_ => rec ends_holds.k1 (ends_holds.st1 r_ p_ x_ n_ t52_)) t31_ := by kernel_rfl
theorem ends_holds.step1 (N : Nat) (rec : List Item → St → Option Bool) (r_ : TRules) (p_ : TPos) (x_ : TEnd) (n_ : Int) (t52_ : Int) : seg tb (ends_holds.G N) ends_holds.A 0 rec (ends_holds.fin N) segFuel (loopBody ends_holds.k1) (ends_holds.st1 r_ p_ x_ n_ t52_) = ends_holds.s1 N r_ p_ x_ (fun t31_ => rec ends_holds.k0 (ends_holds.st0 r_ p_ x_ t31_)) (fun n_ t52_ => rec ends_holds.k1 (ends_holds.st1 r_ p_ x_ n_ t52_)) n_ t52_ := by kernel_rfl
theorem ends_holds.entry (N : Nat) (rec : List Item → St → Option Bool) (x : (argH ends_holds.as).den) : seg tb (ends_holds.G N) ends_holds.A 0 rec (ends_holds.fin N) segFuel [.code (bodyOf Try.f80)] (initSt Try.f80 (encArgs ends_holds.as x) (encMem ends_holds.as x)) = ends_holds.e N (fun t31_ => rec ends_holds.k0 (ends_holds.st0 x.1 x.2.1 x.2.2.1 t31_)) (fun n_ t52_ => rec ends_holds.k1 (ends_holds.st1 x.1 x.2.1 x.2.2.1 n_ t52_)) x.1 x.2.1 x.2.2.1 := by kernel_rfl
theorem ends_holds.runs (N : Nat) (r_ : TRules) (p_ : TPos) (x_ : TEnd) : ∀ n, (∀ (t31_ : Int), run tb (ends_holds.G N) ends_holds.A 0 (ends_holds.fin N) n ends_holds.k0 (ends_holds.st0 r_ p_ x_ t31_) = ends_holds.l0 N r_ p_ x_ n t31_) ∧ (∀ (n_ : Int) (t52_ : Int), run tb (ends_holds.G N) ends_holds.A 0 (ends_holds.fin N) n ends_holds.k1 (ends_holds.st1 r_ p_ x_ n_ t52_) = ends_holds.l1 N r_ p_ x_ n n_ t52_)
  | 0 => ⟨fun _ => rfl, fun _ _ => rfl⟩
  | n + 1 => by
    obtain ⟨h0, h1⟩ := ends_holds.runs N r_ p_ x_ n
    have e0 : (fun (t31_ : Int) => run tb (ends_holds.G N) ends_holds.A 0 (ends_holds.fin N) n ends_holds.k0 (ends_holds.st0 r_ p_ x_ t31_)) = ends_holds.l0 N r_ p_ x_ n := by funext t31_; exact h0 t31_
    have e1 : (fun (n_ : Int) (t52_ : Int) => run tb (ends_holds.G N) ends_holds.A 0 (ends_holds.fin N) n ends_holds.k1 (ends_holds.st1 r_ p_ x_ n_ t52_)) = ends_holds.l1 N r_ p_ x_ n := by funext n_ t52_; exact h1 n_ t52_
    have g0 : (∀ (t31_ : Int), run tb (ends_holds.G N) ends_holds.A 0 (ends_holds.fin N) (n + 1) ends_holds.k0 (ends_holds.st0 r_ p_ x_ t31_) = ends_holds.l0 N r_ p_ x_ (n + 1) t31_) := by
      intro t31_
      exact (run_succ (by kernel_rfl)).trans ((ends_holds.step0 N _ r_ p_ x_ t31_).trans ((congr (congrArg (fun r0 r1 => ends_holds.s0 N r_ p_ x_ r0 r1 t31_) e0) e1).trans (ends_holds.l0_s N r_ p_ x_ n t31_).symm))
    have g1 : (∀ (n_ : Int) (t52_ : Int), run tb (ends_holds.G N) ends_holds.A 0 (ends_holds.fin N) (n + 1) ends_holds.k1 (ends_holds.st1 r_ p_ x_ n_ t52_) = ends_holds.l1 N r_ p_ x_ (n + 1) n_ t52_) := by
      intro n_ t52_
      exact (run_succ (by kernel_rfl)).trans ((ends_holds.step1 N _ r_ p_ x_ n_ t52_).trans ((congr (congrArg (fun r0 r1 => ends_holds.s1 N r_ p_ x_ r0 r1 n_ t52_) e0) e1).trans (ends_holds.l1_s N r_ p_ x_ n n_ t52_).symm))
    exact ⟨g0, g1⟩
theorem ends_holds.ok (N : Nat) : FnOk Try.prog 80 (ends_holds.D N) := by
  refine FnOk_of tb_ok (Checked.mixed Try.checked) ⟨Try.f80, Try.func80, by kernel_rfl, by kernel_rfl, fun x y h => ⟨ends_holds.G N, ends_holds.A, N, gamOf_ok (by simp only [List.forall_mem_cons, List.not_mem_nil, false_implies, implies_true, and_true]; exact ⟨⟨ends_row.ok N, ends_row.fit N⟩, ⟨moves_Cell.ok N, moves_Cell.fit N⟩, ⟨rules_Far.ok N, rules_Far.fit N⟩⟩), ?_⟩⟩ (ends_holds.fit N)
  rw [absFn_n (n0 := 0) rfl (by kernel_rfl)]
  refine (ends_holds.entry N (run tb (ends_holds.G N) ends_holds.A 0 (ends_holds.fin N) N) x).trans ?_
  have e0 : (fun (t31_ : Int) => run tb (ends_holds.G N) ends_holds.A 0 (ends_holds.fin N) N ends_holds.k0 (ends_holds.st0 x.1 x.2.1 x.2.2.1 t31_)) = ends_holds.l0 N x.1 x.2.1 x.2.2.1 N := by funext t31_; exact (ends_holds.runs N x.1 x.2.1 x.2.2.1 N).1 t31_
  have e1 : (fun (n_ : Int) (t52_ : Int) => run tb (ends_holds.G N) ends_holds.A 0 (ends_holds.fin N) N ends_holds.k1 (ends_holds.st1 x.1 x.2.1 x.2.2.1 n_ t52_)) = ends_holds.l1 N x.1 x.2.1 x.2.2.1 N := by funext n_ t52_; exact (ends_holds.runs N x.1 x.2.1 x.2.2.1 N).2 n_ t52_
  have h' : (ends_holds.D N).f x = ends_holds.e N (ends_holds.l0 N x.1 x.2.1 x.2.2.1 N) (ends_holds.l1 N x.1 x.2.1 x.2.2.1 N) x.1 x.2.1 x.2.2.1 := by kernel_rfl
  exact (congr (congrArg (fun r0 r1 => ends_holds.e N r0 r1 x.1 x.2.1 x.2.2.1) e0) e1).trans (h'.symm.trans h)
/-! ### f81: gamehall/ends.wins -/
def ends_wins.as : List MK := [.d false (.int .i64)]
def ends_wins.rs : List (Bool × HT) := [(false, (.d (.int .i64)))]
def ends_wins.lc : List AC := []
def ends_wins.D (N : Nat) : DFn := ⟨ends_wins.as, ends_wins.rs, Int, fun x => ends_wins N x.1, fun r o => r.1, fun b => (b, ()), fun b => (), none⟩
theorem ends_wins.fit (N : Nat) : (ends_wins.D N).Fit := ⟨fun _ _ => rfl, fun _ _ => rfl, by kernel_rfl, (fun _ _ h => nomatch h), by kernel_rfl⟩
noncomputable def ends_wins.G (N : Nat) : Gam := gamOf []
def ends_wins.A : Nat → Option LoopAnn := fun _ => none
noncomputable def ends_wins.fin (N : Nat) : St → Option Int := resK tb Try.f81.results.toList (decRes (ends_wins.D N) ends_wins.lc)
theorem ends_wins.entry (N : Nat) (rec : List Item → St → Option Int) (x : (argH ends_wins.as).den) : seg tb (ends_wins.G N) ends_wins.A 0 rec (ends_wins.fin N) segFuel [.code (bodyOf Try.f81)] (initSt Try.f81 (encArgs ends_wins.as x) (encMem ends_wins.as x)) = ends_wins.e N x.1 := by kernel_rfl
theorem ends_wins.ok (N : Nat) : FnOk Try.prog 81 (ends_wins.D N) := by
  refine FnOk_of tb_ok (Checked.mixed Try.checked) ⟨Try.f81, Try.func81, by kernel_rfl, by kernel_rfl, fun x y h => ⟨ends_wins.G N, ends_wins.A, N, gamOf_ok (fun p hp => nomatch hp), ?_⟩⟩ (ends_wins.fit N)
  rw [absFn_n (n0 := 0) rfl (by kernel_rfl)]
  exact (ends_wins.entry N _ x).trans h
/-! ### f63: gamehall/moves.Kind -/
def moves_Kind.as : List MK := [.d false (.int .i64)]
def moves_Kind.rs : List (Bool × HT) := [(false, (.d (.int .i64)))]
def moves_Kind.lc : List AC := []
def moves_Kind.D (N : Nat) : DFn := ⟨moves_Kind.as, moves_Kind.rs, Int, fun x => moves_Kind N x.1, fun r o => r.1, fun b => (b, ()), fun b => (), none⟩
theorem moves_Kind.fit (N : Nat) : (moves_Kind.D N).Fit := ⟨fun _ _ => rfl, fun _ _ => rfl, by kernel_rfl, (fun _ _ h => nomatch h), by kernel_rfl⟩
noncomputable def moves_Kind.G (N : Nat) : Gam := gamOf []
def moves_Kind.A : Nat → Option LoopAnn := fun _ => none
noncomputable def moves_Kind.fin (N : Nat) : St → Option Int := resK tb Try.f63.results.toList (decRes (moves_Kind.D N) moves_Kind.lc)
theorem moves_Kind.entry (N : Nat) (rec : List Item → St → Option Int) (x : (argH moves_Kind.as).den) : seg tb (moves_Kind.G N) moves_Kind.A 0 rec (moves_Kind.fin N) segFuel [.code (bodyOf Try.f63)] (initSt Try.f63 (encArgs moves_Kind.as x) (encMem moves_Kind.as x)) = moves_Kind.e N x.1 := by kernel_rfl
theorem moves_Kind.ok (N : Nat) : FnOk Try.prog 63 (moves_Kind.D N) := by
  refine FnOk_of tb_ok (Checked.mixed Try.checked) ⟨Try.f63, Try.func63, by kernel_rfl, by kernel_rfl, fun x y h => ⟨moves_Kind.G N, moves_Kind.A, N, gamOf_ok (fun p hp => nomatch hp), ?_⟩⟩ (moves_Kind.fit N)
  rw [absFn_n (n0 := 0) rfl (by kernel_rfl)]
  exact (moves_Kind.entry N _ x).trans h
/-! ### f104: math/bits.Len64 -/
def math_bits_Len64.as : List MK := [.d false (.int .u64)]
def math_bits_Len64.rs : List (Bool × HT) := [(false, (.d (.int .i64)))]
def math_bits_Len64.lc : List AC := []
def math_bits_Len64.D (N : Nat) : DFn := ⟨math_bits_Len64.as, math_bits_Len64.rs, Int, fun x => math_bits_Len64 N x.1, fun r o => r.1, fun b => (b, ()), fun b => (), none⟩
theorem math_bits_Len64.fit (N : Nat) : (math_bits_Len64.D N).Fit := ⟨fun _ _ => rfl, fun _ _ => rfl, by kernel_rfl, (fun _ _ h => nomatch h), by kernel_rfl⟩
noncomputable def math_bits_Len64.G (N : Nat) : Gam := gamOf []
def math_bits_Len64.A : Nat → Option LoopAnn := fun _ => none
noncomputable def math_bits_Len64.fin (N : Nat) : St → Option Int := resK tb Try.f104.results.toList (decRes (math_bits_Len64.D N) math_bits_Len64.lc)
theorem math_bits_Len64.entry (N : Nat) (rec : List Item → St → Option Int) (x : (argH math_bits_Len64.as).den) : seg tb (math_bits_Len64.G N) math_bits_Len64.A 0 rec (math_bits_Len64.fin N) segFuel [.code (bodyOf Try.f104)] (initSt Try.f104 (encArgs math_bits_Len64.as x) (encMem math_bits_Len64.as x)) = math_bits_Len64.e N x.1 := by kernel_rfl
theorem math_bits_Len64.ok (N : Nat) : FnOk Try.prog 104 (math_bits_Len64.D N) := by
  refine FnOk_of tb_ok (Checked.mixed Try.checked) ⟨Try.f104, Try.func104, by kernel_rfl, by kernel_rfl, fun x y h => ⟨math_bits_Len64.G N, math_bits_Len64.A, N, gamOf_ok (fun p hp => nomatch hp), ?_⟩⟩ (math_bits_Len64.fit N)
  rw [absFn_n (n0 := 0) rfl (by kernel_rfl)]
  exact (math_bits_Len64.entry N _ x).trans h
/-! ### f89: math/bits.Len -/
def math_bits_Len.as : List MK := [.d false (.int .u64)]
def math_bits_Len.rs : List (Bool × HT) := [(false, (.d (.int .i64)))]
def math_bits_Len.lc : List AC := []
def math_bits_Len.D (N : Nat) : DFn := ⟨math_bits_Len.as, math_bits_Len.rs, Int, fun x => math_bits_Len N x.1, fun r o => r.1, fun b => (b, ()), fun b => (), none⟩
theorem math_bits_Len.fit (N : Nat) : (math_bits_Len.D N).Fit := ⟨fun _ _ => rfl, fun _ _ => rfl, by kernel_rfl, (fun _ _ h => nomatch h), by kernel_rfl⟩
noncomputable def math_bits_Len.G (N : Nat) : Gam := gamOf [(104, math_bits_Len64.D N)]
def math_bits_Len.A : Nat → Option LoopAnn := fun _ => none
noncomputable def math_bits_Len.fin (N : Nat) : St → Option Int := resK tb Try.f89.results.toList (decRes (math_bits_Len.D N) math_bits_Len.lc)
theorem math_bits_Len.entry (N : Nat) (rec : List Item → St → Option Int) (x : (argH math_bits_Len.as).den) : seg tb (math_bits_Len.G N) math_bits_Len.A 0 rec (math_bits_Len.fin N) segFuel [.code (bodyOf Try.f89)] (initSt Try.f89 (encArgs math_bits_Len.as x) (encMem math_bits_Len.as x)) = math_bits_Len.e N x.1 := by kernel_rfl
theorem math_bits_Len.ok (N : Nat) : FnOk Try.prog 89 (math_bits_Len.D N) := by
  refine FnOk_of tb_ok (Checked.mixed Try.checked) ⟨Try.f89, Try.func89, by kernel_rfl, by kernel_rfl, fun x y h => ⟨math_bits_Len.G N, math_bits_Len.A, N, gamOf_ok (by simp only [List.forall_mem_cons, List.not_mem_nil, false_implies, implies_true, and_true]; exact ⟨math_bits_Len64.ok N, math_bits_Len64.fit N⟩), ?_⟩⟩ (math_bits_Len.fit N)
  rw [absFn_n (n0 := 0) rfl (by kernel_rfl)]
  exact (math_bits_Len.entry N _ x).trans h
/-! ### f105: cmp.isNaN[int] -/
def cmp_isNaN_int.as : List MK := [.d false (.int .i64)]
def cmp_isNaN_int.rs : List (Bool × HT) := [(false, (.d .bool))]
def cmp_isNaN_int.lc : List AC := []
def cmp_isNaN_int.D (N : Nat) : DFn := ⟨cmp_isNaN_int.as, cmp_isNaN_int.rs, Bool, fun x => cmp_isNaN_int N x.1, fun r o => r.1, fun b => (b, ()), fun b => (), none⟩
theorem cmp_isNaN_int.fit (N : Nat) : (cmp_isNaN_int.D N).Fit := ⟨fun _ _ => rfl, fun _ _ => rfl, by kernel_rfl, (fun _ _ h => nomatch h), by kernel_rfl⟩
noncomputable def cmp_isNaN_int.G (N : Nat) : Gam := gamOf []
def cmp_isNaN_int.A : Nat → Option LoopAnn := fun _ => none
noncomputable def cmp_isNaN_int.fin (N : Nat) : St → Option Bool := resK tb Try.f105.results.toList (decRes (cmp_isNaN_int.D N) cmp_isNaN_int.lc)
theorem cmp_isNaN_int.entry (N : Nat) (rec : List Item → St → Option Bool) (x : (argH cmp_isNaN_int.as).den) : seg tb (cmp_isNaN_int.G N) cmp_isNaN_int.A 0 rec (cmp_isNaN_int.fin N) segFuel [.code (bodyOf Try.f105)] (initSt Try.f105 (encArgs cmp_isNaN_int.as x) (encMem cmp_isNaN_int.as x)) = cmp_isNaN_int.e N x.1 := by kernel_rfl
theorem cmp_isNaN_int.ok (N : Nat) : FnOk Try.prog 105 (cmp_isNaN_int.D N) := by
  refine FnOk_of tb_ok (Checked.mixed Try.checked) ⟨Try.f105, Try.func105, by kernel_rfl, by kernel_rfl, fun x y h => ⟨cmp_isNaN_int.G N, cmp_isNaN_int.A, N, gamOf_ok (fun p hp => nomatch hp), ?_⟩⟩ (cmp_isNaN_int.fit N)
  rw [absFn_n (n0 := 0) rfl (by kernel_rfl)]
  exact (cmp_isNaN_int.entry N _ x).trans h
/-! ### f91: cmp.Compare[int] -/
def cmp_Compare_int.as : List MK := [.d false (.int .i64), .d false (.int .i64)]
def cmp_Compare_int.rs : List (Bool × HT) := [(false, (.d (.int .i64)))]
def cmp_Compare_int.lc : List AC := []
def cmp_Compare_int.D (N : Nat) : DFn := ⟨cmp_Compare_int.as, cmp_Compare_int.rs, Int, fun x => cmp_Compare_int N x.1 x.2.1, fun r o => r.1, fun b => (b, ()), fun b => (), none⟩
theorem cmp_Compare_int.fit (N : Nat) : (cmp_Compare_int.D N).Fit := ⟨fun _ _ => rfl, fun _ _ => rfl, by kernel_rfl, (fun _ _ h => nomatch h), by kernel_rfl⟩
noncomputable def cmp_Compare_int.G (N : Nat) : Gam := gamOf [(105, cmp_isNaN_int.D N)]
def cmp_Compare_int.A : Nat → Option LoopAnn := fun _ => none
noncomputable def cmp_Compare_int.fin (N : Nat) : St → Option Int := resK tb Try.f91.results.toList (decRes (cmp_Compare_int.D N) cmp_Compare_int.lc)
theorem cmp_Compare_int.entry (N : Nat) (rec : List Item → St → Option Int) (x : (argH cmp_Compare_int.as).den) : seg tb (cmp_Compare_int.G N) cmp_Compare_int.A 0 rec (cmp_Compare_int.fin N) segFuel [.code (bodyOf Try.f91)] (initSt Try.f91 (encArgs cmp_Compare_int.as x) (encMem cmp_Compare_int.as x)) = cmp_Compare_int.e N x.1 x.2.1 := by kernel_rfl
theorem cmp_Compare_int.ok (N : Nat) : FnOk Try.prog 91 (cmp_Compare_int.D N) := by
  refine FnOk_of tb_ok (Checked.mixed Try.checked) ⟨Try.f91, Try.func91, by kernel_rfl, by kernel_rfl, fun x y h => ⟨cmp_Compare_int.G N, cmp_Compare_int.A, N, gamOf_ok (by simp only [List.forall_mem_cons, List.not_mem_nil, false_implies, implies_true, and_true]; exact ⟨cmp_isNaN_int.ok N, cmp_isNaN_int.fit N⟩), ?_⟩⟩ (cmp_Compare_int.fit N)
  rw [absFn_n (n0 := 0) rfl (by kernel_rfl)]
  exact (cmp_Compare_int.entry N _ x).trans h
/-! ### f90: cmp.Or[int] -/
def cmp_Or_int.as : List MK := [.d false (.slice 3 (.int .i64))]
def cmp_Or_int.rs : List (Bool × HT) := [(false, (.d (.int .i64)))]
def cmp_Or_int.lc : List AC := []
def cmp_Or_int.D (N : Nat) : DFn := ⟨cmp_Or_int.as, cmp_Or_int.rs, Int, fun x => cmp_Or_int N x.1, fun r o => r.1, fun b => (b, ()), fun b => (), none⟩
theorem cmp_Or_int.fit (N : Nat) : (cmp_Or_int.D N).Fit := ⟨fun _ _ => rfl, fun _ _ => rfl, by kernel_rfl, (fun _ _ h => nomatch h), by kernel_rfl⟩
noncomputable def cmp_Or_int.G (N : Nat) : Gam := gamOf []
def cmp_Or_int.A : Nat → Option LoopAnn := fun k => bif Nat.beq k 0 then some ⟨[3, 6, 7, 8], [], [], [], [], 0, false⟩ else none
noncomputable def cmp_Or_int.fin (N : Nat) : St → Option Int := resK tb Try.f90.results.toList (decRes (cmp_Or_int.D N) cmp_Or_int.lc)
noncomputable def cmp_Or_int.k0 : List Item := stackAt [.r, .r, .l, .r, .b] (bodyOf Try.f90) []
def cmp_Or_int.st0 (vals : LInt) (t8_ : Int) : St := ⟨List.replicate 3 (.one .any) ++ [.one (.int .i64 0), .one .any, .one .any, .one (.fro 3 (.int .i64) vals), .one (.int .i64 (vals.length : Int)), .one (.int .i64 t8_)] ++ List.replicate 9 (.one .any), []⟩
theorem cmp_Or_int.step0 (N : Nat) (rec : List Item → St → Option Int) (vals : LInt) (t8_ : Int) : seg tb (cmp_Or_int.G N) cmp_Or_int.A 0 rec (cmp_Or_int.fin N) segFuel (loopBody cmp_Or_int.k0) (cmp_Or_int.st0 vals t8_) = cmp_Or_int.s0 N vals (fun t8_ => rec cmp_Or_int.k0 (cmp_Or_int.st0 vals t8_)) t8_ := by kernel_rfl
theorem cmp_Or_int.entry (N : Nat) (rec : List Item → St → Option Int) (x : (argH cmp_Or_int.as).den) : seg tb (cmp_Or_int.G N) cmp_Or_int.A 0 rec (cmp_Or_int.fin N) segFuel [.code (bodyOf Try.f90)] (initSt Try.f90 (encArgs cmp_Or_int.as x) (encMem cmp_Or_int.as x)) = cmp_Or_int.e N (fun t8_ => rec cmp_Or_int.k0 (cmp_Or_int.st0 x.1 t8_)) x.1 := by kernel_rfl
theorem cmp_Or_int.runs (N : Nat) (vals : LInt) : ∀ n, (∀ (t8_ : Int), run tb (cmp_Or_int.G N) cmp_Or_int.A 0 (cmp_Or_int.fin N) n cmp_Or_int.k0 (cmp_Or_int.st0 vals t8_) = cmp_Or_int.l0 N vals n t8_)
  | 0 => fun _ => rfl
  | n + 1 => by
    have h0 := cmp_Or_int.runs N vals n
    have e0 : (fun (t8_ : Int) => run tb (cmp_Or_int.G N) cmp_Or_int.A 0 (cmp_Or_int.fin N) n cmp_Or_int.k0 (cmp_Or_int.st0 vals t8_)) = cmp_Or_int.l0 N vals n := by funext t8_; exact h0 t8_
    have g0 : (∀ (t8_ : Int), run tb (cmp_Or_int.G N) cmp_Or_int.A 0 (cmp_Or_int.fin N) (n + 1) cmp_Or_int.k0 (cmp_Or_int.st0 vals t8_) = cmp_Or_int.l0 N vals (n + 1) t8_) := by
      intro t8_
      exact (run_succ (by kernel_rfl)).trans ((cmp_Or_int.step0 N _ vals t8_).trans ((congrArg (fun r0 => cmp_Or_int.s0 N vals r0 t8_) e0).trans (cmp_Or_int.l0_s N vals n t8_).symm))
    exact g0
theorem cmp_Or_int.ok (N : Nat) : FnOk Try.prog 90 (cmp_Or_int.D N) := by
  refine FnOk_of tb_ok (Checked.mixed Try.checked) ⟨Try.f90, Try.func90, by kernel_rfl, by kernel_rfl, fun x y h => ⟨cmp_Or_int.G N, cmp_Or_int.A, N, gamOf_ok (fun p hp => nomatch hp), ?_⟩⟩ (cmp_Or_int.fit N)
  rw [absFn_n (n0 := 0) rfl (by kernel_rfl)]
  refine (cmp_Or_int.entry N (run tb (cmp_Or_int.G N) cmp_Or_int.A 0 (cmp_Or_int.fin N) N) x).trans ?_
  have e0 : (fun (t8_ : Int) => run tb (cmp_Or_int.G N) cmp_Or_int.A 0 (cmp_Or_int.fin N) N cmp_Or_int.k0 (cmp_Or_int.st0 x.1 t8_)) = cmp_Or_int.l0 N x.1 N := by funext t8_; exact (cmp_Or_int.runs N x.1 N) t8_
  have h' : (cmp_Or_int.D N).f x = cmp_Or_int.e N (cmp_Or_int.l0 N x.1 N) x.1 := by kernel_rfl
  exact (congrArg (fun r0 => cmp_Or_int.e N r0 x.1) e0).trans (h'.symm.trans h)
/-! ### f66: gamehall/moves.compare -/
def moves_compare.as : List MK := [.d true (.prod (.int .i64) (.prod (.int .i64) (.int .i64))), .d true (.prod (.int .i64) (.prod (.int .i64) (.int .i64)))]
def moves_compare.rs : List (Bool × HT) := [(false, (.d (.int .i64)))]
def moves_compare.lc : List AC := []
def moves_compare.D (N : Nat) : DFn := ⟨moves_compare.as, moves_compare.rs, Int, fun x => moves_compare N x.1 x.2.1, fun r o => r.1, fun b => (b, ()), fun b => (), none⟩
theorem moves_compare.fit (N : Nat) : (moves_compare.D N).Fit := ⟨fun _ _ => rfl, fun _ _ => rfl, by kernel_rfl, (fun _ _ h => nomatch h), by kernel_rfl⟩
noncomputable def moves_compare.G (N : Nat) : Gam := gamOf [(91, cmp_Compare_int.D N), (90, cmp_Or_int.D N)]
def moves_compare.A : Nat → Option LoopAnn := fun _ => none
noncomputable def moves_compare.fin (N : Nat) : St → Option Int := resK tb Try.f66.results.toList (decRes (moves_compare.D N) moves_compare.lc)
theorem moves_compare.entry (N : Nat) (rec : List Item → St → Option Int) (x : (argH moves_compare.as).den) : seg tb (moves_compare.G N) moves_compare.A 0 rec (moves_compare.fin N) segFuel [.code (bodyOf Try.f66)] (initSt Try.f66 (encArgs moves_compare.as x) (encMem moves_compare.as x)) = moves_compare.e N x.1 x.2.1 := by kernel_rfl
theorem moves_compare.ok (N : Nat) : FnOk Try.prog 66 (moves_compare.D N) := by
  refine FnOk_of tb_ok (Checked.mixed Try.checked) ⟨Try.f66, Try.func66, by kernel_rfl, by kernel_rfl, fun x y h => ⟨moves_compare.G N, moves_compare.A, N, gamOf_ok (by simp only [List.forall_mem_cons, List.not_mem_nil, false_implies, implies_true, and_true]; exact ⟨⟨cmp_Compare_int.ok N, cmp_Compare_int.fit N⟩, ⟨cmp_Or_int.ok N, cmp_Or_int.fit N⟩⟩), ?_⟩⟩ (moves_compare.fit N)
  rw [absFn_n (n0 := 0) rfl (by kernel_rfl)]
  exact (moves_compare.entry N _ x).trans h
/-! ### f95: slices.insertionSortCmpFunc[gamehall/api.Move] -/
def slices_insertionSortCmpFunc_api_Move'.as : List MK := [.o (.own 41 (.prod (.int .i64) (.prod (.int .i64) (.int .i64)))) true, .d false (.int .i64), .d false (.int .i64), .f 66]
def slices_insertionSortCmpFunc_api_Move'.rs : List (Bool × HT) := []
def slices_insertionSortCmpFunc_api_Move'.lc : List AC := [.own 0]
def slices_insertionSortCmpFunc_api_Move'.D (N : Nat) : DFn := ⟨slices_insertionSortCmpFunc_api_Move'.as, slices_insertionSortCmpFunc_api_Move'.rs, LMv, fun x => slices_insertionSortCmpFunc_api_Move' N x.1 x.2.1 x.2.2.1, fun r o => o.1, fun b => (), fun b => (b, ()), none⟩
theorem slices_insertionSortCmpFunc_api_Move'.fit (N : Nat) : (slices_insertionSortCmpFunc_api_Move'.D N).Fit := ⟨fun _ _ => rfl, fun _ _ => rfl, by kernel_rfl, (fun _ _ h => nomatch h), by kernel_rfl⟩
noncomputable def slices_insertionSortCmpFunc_api_Move'.G (N : Nat) : Gam := gamOf [(66, moves_compare.D N)]
def slices_insertionSortCmpFunc_api_Move'.A : Nat → Option LoopAnn := fun k => bif Nat.beq k 0 then some ⟨[0, 1, 2, 3, 8], [], [], [], [], 1, false⟩ else bif Nat.beq k 2 then some ⟨[0, 1, 2, 3, 8, 9], [], [], [], [], 1, false⟩ else none
noncomputable def slices_insertionSortCmpFunc_api_Move'.fin (N : Nat) : St → Option LMv := resK tb Try.f95.results.toList (decRes (slices_insertionSortCmpFunc_api_Move'.D N) slices_insertionSortCmpFunc_api_Move'.lc)
noncomputable def slices_insertionSortCmpFunc_api_Move'.k0 : List Item := stackAt [.r, .b] (bodyOf Try.f95) []
def slices_insertionSortCmpFunc_api_Move'.st0 (data : LMv) (a_ : Int) (b_ : Int) (i_ : Int) (data2 : LMv) : St := ⟨[.one (.own 0), .one (.int .i64 a_), .one (.int .i64 b_), .one (.fn 66)] ++ List.replicate 4 (.one .any) ++ [.one (.int .i64 i_)] ++ List.replicate 44 (.one .any), [.row 41 (.prod (.int .i64) (.prod (.int .i64) (.int .i64))) data2]⟩
noncomputable def slices_insertionSortCmpFunc_api_Move'.k1 : List Item := stackAt [.r, .b, .w, .r, .l, .b, .r, .b] (bodyOf Try.f95) []
def slices_insertionSortCmpFunc_api_Move'.st1 (data : LMv) (a_ : Int) (b_ : Int) (i_ : Int) (j_ : Int) (data2 : LMv) : St := ⟨[.one (.own 0), .one (.int .i64 a_), .one (.int .i64 b_), .one (.fn 66)] ++ List.replicate 4 (.one .any) ++ [.one (.int .i64 i_), .one (.int .i64 j_)] ++ List.replicate 43 (.one .any), [.row 41 (.prod (.int .i64) (.prod (.int .i64) (.int .i64))) data2]⟩
theorem slices_insertionSortCmpFunc_api_Move'.step0 (N : Nat) (rec : List Item → St → Option LMv) (data : LMv) (a_ : Int) (b_ : Int) (i_ : Int) (data2 : LMv) : seg tb (slices_insertionSortCmpFunc_api_Move'.G N) slices_insertionSortCmpFunc_api_Move'.A 1 rec (slices_insertionSortCmpFunc_api_Move'.fin N) segFuel (loopBody slices_insertionSortCmpFunc_api_Move'.k0) (slices_insertionSortCmpFunc_api_Move'.st0 data a_ b_ i_ data2) = slices_insertionSortCmpFunc_api_Move'.s0 N data a_ b_ (fun i_ data2 => rec slices_insertionSortCmpFunc_api_Move'.k0 (slices_insertionSortCmpFunc_api_Move'.st0 data a_ b_ i_ data2)) (fun i_ j_ data2 => rec slices_insertionSortCmpFunc_api_Move'.k1 (slices_insertionSortCmpFunc_api_Move'.st1 data a_ b_ i_ j_ data2)) i_ data2 := by kernel_rfl
theorem slices_insertionSortCmpFunc_api_Move'.step1 (N : Nat) (rec : List Item → St → Option LMv) (data : LMv) (a_ : Int) (b_ : Int) (i_ : Int) (j_ : Int) (data2 : LMv) : seg tb (slices_insertionSortCmpFunc_api_Move'.G N) slices_insertionSortCmpFunc_api_Move'.A 1 rec (slices_insertionSortCmpFunc_api_Move'.fin N) segFuel (loopBody slices_insertionSortCmpFunc_api_Move'.k1) (slices_insertionSortCmpFunc_api_Move'.st1 data a_ b_ i_ j_ data2) = slices_insertionSortCmpFunc_api_Move'.s1 N data a_ b_ (fun i_ data2 => rec slices_insertionSortCmpFunc_api_Move'.k0 (slices_insertionSortCmpFunc_api_Move'.st0 data a_ b_ i_ data2)) (fun i_ j_ data2 => rec slices_insertionSortCmpFunc_api_Move'.k1 (slices_insertionSortCmpFunc_api_Move'.st1 data a_ b_ i_ j_ data2)) i_ j_ data2 := by kernel_rfl
theorem slices_insertionSortCmpFunc_api_Move'.entry (N : Nat) (rec : List Item → St → Option LMv) (x : (argH slices_insertionSortCmpFunc_api_Move'.as).den) : seg tb (slices_insertionSortCmpFunc_api_Move'.G N) slices_insertionSortCmpFunc_api_Move'.A 1 rec (slices_insertionSortCmpFunc_api_Move'.fin N) segFuel [.code (bodyOf Try.f95)] (initSt Try.f95 (encArgs slices_insertionSortCmpFunc_api_Move'.as x) (encMem slices_insertionSortCmpFunc_api_Move'.as x)) = slices_insertionSortCmpFunc_api_Move'.e N (fun i_ data2 => rec slices_insertionSortCmpFunc_api_Move'.k0 (slices_insertionSortCmpFunc_api_Move'.st0 x.1 x.2.1 x.2.2.1 i_ data2)) (fun i_ j_ data2 => rec slices_insertionSortCmpFunc_api_Move'.k1 (slices_insertionSortCmpFunc_api_Move'.st1 x.1 x.2.1 x.2.2.1 i_ j_ data2)) x.1 x.2.1 x.2.2.1 := by kernel_rfl
theorem slices_insertionSortCmpFunc_api_Move'.runs (N : Nat) (data : LMv) (a_ : Int) (b_ : Int) : ∀ n, (∀ (i_ : Int) (data2 : LMv), run tb (slices_insertionSortCmpFunc_api_Move'.G N) slices_insertionSortCmpFunc_api_Move'.A 1 (slices_insertionSortCmpFunc_api_Move'.fin N) n slices_insertionSortCmpFunc_api_Move'.k0 (slices_insertionSortCmpFunc_api_Move'.st0 data a_ b_ i_ data2) = slices_insertionSortCmpFunc_api_Move'.l0 N data a_ b_ n i_ data2) ∧ (∀ (i_ : Int) (j_ : Int) (data2 : LMv), run tb (slices_insertionSortCmpFunc_api_Move'.G N) slices_insertionSortCmpFunc_api_Move'.A 1 (slices_insertionSortCmpFunc_api_Move'.fin N) n slices_insertionSortCmpFunc_api_Move'.k1 (slices_insertionSortCmpFunc_api_Move'.st1 data a_ b_ i_ j_ data2) = slices_insertionSortCmpFunc_api_Move'.l1 N data a_ b_ n i_ j_ data2)
  | 0 => ⟨fun _ _ => rfl, fun _ _ _ => rfl⟩
  | n + 1 => by
    obtain ⟨h0, h1⟩ := slices_insertionSortCmpFunc_api_Move'.runs N data a_ b_ n
    have e0 : (fun (i_ : Int) (data2 : LMv) => run tb (slices_insertionSortCmpFunc_api_Move'.G N) slices_insertionSortCmpFunc_api_Move'.A 1 (slices_insertionSortCmpFunc_api_Move'.fin N) n slices_insertionSortCmpFunc_api_Move'.k0 (slices_insertionSortCmpFunc_api_Move'.st0 data a_ b_ i_ data2)) = slices_insertionSortCmpFunc_api_Move'.l0 N data a_ b_ n := by funext i_ data2; exact h0 i_ data2
    have e1 : (fun (i_ : Int) (j_ : Int) (data2 : LMv) => run tb (slices_insertionSortCmpFunc_api_Move'.G N) slices_insertionSortCmpFunc_api_Move'.A 1 (slices_insertionSortCmpFunc_api_Move'.fin N) n slices_insertionSortCmpFunc_api_Move'.k1 (slices_insertionSortCmpFunc_api_Move'.st1 data a_ b_ i_ j_ data2)) = slices_insertionSortCmpFunc_api_Move'.l1 N data a_ b_ n := by funext i_ j_ data2; exact h1 i_ j_ data2
    have g0 : (∀ (i_ : Int) (data2 : LMv), run tb (slices_insertionSortCmpFunc_api_Move'.G N) slices_insertionSortCmpFunc_api_Move'.A 1 (slices_insertionSortCmpFunc_api_Move'.fin N) (n + 1) slices_insertionSortCmpFunc_api_Move'.k0 (slices_insertionSortCmpFunc_api_Move'.st0 data a_ b_ i_ data2) = slices_insertionSortCmpFunc_api_Move'.l0 N data a_ b_ (n + 1) i_ data2) := by
      intro i_ data2
      exact (run_succ (by kernel_rfl)).trans ((slices_insertionSortCmpFunc_api_Move'.step0 N _ data a_ b_ i_ data2).trans ((congr (congrArg (fun r0 r1 => slices_insertionSortCmpFunc_api_Move'.s0 N data a_ b_ r0 r1 i_ data2) e0) e1).trans (slices_insertionSortCmpFunc_api_Move'.l0_s N data a_ b_ n i_ data2).symm))
    have g1 : (∀ (i_ : Int) (j_ : Int) (data2 : LMv), run tb (slices_insertionSortCmpFunc_api_Move'.G N) slices_insertionSortCmpFunc_api_Move'.A 1 (slices_insertionSortCmpFunc_api_Move'.fin N) (n + 1) slices_insertionSortCmpFunc_api_Move'.k1 (slices_insertionSortCmpFunc_api_Move'.st1 data a_ b_ i_ j_ data2) = slices_insertionSortCmpFunc_api_Move'.l1 N data a_ b_ (n + 1) i_ j_ data2) := by
      intro i_ j_ data2
      exact (run_succ (by kernel_rfl)).trans ((slices_insertionSortCmpFunc_api_Move'.step1 N _ data a_ b_ i_ j_ data2).trans ((congr (congrArg (fun r0 r1 => slices_insertionSortCmpFunc_api_Move'.s1 N data a_ b_ r0 r1 i_ j_ data2) e0) e1).trans (slices_insertionSortCmpFunc_api_Move'.l1_s N data a_ b_ n i_ j_ data2).symm))
    exact ⟨g0, g1⟩
theorem slices_insertionSortCmpFunc_api_Move'.ok (N : Nat) : FnOk Try.prog 95 (slices_insertionSortCmpFunc_api_Move'.D N) := by
  refine FnOk_of tb_ok (Checked.mixed Try.checked) ⟨Try.f95, Try.func95, by kernel_rfl, by kernel_rfl, fun x y h => ⟨slices_insertionSortCmpFunc_api_Move'.G N, slices_insertionSortCmpFunc_api_Move'.A, N, gamOf_ok (by simp only [List.forall_mem_cons, List.not_mem_nil, false_implies, implies_true, and_true]; exact ⟨moves_compare.ok N, moves_compare.fit N⟩), ?_⟩⟩ (slices_insertionSortCmpFunc_api_Move'.fit N)
  rw [absFn_n (n0 := 1) rfl (by kernel_rfl)]
  refine (slices_insertionSortCmpFunc_api_Move'.entry N (run tb (slices_insertionSortCmpFunc_api_Move'.G N) slices_insertionSortCmpFunc_api_Move'.A 1 (slices_insertionSortCmpFunc_api_Move'.fin N) N) x).trans ?_
  have e0 : (fun (i_ : Int) (data2 : LMv) => run tb (slices_insertionSortCmpFunc_api_Move'.G N) slices_insertionSortCmpFunc_api_Move'.A 1 (slices_insertionSortCmpFunc_api_Move'.fin N) N slices_insertionSortCmpFunc_api_Move'.k0 (slices_insertionSortCmpFunc_api_Move'.st0 x.1 x.2.1 x.2.2.1 i_ data2)) = slices_insertionSortCmpFunc_api_Move'.l0 N x.1 x.2.1 x.2.2.1 N := by funext i_ data2; exact (slices_insertionSortCmpFunc_api_Move'.runs N x.1 x.2.1 x.2.2.1 N).1 i_ data2
  have e1 : (fun (i_ : Int) (j_ : Int) (data2 : LMv) => run tb (slices_insertionSortCmpFunc_api_Move'.G N) slices_insertionSortCmpFunc_api_Move'.A 1 (slices_insertionSortCmpFunc_api_Move'.fin N) N slices_insertionSortCmpFunc_api_Move'.k1 (slices_insertionSortCmpFunc_api_Move'.st1 x.1 x.2.1 x.2.2.1 i_ j_ data2)) = slices_insertionSortCmpFunc_api_Move'.l1 N x.1 x.2.1 x.2.2.1 N := by funext i_ j_ data2; exact (slices_insertionSortCmpFunc_api_Move'.runs N x.1 x.2.1 x.2.2.1 N).2 i_ j_ data2
  have h' : (slices_insertionSortCmpFunc_api_Move'.D N).f x = slices_insertionSortCmpFunc_api_Move'.e N (slices_insertionSortCmpFunc_api_Move'.l0 N x.1 x.2.1 x.2.2.1 N) (slices_insertionSortCmpFunc_api_Move'.l1 N x.1 x.2.1 x.2.2.1 N) x.1 x.2.1 x.2.2.1 := by kernel_rfl
  exact (congr (congrArg (fun r0 r1 => slices_insertionSortCmpFunc_api_Move'.e N r0 r1 x.1 x.2.1 x.2.2.1) e0) e1).trans (h'.symm.trans h)
/-! ### f106: slices.siftDownCmpFunc[gamehall/api.Move] -/
def slices_siftDownCmpFunc_api_Move'.as : List MK := [.o (.own 41 (.prod (.int .i64) (.prod (.int .i64) (.int .i64)))) true, .d false (.int .i64), .d false (.int .i64), .d false (.int .i64), .f 66]
def slices_siftDownCmpFunc_api_Move'.rs : List (Bool × HT) := []
def slices_siftDownCmpFunc_api_Move'.lc : List AC := [.own 0]
def slices_siftDownCmpFunc_api_Move'.D (N : Nat) : DFn := ⟨slices_siftDownCmpFunc_api_Move'.as, slices_siftDownCmpFunc_api_Move'.rs, LMv, fun x => slices_siftDownCmpFunc_api_Move' N x.1 x.2.1 x.2.2.1 x.2.2.2.1, fun r o => o.1, fun b => (), fun b => (b, ()), none⟩
theorem slices_siftDownCmpFunc_api_Move'.fit (N : Nat) : (slices_siftDownCmpFunc_api_Move'.D N).Fit := ⟨fun _ _ => rfl, fun _ _ => rfl, by kernel_rfl, (fun _ _ h => nomatch h), by kernel_rfl⟩
noncomputable def slices_siftDownCmpFunc_api_Move'.G (N : Nat) : Gam := gamOf [(66, moves_compare.D N)]
def slices_siftDownCmpFunc_api_Move'.A : Nat → Option LoopAnn := fun k => bif Nat.beq k 0 then some ⟨[0, 2, 3, 4, 10], [], [], [], [], 1, false⟩ else none
noncomputable def slices_siftDownCmpFunc_api_Move'.fin (N : Nat) : St → Option LMv := resK tb Try.f106.results.toList (decRes (slices_siftDownCmpFunc_api_Move'.D N) slices_siftDownCmpFunc_api_Move'.lc)
noncomputable def slices_siftDownCmpFunc_api_Move'.k0 : List Item := stackAt [.r, .b] (bodyOf Try.f106) []
def slices_siftDownCmpFunc_api_Move'.st0 (data : LMv) (lo : Int) (hi : Int) (first : Int) (root : Int) (data2 : LMv) : St := ⟨[.one (.own 0), .one .any, .one (.int .i64 hi), .one (.int .i64 first), .one (.fn 66)] ++ List.replicate 5 (.one .any) ++ [.one (.int .i64 root)] ++ List.replicate 71 (.one .any), [.row 41 (.prod (.int .i64) (.prod (.int .i64) (.int .i64))) data2]⟩
theorem slices_siftDownCmpFunc_api_Move'.step0 (N : Nat) (rec : List Item → St → Option LMv) (data : LMv) (lo : Int) (hi : Int) (first : Int) (root : Int) (data2 : LMv) : seg tb (slices_siftDownCmpFunc_api_Move'.G N) slices_siftDownCmpFunc_api_Move'.A 1 rec (slices_siftDownCmpFunc_api_Move'.fin N) segFuel (loopBody slices_siftDownCmpFunc_api_Move'.k0) (slices_siftDownCmpFunc_api_Move'.st0 data lo hi first root data2) = slices_siftDownCmpFunc_api_Move'.s0 N data lo hi first (fun root data2 => rec slices_siftDownCmpFunc_api_Move'.k0 (slices_siftDownCmpFunc_api_Move'.st0 data lo hi first root data2)) root data2 := by kernel_rfl
theorem slices_siftDownCmpFunc_api_Move'.entry (N : Nat) (rec : List Item → St → Option LMv) (x : (argH slices_siftDownCmpFunc_api_Move'.as).den) : seg tb (slices_siftDownCmpFunc_api_Move'.G N) slices_siftDownCmpFunc_api_Move'.A 1 rec (slices_siftDownCmpFunc_api_Move'.fin N) segFuel [.code (bodyOf Try.f106)] (initSt Try.f106 (encArgs slices_siftDownCmpFunc_api_Move'.as x) (encMem slices_siftDownCmpFunc_api_Move'.as x)) = slices_siftDownCmpFunc_api_Move'.e N (fun root data2 => rec slices_siftDownCmpFunc_api_Move'.k0 (slices_siftDownCmpFunc_api_Move'.st0 x.1 x.2.1 x.2.2.1 x.2.2.2.1 root data2)) x.1 x.2.1 x.2.2.1 x.2.2.2.1 := by kernel_rfl
theorem slices_siftDownCmpFunc_api_Move'.runs (N : Nat) (data : LMv) (lo : Int) (hi : Int) (first : Int) : ∀ n, (∀ (root : Int) (data2 : LMv), run tb (slices_siftDownCmpFunc_api_Move'.G N) slices_siftDownCmpFunc_api_Move'.A 1 (slices_siftDownCmpFunc_api_Move'.fin N) n slices_siftDownCmpFunc_api_Move'.k0 (slices_siftDownCmpFunc_api_Move'.st0 data lo hi first root data2) = slices_siftDownCmpFunc_api_Move'.l0 N data lo hi first n root data2)
  | 0 => fun _ _ => rfl
  | n + 1 => by
    have h0 := slices_siftDownCmpFunc_api_Move'.runs N data lo hi first n
    have e0 : (fun (root : Int) (data2 : LMv) => run tb (slices_siftDownCmpFunc_api_Move'.G N) slices_siftDownCmpFunc_api_Move'.A 1 (slices_siftDownCmpFunc_api_Move'.fin N) n slices_siftDownCmpFunc_api_Move'.k0 (slices_siftDownCmpFunc_api_Move'.st0 data lo hi first root data2)) = slices_siftDownCmpFunc_api_Move'.l0 N data lo hi first n := by funext root data2; exact h0 root data2
    have g0 : (∀ (root : Int) (data2 : LMv), run tb (slices_siftDownCmpFunc_api_Move'.G N) slices_siftDownCmpFunc_api_Move'.A 1 (slices_siftDownCmpFunc_api_Move'.fin N) (n + 1) slices_siftDownCmpFunc_api_Move'.k0 (slices_siftDownCmpFunc_api_Move'.st0 data lo hi first root data2) = slices_siftDownCmpFunc_api_Move'.l0 N data lo hi first (n + 1) root data2) := by
      intro root data2
      exact (run_succ (by kernel_rfl)).trans ((slices_siftDownCmpFunc_api_Move'.step0 N _ data lo hi first root data2).trans ((congrArg (fun r0 => slices_siftDownCmpFunc_api_Move'.s0 N data lo hi first r0 root data2) e0).trans (slices_siftDownCmpFunc_api_Move'.l0_s N data lo hi first n root data2).symm))
    exact g0
theorem slices_siftDownCmpFunc_api_Move'.ok (N : Nat) : FnOk Try.prog 106 (slices_siftDownCmpFunc_api_Move'.D N) := by
  refine FnOk_of tb_ok (Checked.mixed Try.checked) ⟨Try.f106, Try.func106, by kernel_rfl, by kernel_rfl, fun x y h => ⟨slices_siftDownCmpFunc_api_Move'.G N, slices_siftDownCmpFunc_api_Move'.A, N, gamOf_ok (by simp only [List.forall_mem_cons, List.not_mem_nil, false_implies, implies_true, and_true]; exact ⟨moves_compare.ok N, moves_compare.fit N⟩), ?_⟩⟩ (slices_siftDownCmpFunc_api_Move'.fit N)
  rw [absFn_n (n0 := 1) rfl (by kernel_rfl)]
  refine (slices_siftDownCmpFunc_api_Move'.entry N (run tb (slices_siftDownCmpFunc_api_Move'.G N) slices_siftDownCmpFunc_api_Move'.A 1 (slices_siftDownCmpFunc_api_Move'.fin N) N) x).trans ?_
  have e0 : (fun (root : Int) (data2 : LMv) => run tb (slices_siftDownCmpFunc_api_Move'.G N) slices_siftDownCmpFunc_api_Move'.A 1 (slices_siftDownCmpFunc_api_Move'.fin N) N slices_siftDownCmpFunc_api_Move'.k0 (slices_siftDownCmpFunc_api_Move'.st0 x.1 x.2.1 x.2.2.1 x.2.2.2.1 root data2)) = slices_siftDownCmpFunc_api_Move'.l0 N x.1 x.2.1 x.2.2.1 x.2.2.2.1 N := by funext root data2; exact (slices_siftDownCmpFunc_api_Move'.runs N x.1 x.2.1 x.2.2.1 x.2.2.2.1 N) root data2
  have h' : (slices_siftDownCmpFunc_api_Move'.D N).f x = slices_siftDownCmpFunc_api_Move'.e N (slices_siftDownCmpFunc_api_Move'.l0 N x.1 x.2.1 x.2.2.1 x.2.2.2.1 N) x.1 x.2.1 x.2.2.1 x.2.2.2.1 := by kernel_rfl
  exact (congrArg (fun r0 => slices_siftDownCmpFunc_api_Move'.e N r0 x.1 x.2.1 x.2.2.1 x.2.2.2.1) e0).trans (h'.symm.trans h)
/-! ### f96: slices.heapSortCmpFunc[gamehall/api.Move] -/
def slices_heapSortCmpFunc_api_Move'.as : List MK := [.o (.own 41 (.prod (.int .i64) (.prod (.int .i64) (.int .i64)))) true, .d false (.int .i64), .d false (.int .i64), .f 66]
def slices_heapSortCmpFunc_api_Move'.rs : List (Bool × HT) := []
def slices_heapSortCmpFunc_api_Move'.lc : List AC := [.own 0]
def slices_heapSortCmpFunc_api_Move'.D (N : Nat) : DFn := ⟨slices_heapSortCmpFunc_api_Move'.as, slices_heapSortCmpFunc_api_Move'.rs, LMv, fun x => slices_heapSortCmpFunc_api_Move' N x.1 x.2.1 x.2.2.1, fun r o => o.1, fun b => (), fun b => (b, ()), none⟩
theorem slices_heapSortCmpFunc_api_Move'.fit (N : Nat) : (slices_heapSortCmpFunc_api_Move'.D N).Fit := ⟨fun _ _ => rfl, fun _ _ => rfl, by kernel_rfl, (fun _ _ h => nomatch h), by kernel_rfl⟩
noncomputable def slices_heapSortCmpFunc_api_Move'.G (N : Nat) : Gam := gamOf [(106, slices_siftDownCmpFunc_api_Move'.D N)]
def slices_heapSortCmpFunc_api_Move'.A : Nat → Option LoopAnn := fun k => bif Nat.beq k 0 then some ⟨[0, 3, 8, 9, 10, 11], [], [], [], [], 1, false⟩ else bif Nat.beq k 2 then some ⟨[0, 3, 8, 9, 12], [], [], [], [], 1, false⟩ else none
noncomputable def slices_heapSortCmpFunc_api_Move'.fin (N : Nat) : St → Option LMv := resK tb Try.f96.results.toList (decRes (slices_heapSortCmpFunc_api_Move'.D N) slices_heapSortCmpFunc_api_Move'.lc)
noncomputable def slices_heapSortCmpFunc_api_Move'.k0 : List Item := stackAt [.r, .r, .r, .l, .r, .b] (bodyOf Try.f96) []
def slices_heapSortCmpFunc_api_Move'.st0 (data : LMv) (a_ : Int) (b_ : Int) (i_ : Int) (data2 : LMv) : St := ⟨[.one (.own 0), .one .any, .one .any, .one (.fn 66)] ++ List.replicate 4 (.one .any) ++ [.one (.int .i64 a_), .one (.int .i64 0), .one (.int .i64 (w64 (b_ - a_))), .one (.int .i64 i_)] ++ List.replicate 48 (.one .any), [.row 41 (.prod (.int .i64) (.prod (.int .i64) (.int .i64))) data2]⟩
noncomputable def slices_heapSortCmpFunc_api_Move'.k1 : List Item := stackAt [.r, .r, .r, .r, .r, .b] (bodyOf Try.f96) []
def slices_heapSortCmpFunc_api_Move'.st1 (data : LMv) (a_ : Int) (b_ : Int) (i_ : Int) (data2 : LMv) : St := ⟨[.one (.own 0), .one .any, .one .any, .one (.fn 66)] ++ List.replicate 4 (.one .any) ++ [.one (.int .i64 a_), .one (.int .i64 0), .one .any, .one .any, .one (.int .i64 i_)] ++ List.replicate 47 (.one .any), [.row 41 (.prod (.int .i64) (.prod (.int .i64) (.int .i64))) data2]⟩
theorem slices_heapSortCmpFunc_api_Move'.step0 (N : Nat) (rec : List Item → St → Option LMv) (data : LMv) (a_ : Int) (b_ : Int) (i_ : Int) (data2 : LMv) : seg tb (slices_heapSortCmpFunc_api_Move'.G N) slices_heapSortCmpFunc_api_Move'.A 1 rec (slices_heapSortCmpFunc_api_Move'.fin N) segFuel (loopBody slices_heapSortCmpFunc_api_Move'.k0) (slices_heapSortCmpFunc_api_Move'.st0 data a_ b_ i_ data2) = slices_heapSortCmpFunc_api_Move'.s0 N data a_ b_ (fun i_ data2 => rec slices_heapSortCmpFunc_api_Move'.k0 (slices_heapSortCmpFunc_api_Move'.st0 data a_ b_ i_ data2)) (fun i_ data2 => rec slices_heapSortCmpFunc_api_Move'.k1 (slices_heapSortCmpFunc_api_Move'.st1 data a_ b_ i_ data2)) i_ data2 := by kernel_rfl
theorem slices_heapSortCmpFunc_api_Move'.step1 (N : Nat) (rec : List Item → St → Option LMv) (data : LMv) (a_ : Int) (b_ : Int) (i_ : Int) (data2 : LMv) : seg tb (slices_heapSortCmpFunc_api_Move'.G N) slices_heapSortCmpFunc_api_Move'.A 1 rec (slices_heapSortCmpFunc_api_Move'.fin N) segFuel (loopBody slices_heapSortCmpFunc_api_Move'.k1) (slices_heapSortCmpFunc_api_Move'.st1 data a_ b_ i_ data2) = slices_heapSortCmpFunc_api_Move'.s1 N data a_ b_ (fun i_ data2 => rec slices_heapSortCmpFunc_api_Move'.k0 (slices_heapSortCmpFunc_api_Move'.st0 data a_ b_ i_ data2)) (fun i_ data2 => rec slices_heapSortCmpFunc_api_Move'.k1 (slices_heapSortCmpFunc_api_Move'.st1 data a_ b_ i_ data2)) i_ data2 := by kernel_rfl
theorem slices_heapSortCmpFunc_api_Move'.entry (N : Nat) (rec : List Item → St → Option LMv) (x : (argH slices_heapSortCmpFunc_api_Move'.as).den) : seg tb (slices_heapSortCmpFunc_api_Move'.G N) slices_heapSortCmpFunc_api_Move'.A 1 rec (slices_heapSortCmpFunc_api_Move'.fin N) segFuel [.code (bodyOf Try.f96)] (initSt Try.f96 (encArgs slices_heapSortCmpFunc_api_Move'.as x) (encMem slices_heapSortCmpFunc_api_Move'.as x)) = slices_heapSortCmpFunc_api_Move'.e N (fun i_ data2 => rec slices_heapSortCmpFunc_api_Move'.k0 (slices_heapSortCmpFunc_api_Move'.st0 x.1 x.2.1 x.2.2.1 i_ data2)) (fun i_ data2 => rec slices_heapSortCmpFunc_api_Move'.k1 (slices_heapSortCmpFunc_api_Move'.st1 x.1 x.2.1 x.2.2.1 i_ data2)) x.1 x.2.1 x.2.2.1 := by kernel_rfl
theorem slices_heapSortCmpFunc_api_Move'.runs (N : Nat) (data : LMv) (a_ : Int) (b_ : Int) : ∀ n, (∀ (i_ : Int) (data2 : LMv), run tb (slices_heapSortCmpFunc_api_Move'.G N) slices_heapSortCmpFunc_api_Move'.A 1 (slices_heapSortCmpFunc_api_Move'.fin N) n slices_heapSortCmpFunc_api_Move'.k0 (slices_heapSortCmpFunc_api_Move'.st0 data a_ b_ i_ data2) = slices_heapSortCmpFunc_api_Move'.l0 N data a_ b_ n i_ data2) ∧ (∀ (i_ : Int) (data2 : LMv), run tb (slices_heapSortCmpFunc_api_Move'.G N) slices_heapSortCmpFunc_api_Move'.A 1 (slices_heapSortCmpFunc_api_Move'.fin N) n slices_heapSortCmpFunc_api_Move'.k1 (slices_heapSortCmpFunc_api_Move'.st1 data a_ b_ i_ data2) = slices_heapSortCmpFunc_api_Move'.l1 N data a_ b_ n i_ data2)
  | 0 => ⟨fun _ _ => rfl, fun _ _ => rfl⟩
  | n + 1 => by
    obtain ⟨h0, h1⟩ := slices_heapSortCmpFunc_api_Move'.runs N data a_ b_ n
    have e0 : (fun (i_ : Int) (data2 : LMv) => run tb (slices_heapSortCmpFunc_api_Move'.G N) slices_heapSortCmpFunc_api_Move'.A 1 (slices_heapSortCmpFunc_api_Move'.fin N) n slices_heapSortCmpFunc_api_Move'.k0 (slices_heapSortCmpFunc_api_Move'.st0 data a_ b_ i_ data2)) = slices_heapSortCmpFunc_api_Move'.l0 N data a_ b_ n := by funext i_ data2; exact h0 i_ data2
    have e1 : (fun (i_ : Int) (data2 : LMv) => run tb (slices_heapSortCmpFunc_api_Move'.G N) slices_heapSortCmpFunc_api_Move'.A 1 (slices_heapSortCmpFunc_api_Move'.fin N) n slices_heapSortCmpFunc_api_Move'.k1 (slices_heapSortCmpFunc_api_Move'.st1 data a_ b_ i_ data2)) = slices_heapSortCmpFunc_api_Move'.l1 N data a_ b_ n := by funext i_ data2; exact h1 i_ data2
    have g0 : (∀ (i_ : Int) (data2 : LMv), run tb (slices_heapSortCmpFunc_api_Move'.G N) slices_heapSortCmpFunc_api_Move'.A 1 (slices_heapSortCmpFunc_api_Move'.fin N) (n + 1) slices_heapSortCmpFunc_api_Move'.k0 (slices_heapSortCmpFunc_api_Move'.st0 data a_ b_ i_ data2) = slices_heapSortCmpFunc_api_Move'.l0 N data a_ b_ (n + 1) i_ data2) := by
      intro i_ data2
      exact (run_succ (by kernel_rfl)).trans ((slices_heapSortCmpFunc_api_Move'.step0 N _ data a_ b_ i_ data2).trans ((congr (congrArg (fun r0 r1 => slices_heapSortCmpFunc_api_Move'.s0 N data a_ b_ r0 r1 i_ data2) e0) e1).trans (slices_heapSortCmpFunc_api_Move'.l0_s N data a_ b_ n i_ data2).symm))
    have g1 : (∀ (i_ : Int) (data2 : LMv), run tb (slices_heapSortCmpFunc_api_Move'.G N) slices_heapSortCmpFunc_api_Move'.A 1 (slices_heapSortCmpFunc_api_Move'.fin N) (n + 1) slices_heapSortCmpFunc_api_Move'.k1 (slices_heapSortCmpFunc_api_Move'.st1 data a_ b_ i_ data2) = slices_heapSortCmpFunc_api_Move'.l1 N data a_ b_ (n + 1) i_ data2) := by
      intro i_ data2
      exact (run_succ (by kernel_rfl)).trans ((slices_heapSortCmpFunc_api_Move'.step1 N _ data a_ b_ i_ data2).trans ((congr (congrArg (fun r0 r1 => slices_heapSortCmpFunc_api_Move'.s1 N data a_ b_ r0 r1 i_ data2) e0) e1).trans (slices_heapSortCmpFunc_api_Move'.l1_s N data a_ b_ n i_ data2).symm))
    exact ⟨g0, g1⟩
theorem slices_heapSortCmpFunc_api_Move'.ok (N : Nat) : FnOk Try.prog 96 (slices_heapSortCmpFunc_api_Move'.D N) := by
  refine FnOk_of tb_ok (Checked.mixed Try.checked) ⟨Try.f96, Try.func96, by kernel_rfl, by kernel_rfl, fun x y h => ⟨slices_heapSortCmpFunc_api_Move'.G N, slices_heapSortCmpFunc_api_Move'.A, N, gamOf_ok (by simp only [List.forall_mem_cons, List.not_mem_nil, false_implies, implies_true, and_true]; exact ⟨slices_siftDownCmpFunc_api_Move'.ok N, slices_siftDownCmpFunc_api_Move'.fit N⟩), ?_⟩⟩ (slices_heapSortCmpFunc_api_Move'.fit N)
  rw [absFn_n (n0 := 1) rfl (by kernel_rfl)]
  refine (slices_heapSortCmpFunc_api_Move'.entry N (run tb (slices_heapSortCmpFunc_api_Move'.G N) slices_heapSortCmpFunc_api_Move'.A 1 (slices_heapSortCmpFunc_api_Move'.fin N) N) x).trans ?_
  have e0 : (fun (i_ : Int) (data2 : LMv) => run tb (slices_heapSortCmpFunc_api_Move'.G N) slices_heapSortCmpFunc_api_Move'.A 1 (slices_heapSortCmpFunc_api_Move'.fin N) N slices_heapSortCmpFunc_api_Move'.k0 (slices_heapSortCmpFunc_api_Move'.st0 x.1 x.2.1 x.2.2.1 i_ data2)) = slices_heapSortCmpFunc_api_Move'.l0 N x.1 x.2.1 x.2.2.1 N := by funext i_ data2; exact (slices_heapSortCmpFunc_api_Move'.runs N x.1 x.2.1 x.2.2.1 N).1 i_ data2
  have e1 : (fun (i_ : Int) (data2 : LMv) => run tb (slices_heapSortCmpFunc_api_Move'.G N) slices_heapSortCmpFunc_api_Move'.A 1 (slices_heapSortCmpFunc_api_Move'.fin N) N slices_heapSortCmpFunc_api_Move'.k1 (slices_heapSortCmpFunc_api_Move'.st1 x.1 x.2.1 x.2.2.1 i_ data2)) = slices_heapSortCmpFunc_api_Move'.l1 N x.1 x.2.1 x.2.2.1 N := by funext i_ data2; exact (slices_heapSortCmpFunc_api_Move'.runs N x.1 x.2.1 x.2.2.1 N).2 i_ data2
  have h' : (slices_heapSortCmpFunc_api_Move'.D N).f x = slices_heapSortCmpFunc_api_Move'.e N (slices_heapSortCmpFunc_api_Move'.l0 N x.1 x.2.1 x.2.2.1 N) (slices_heapSortCmpFunc_api_Move'.l1 N x.1 x.2.1 x.2.2.1 N) x.1 x.2.1 x.2.2.1 := by kernel_rfl
  exact (congr (congrArg (fun r0 r1 => slices_heapSortCmpFunc_api_Move'.e N r0 r1 x.1 x.2.1 x.2.2.1) e0) e1).trans (h'.symm.trans h)
/-! ### f111: slices.order2CmpFunc[gamehall/api.Move] -/
def slices_order2CmpFunc_api_Move.as : List MK := [.d false (.slice 41 (.prod (.int .i64) (.prod (.int .i64) (.int .i64)))), .d false (.int .i64), .d false (.int .i64), .o (.ptr 3 (.d (.int .i64))) true, .f 66]
def slices_order2CmpFunc_api_Move.rs : List (Bool × HT) := [(false, (.d (.int .i64))), (false, (.d (.int .i64)))]
def slices_order2CmpFunc_api_Move.lc : List AC := [.ptr 0 0]
def slices_order2CmpFunc_api_Move.D (N : Nat) : DFn := ⟨slices_order2CmpFunc_api_Move.as, slices_order2CmpFunc_api_Move.rs, (Int × Int × Int), fun x => slices_order2CmpFunc_api_Move N x.1 x.2.1 x.2.2.1 x.2.2.2.1, fun r o => (r.1, r.2.1, o.1), fun b => (b.1, (b.2.1, ())), fun b => (b.2.2, ()), none⟩
theorem slices_order2CmpFunc_api_Move.fit (N : Nat) : (slices_order2CmpFunc_api_Move.D N).Fit := ⟨fun _ _ => rfl, fun _ _ => rfl, by kernel_rfl, (fun _ _ h => nomatch h), by kernel_rfl⟩
noncomputable def slices_order2CmpFunc_api_Move.G (N : Nat) : Gam := gamOf [(66, moves_compare.D N)]
def slices_order2CmpFunc_api_Move.A : Nat → Option LoopAnn := fun _ => none
noncomputable def slices_order2CmpFunc_api_Move.fin (N : Nat) : St → Option (Int × Int × Int) := resK tb Try.f111.results.toList (decRes (slices_order2CmpFunc_api_Move.D N) slices_order2CmpFunc_api_Move.lc)
theorem slices_order2CmpFunc_api_Move.entry (N : Nat) (rec : List Item → St → Option (Int × Int × Int)) (x : (argH slices_order2CmpFunc_api_Move.as).den) : seg tb (slices_order2CmpFunc_api_Move.G N) slices_order2CmpFunc_api_Move.A 1 rec (slices_order2CmpFunc_api_Move.fin N) segFuel [.code (bodyOf Try.f111)] (initSt Try.f111 (encArgs slices_order2CmpFunc_api_Move.as x) (encMem slices_order2CmpFunc_api_Move.as x)) = slices_order2CmpFunc_api_Move.e N x.1 x.2.1 x.2.2.1 x.2.2.2.1 := by kernel_rfl
theorem slices_order2CmpFunc_api_Move.ok (N : Nat) : FnOk Try.prog 111 (slices_order2CmpFunc_api_Move.D N) := by
  refine FnOk_of tb_ok (Checked.mixed Try.checked) ⟨Try.f111, Try.func111, by kernel_rfl, by kernel_rfl, fun x y h => ⟨slices_order2CmpFunc_api_Move.G N, slices_order2CmpFunc_api_Move.A, N, gamOf_ok (by simp only [List.forall_mem_cons, List.not_mem_nil, false_implies, implies_true, and_true]; exact ⟨moves_compare.ok N, moves_compare.fit N⟩), ?_⟩⟩ (slices_order2CmpFunc_api_Move.fit N)
  rw [absFn_n (n0 := 1) rfl (by kernel_rfl)]
  exact (slices_order2CmpFunc_api_Move.entry N _ x).trans h
/-! ### f110: slices.medianCmpFunc[gamehall/api.Move] -/
def slices_medianCmpFunc_api_Move.as : List MK := [.d false (.slice 41 (.prod (.int .i64) (.prod (.int .i64) (.int .i64)))), .d false (.int .i64), .d false (.int .i64), .d false (.int .i64), .o (.ptr 3 (.d (.int .i64))) true, .f 66]
def slices_medianCmpFunc_api_Move.rs : List (Bool × HT) := [(false, (.d (.int .i64)))]
def slices_medianCmpFunc_api_Move.lc : List AC := [.ptr 0 0]
def slices_medianCmpFunc_api_Move.D (N : Nat) : DFn := ⟨slices_medianCmpFunc_api_Move.as, slices_medianCmpFunc_api_Move.rs, (Int × Int), fun x => slices_medianCmpFunc_api_Move N x.1 x.2.1 x.2.2.1 x.2.2.2.1 x.2.2.2.2.1, fun r o => (r.1, o.1), fun b => (b.1, ()), fun b => (b.2, ()), none⟩
theorem slices_medianCmpFunc_api_Move.fit (N : Nat) : (slices_medianCmpFunc_api_Move.D N).Fit := ⟨fun _ _ => rfl, fun _ _ => rfl, by kernel_rfl, (fun _ _ h => nomatch h), by kernel_rfl⟩
noncomputable def slices_medianCmpFunc_api_Move.G (N : Nat) : Gam := gamOf [(111, slices_order2CmpFunc_api_Move.D N)]
def slices_medianCmpFunc_api_Move.A : Nat → Option LoopAnn := fun _ => none
noncomputable def slices_medianCmpFunc_api_Move.fin (N : Nat) : St → Option (Int × Int) := resK tb Try.f110.results.toList (decRes (slices_medianCmpFunc_api_Move.D N) slices_medianCmpFunc_api_Move.lc)
theorem slices_medianCmpFunc_api_Move.entry (N : Nat) (rec : List Item → St → Option (Int × Int)) (x : (argH slices_medianCmpFunc_api_Move.as).den) : seg tb (slices_medianCmpFunc_api_Move.G N) slices_medianCmpFunc_api_Move.A 1 rec (slices_medianCmpFunc_api_Move.fin N) segFuel [.code (bodyOf Try.f110)] (initSt Try.f110 (encArgs slices_medianCmpFunc_api_Move.as x) (encMem slices_medianCmpFunc_api_Move.as x)) = slices_medianCmpFunc_api_Move.e N x.1 x.2.1 x.2.2.1 x.2.2.2.1 x.2.2.2.2.1 := by kernel_rfl
theorem slices_medianCmpFunc_api_Move.ok (N : Nat) : FnOk Try.prog 110 (slices_medianCmpFunc_api_Move.D N) := by
  refine FnOk_of tb_ok (Checked.mixed Try.checked) ⟨Try.f110, Try.func110, by kernel_rfl, by kernel_rfl, fun x y h => ⟨slices_medianCmpFunc_api_Move.G N, slices_medianCmpFunc_api_Move.A, N, gamOf_ok (by simp only [List.forall_mem_cons, List.not_mem_nil, false_implies, implies_true, and_true]; exact ⟨slices_order2CmpFunc_api_Move.ok N, slices_order2CmpFunc_api_Move.fit N⟩), ?_⟩⟩ (slices_medianCmpFunc_api_Move.fit N)
  rw [absFn_n (n0 := 1) rfl (by kernel_rfl)]
  exact (slices_medianCmpFunc_api_Move.entry N _ x).trans h
/-! ### f109: slices.medianAdjacentCmpFunc[gamehall/api.Move] -/
def slices_medianAdjacentCmpFunc_api_Move.as : List MK := [.d false (.slice 41 (.prod (.int .i64) (.prod (.int .i64) (.int .i64)))), .d false (.int .i64), .o (.ptr 3 (.d (.int .i64))) true, .f 66]
def slices_medianAdjacentCmpFunc_api_Move.rs : List (Bool × HT) := [(false, (.d (.int .i64)))]
def slices_medianAdjacentCmpFunc_api_Move.lc : List AC := [.ptr 0 0]
def slices_medianAdjacentCmpFunc_api_Move.D (N : Nat) : DFn := ⟨slices_medianAdjacentCmpFunc_api_Move.as, slices_medianAdjacentCmpFunc_api_Move.rs, (Int × Int), fun x => slices_medianAdjacentCmpFunc_api_Move N x.1 x.2.1 x.2.2.1, fun r o => (r.1, o.1), fun b => (b.1, ()), fun b => (b.2, ()), none⟩
theorem slices_medianAdjacentCmpFunc_api_Move.fit (N : Nat) : (slices_medianAdjacentCmpFunc_api_Move.D N).Fit := ⟨fun _ _ => rfl, fun _ _ => rfl, by kernel_rfl, (fun _ _ h => nomatch h), by kernel_rfl⟩
noncomputable def slices_medianAdjacentCmpFunc_api_Move.G (N : Nat) : Gam := gamOf [(110, slices_medianCmpFunc_api_Move.D N)]
def slices_medianAdjacentCmpFunc_api_Move.A : Nat → Option LoopAnn := fun _ => none
noncomputable def slices_medianAdjacentCmpFunc_api_Move.fin (N : Nat) : St → Option (Int × Int) := resK tb Try.f109.results.toList (decRes (slices_medianAdjacentCmpFunc_api_Move.D N) slices_medianAdjacentCmpFunc_api_Move.lc)
theorem slices_medianAdjacentCmpFunc_api_Move.entry (N : Nat) (rec : List Item → St → Option (Int × Int)) (x : (argH slices_medianAdjacentCmpFunc_api_Move.as).den) : seg tb (slices_medianAdjacentCmpFunc_api_Move.G N) slices_medianAdjacentCmpFunc_api_Move.A 1 rec (slices_medianAdjacentCmpFunc_api_Move.fin N) segFuel [.code (bodyOf Try.f109)] (initSt Try.f109 (encArgs slices_medianAdjacentCmpFunc_api_Move.as x) (encMem slices_medianAdjacentCmpFunc_api_Move.as x)) = slices_medianAdjacentCmpFunc_api_Move.e N x.1 x.2.1 x.2.2.1 := by kernel_rfl
theorem slices_medianAdjacentCmpFunc_api_Move.ok (N : Nat) : FnOk Try.prog 109 (slices_medianAdjacentCmpFunc_api_Move.D N) := by
  refine FnOk_of tb_ok (Checked.mixed Try.checked) ⟨Try.f109, Try.func109, by kernel_rfl, by kernel_rfl, fun x y h => ⟨slices_medianAdjacentCmpFunc_api_Move.G N, slices_medianAdjacentCmpFunc_api_Move.A, N, gamOf_ok (by simp only [List.forall_mem_cons, List.not_mem_nil, false_implies, implies_true, and_true]; exact ⟨slices_medianCmpFunc_api_Move.ok N, slices_medianCmpFunc_api_Move.fit N⟩), ?_⟩⟩ (slices_medianAdjacentCmpFunc_api_Move.fit N)
  rw [absFn_n (n0 := 1) rfl (by kernel_rfl)]
  exact (slices_medianAdjacentCmpFunc_api_Move.entry N _ x).trans h
end Go.Proofs.Ytpielijehhhobaa.Am
