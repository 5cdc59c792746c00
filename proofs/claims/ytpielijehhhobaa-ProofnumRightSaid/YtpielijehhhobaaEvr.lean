/- PRINTED by gen.py: the abstract machine evaluates the loaded code to these functions. -/
import Derived.Test.YtpielijehhhobaaFnr1
import Derived.Test.YtpielijehhhobaaChecked
import Derived.Eval
set_option linter.unusedVariables false
set_option linter.unusedSimpArgs false
namespace Go.Proofs.Ytpielijehhhobaa.Am
open Go
abbrev tI : Ty := .int .i64
set_option maxRecDepth 100000
def ti3 : TI := ⟨.int .i64, 1, 8, some tI, [.int .i64 0], false, none, none⟩
def ti4 : TI := ⟨.bool, 1, 1, some .bool, [.bool false], false, none, none⟩
def ti5 : TI := ⟨.int .u8, 1, 1, some (.int .u8), [.int .u8 0], false, none, none⟩
def ti9 : TI := ⟨.str, 1, 16, some .str, [.str (⟨#[]⟩ : ByteArray)], false, none, none⟩
def ti22 : TI := ⟨.slice 107, 1, 24, some (.slice 107 (.prod (.int .u8) (.prod tI (.prod tI (.slice 127 (.prod tI (.prod tI (.prod tI tI)))))))), [.nilS], false, none, none⟩
def ti23 : TI := ⟨.slice 3, 1, 24, some (.slice 3 tI), [.nilS], false, none, none⟩
def ti24 : TI := ⟨.slice 109, 1, 24, some (.slice 109 (.prod tI (.prod tI (.prod tI .bool)))), [.nilS], false, none, none⟩
def ti26 : TI := ⟨.struct [(0, 9), (1, 3), (2, 3), (3, 22), (4, 23), (5, 4), (6, 4), (7, 24), (8, 3), (9, 3), (10, 3)], 11, 136, some (.prod .str (.prod tI (.prod tI (.prod (.slice 107 (.prod (.int .u8) (.prod tI (.prod tI (.slice 127 (.prod tI (.prod tI (.prod tI tI)))))))) (.prod (.slice 3 tI) (.prod .bool (.prod .bool (.prod (.slice 109 (.prod tI (.prod tI (.prod tI .bool)))) (.prod tI (.prod tI tI)))))))))), [.str (⟨#[]⟩ : ByteArray), .int .i64 0, .int .i64 0, .nilS, .nilS, .bool false, .bool false, .nilS, .int .i64 0, .int .i64 0, .int .i64 0], false, none, none⟩
def ti27 : TI := ⟨.array 2 23, 2, 48, some (.prod (.slice 3 tI) (.slice 3 tI)), [.nilS, .nilS], false, none, none⟩
def ti29 : TI := ⟨.struct [(0, 23), (1, 27), (3, 3), (4, 3)], 5, 88, some (.prod (.slice 3 tI) (.prod (.prod (.slice 3 tI) (.slice 3 tI)) (.prod tI tI))), [.nilS, .nilS, .nilS, .int .i64 0, .int .i64 0], false, none, none⟩
def ti32 : TI := ⟨.struct [(0, 3), (1, 3), (2, 3), (3, 3)], 4, 32, some (.prod tI (.prod tI (.prod tI tI))), [.int .i64 0, .int .i64 0, .int .i64 0, .int .i64 0], false, none, none⟩
def ti33 : TI := ⟨.int .i64, 1, 8, some tI, [.int .i64 0], false, none, none⟩
def ti41 : TI := ⟨.struct [(0, 3), (1, 3), (2, 3)], 3, 24, some (.prod tI (.prod tI tI)), [.int .i64 0, .int .i64 0, .int .i64 0], true, none, none⟩
def ti50 : TI := ⟨.int .u64, 1, 8, some (.int .u64), [.int .u64 0], false, none, none⟩
def ti53 : TI := ⟨.slice 41, 1, 24, some (.slice 41 (.prod tI (.prod tI tI))), [.nilS], false, none, none⟩
def ti66 : TI := ⟨.ptr 115, 1, 8, none, [.nilP], false, none, none⟩
def ti69 : TI := ⟨.ptr 72, 1, 8, none, [.nilP], false, none, none⟩
def ti72 : TI := ⟨.struct [(0, 66), (1, 3), (2, 3)], 3, 24, none, [.nilP, .int .i64 0, .int .i64 0], false, none, none⟩
def ti73 : TI := ⟨.ptr 77, 1, 8, some .nod, [.nilP], false, none, none⟩
def ti75 : TI := ⟨.slice 73, 1, 24, none, [.nilS], false, none, none⟩
def ti77 : TI := ⟨.struct [(0, 53), (1, 75), (2, 3), (3, 3), (4, 4)], 5, 72, none, [.nilS, .nilS, .int .i64 0, .int .i64 0, .bool false], false, none, none⟩
def ti91 : TI := ⟨.int .u64, 1, 8, some (.int .u64), [.int .u64 0], false, none, none⟩
def ti101 : TI := ⟨.slice 33, 1, 24, some (.slice 33 tI), [.nilS], false, none, none⟩
def ti103 : TI := ⟨.other, 1, 8, none, [.nilF], false, none, none⟩
def ti105 : TI := ⟨.slice 127, 1, 24, some (.slice 127 (.prod tI (.prod tI (.prod tI tI)))), [.nilS], false, none, none⟩
def ti107 : TI := ⟨.struct [(0, 5), (1, 3), (2, 3), (3, 105)], 4, 48, some (.prod (.int .u8) (.prod tI (.prod tI (.slice 127 (.prod tI (.prod tI (.prod tI tI))))))), [.int .u8 0, .int .i64 0, .int .i64 0, .nilS], false, none, none⟩
def ti109 : TI := ⟨.struct [(0, 3), (1, 3), (2, 3), (3, 4)], 4, 32, some (.prod tI (.prod tI (.prod tI .bool))), [.int .i64 0, .int .i64 0, .int .i64 0, .bool false], false, none, none⟩
def ti113 : TI := ⟨.slice 144, 1, 24, some (.slice 144 (.prod (.prod tI (.prod tI tI)) (.prod tI (.prod tI (.prod .bool (.prod tI (.int .u64))))))), [.nilS], false, none, none⟩
def ti115 : TI := ⟨.struct [(0, 26), (11, 29), (16, 50), (17, 113)], 18, 256, some (.prod (.prod .str (.prod tI (.prod tI (.prod (.slice 107 (.prod (.int .u8) (.prod tI (.prod tI (.slice 127 (.prod tI (.prod tI (.prod tI tI)))))))) (.prod (.slice 3 tI) (.prod .bool (.prod .bool (.prod (.slice 109 (.prod tI (.prod tI (.prod tI .bool)))) (.prod tI (.prod tI tI)))))))))) (.prod (.prod (.slice 3 tI) (.prod (.prod (.slice 3 tI) (.slice 3 tI)) (.prod tI tI))) (.prod (.int .u64) (.slice 144 (.prod (.prod tI (.prod tI tI)) (.prod tI (.prod tI (.prod .bool (.prod tI (.int .u64)))))))))), [.str (⟨#[]⟩ : ByteArray), .int .i64 0, .int .i64 0, .nilS, .nilS, .bool false, .bool false, .nilS, .int .i64 0, .int .i64 0, .int .i64 0, .nilS, .nilS, .nilS, .int .i64 0, .int .i64 0, .int .u64 0, .nilS], false, none, none⟩
def ti127 : TI := ⟨.struct [(0, 3), (1, 3), (2, 3), (3, 3)], 4, 32, some (.prod tI (.prod tI (.prod tI tI))), [.int .i64 0, .int .i64 0, .int .i64 0, .int .i64 0], false, none, none⟩
def ti130 : TI := ⟨.other, 1, 8, none, [.nilF], false, none, none⟩
def ti135 : TI := ⟨.ptr 137, 1, 8, none, [.nilP], false, none, none⟩
def ti137 : TI := ⟨.struct [(0, 3)], 1, 8, some tI, [.int .i64 0], false, none, none⟩
def ti144 : TI := ⟨.struct [(0, 41), (3, 3), (4, 3), (5, 4), (6, 3), (7, 50)], 8, 64, some (.prod (.prod tI (.prod tI tI)) (.prod tI (.prod tI (.prod .bool (.prod tI (.int .u64)))))), [.int .i64 0, .int .i64 0, .int .i64 0, .int .i64 0, .int .i64 0, .bool false, .int .i64 0, .int .u64 0], false, none, none⟩
def ti158 : TI := ⟨.int .i64, 1, 8, some tI, [.int .i64 0], false, none, none⟩
def ti169 : TI := ⟨.array 2 3, 2, 16, some (.prod tI tI), [.int .i64 0, .int .i64 0], false, none, none⟩
def ti170 : TI := ⟨.array 4 169, 8, 64, some (.prod (.prod tI tI) (.prod (.prod tI tI) (.prod (.prod tI tI) (.prod tI tI)))), [.int .i64 0, .int .i64 0, .int .i64 0, .int .i64 0, .int .i64 0, .int .i64 0, .int .i64 0, .int .i64 0], false, none, none⟩
def ti171 : TI := ⟨.int .u64, 1, 8, some (.int .u64), [.int .u64 0], false, none, none⟩
def ti175 : TI := ⟨.ptr 3, 1, 8, none, [.nilP], false, none, none⟩
def ti177 : TI := ⟨.ptr 171, 1, 8, none, [.nilP], false, none, none⟩
def tbt : TT := (.node 77 ti77 (.node 32 ti32 (.node 23 ti23 (.node 5 ti5 (.node 4 ti4 (.node 3 ti3 .nil .nil) .nil) (.node 22 ti22 (.node 9 ti9 .nil .nil) .nil)) (.node 27 ti27 (.node 26 ti26 (.node 24 ti24 .nil .nil) .nil) (.node 29 ti29 .nil .nil))) (.node 66 ti66 (.node 50 ti50 (.node 41 ti41 (.node 33 ti33 .nil .nil) .nil) (.node 53 ti53 .nil .nil)) (.node 73 ti73 (.node 72 ti72 (.node 69 ti69 .nil .nil) .nil) (.node 75 ti75 .nil .nil)))) (.node 130 ti130 (.node 107 ti107 (.node 103 ti103 (.node 101 ti101 (.node 91 ti91 .nil .nil) .nil) (.node 105 ti105 .nil .nil)) (.node 115 ti115 (.node 113 ti113 (.node 109 ti109 .nil .nil) .nil) (.node 127 ti127 .nil .nil))) (.node 169 ti169 (.node 144 ti144 (.node 137 ti137 (.node 135 ti135 .nil .nil) .nil) (.node 158 ti158 .nil .nil)) (.node 175 ti175 (.node 171 ti171 (.node 170 ti170 .nil .nil) .nil) (.node 177 ti177 .nil .nil)))))
def tb : Tab := tbt.get
theorem ti3_ok : TIok Try.prog tb 3 ti3 := TIok_mk (by kernel_rfl) (by kernel_rfl) ⟨rfl, rfl⟩ (by kernel_rfl) rfl trivial trivial (by kernel_rfl)
theorem ti4_ok : TIok Try.prog tb 4 ti4 := TIok_mk (by kernel_rfl) (by kernel_rfl) ⟨rfl, rfl⟩ (by kernel_rfl) rfl trivial trivial (by kernel_rfl)
theorem ti5_ok : TIok Try.prog tb 5 ti5 := TIok_mk (by kernel_rfl) (by kernel_rfl) ⟨rfl, rfl⟩ (by kernel_rfl) rfl trivial trivial (by kernel_rfl)
theorem ti9_ok : TIok Try.prog tb 9 ti9 := TIok_mk (by kernel_rfl) (by kernel_rfl) ⟨rfl, rfl⟩ (by kernel_rfl) rfl trivial trivial (by kernel_rfl)
theorem ti22_ok : TIok Try.prog tb 22 ti22 := TIok_mk (by kernel_rfl) (by kernel_rfl) ⟨rfl, rfl⟩ (by kernel_rfl) rfl trivial trivial (by kernel_rfl)
theorem ti23_ok : TIok Try.prog tb 23 ti23 := TIok_mk (by kernel_rfl) (by kernel_rfl) ⟨rfl, rfl⟩ (by kernel_rfl) rfl trivial trivial (by kernel_rfl)
theorem ti24_ok : TIok Try.prog tb 24 ti24 := TIok_mk (by kernel_rfl) (by kernel_rfl) ⟨rfl, rfl⟩ (by kernel_rfl) rfl trivial trivial (by kernel_rfl)
theorem ti26_ok : TIok Try.prog tb 26 ti26 := TIok_mk (by kernel_rfl) (by kernel_rfl) ⟨rfl, rfl⟩ (by kernel_rfl) rfl trivial trivial (by kernel_rfl)
theorem ti27_ok : TIok Try.prog tb 27 ti27 := TIok_mk (by kernel_rfl) (by kernel_rfl) ⟨rfl, rfl⟩ (by kernel_rfl) rfl trivial trivial (by kernel_rfl)
theorem ti29_ok : TIok Try.prog tb 29 ti29 := TIok_mk (by kernel_rfl) (by kernel_rfl) ⟨rfl, rfl⟩ (by kernel_rfl) rfl trivial trivial (by kernel_rfl)
theorem ti32_ok : TIok Try.prog tb 32 ti32 := TIok_mk (by kernel_rfl) (by kernel_rfl) ⟨rfl, rfl⟩ (by kernel_rfl) rfl trivial trivial (by kernel_rfl)
theorem ti33_ok : TIok Try.prog tb 33 ti33 := TIok_mk (by kernel_rfl) (by kernel_rfl) ⟨rfl, rfl⟩ (by kernel_rfl) rfl trivial trivial (by kernel_rfl)
theorem ti41_ok : TIok Try.prog tb 41 ti41 := TIok_mk (by kernel_rfl) (by kernel_rfl) ⟨rfl, rfl⟩ (by kernel_rfl) rfl trivial trivial (by kernel_rfl)
theorem ti50_ok : TIok Try.prog tb 50 ti50 := TIok_mk (by kernel_rfl) (by kernel_rfl) ⟨rfl, rfl⟩ (by kernel_rfl) rfl trivial trivial (by kernel_rfl)
theorem ti53_ok : TIok Try.prog tb 53 ti53 := TIok_mk (by kernel_rfl) (by kernel_rfl) ⟨rfl, rfl⟩ (by kernel_rfl) rfl trivial trivial (by kernel_rfl)
theorem ti66_ok : TIok Try.prog tb 66 ti66 := TIok_mk (by kernel_rfl) (by kernel_rfl) trivial (by kernel_rfl) rfl trivial trivial (by kernel_rfl)
theorem ti69_ok : TIok Try.prog tb 69 ti69 := TIok_mk (by kernel_rfl) (by kernel_rfl) trivial (by kernel_rfl) rfl trivial trivial (by kernel_rfl)
theorem ti72_ok : TIok Try.prog tb 72 ti72 := TIok_mk (by kernel_rfl) (by kernel_rfl) trivial (by kernel_rfl) rfl trivial trivial (by kernel_rfl)
theorem ti73_ok : TIok Try.prog tb 73 ti73 := TIok_mk (by kernel_rfl) (by kernel_rfl) ⟨rfl, rfl⟩ (by kernel_rfl) rfl trivial trivial (by kernel_rfl)
theorem ti75_ok : TIok Try.prog tb 75 ti75 := TIok_mk (by kernel_rfl) (by kernel_rfl) trivial (by kernel_rfl) rfl trivial trivial (by kernel_rfl)
theorem ti77_ok : TIok Try.prog tb 77 ti77 := TIok_mk (by kernel_rfl) (by kernel_rfl) trivial (by kernel_rfl) rfl trivial trivial (by kernel_rfl)
theorem ti91_ok : TIok Try.prog tb 91 ti91 := TIok_mk (by kernel_rfl) (by kernel_rfl) ⟨rfl, rfl⟩ (by kernel_rfl) rfl trivial trivial (by kernel_rfl)
theorem ti101_ok : TIok Try.prog tb 101 ti101 := TIok_mk (by kernel_rfl) (by kernel_rfl) ⟨rfl, rfl⟩ (by kernel_rfl) rfl trivial trivial (by kernel_rfl)
theorem ti103_ok : TIok Try.prog tb 103 ti103 := TIok_mk (by kernel_rfl) (by kernel_rfl) trivial (by kernel_rfl) rfl trivial trivial (by kernel_rfl)
theorem ti105_ok : TIok Try.prog tb 105 ti105 := TIok_mk (by kernel_rfl) (by kernel_rfl) ⟨rfl, rfl⟩ (by kernel_rfl) rfl trivial trivial (by kernel_rfl)
theorem ti107_ok : TIok Try.prog tb 107 ti107 := TIok_mk (by kernel_rfl) (by kernel_rfl) ⟨rfl, rfl⟩ (by kernel_rfl) rfl trivial trivial (by kernel_rfl)
theorem ti109_ok : TIok Try.prog tb 109 ti109 := TIok_mk (by kernel_rfl) (by kernel_rfl) ⟨rfl, rfl⟩ (by kernel_rfl) rfl trivial trivial (by kernel_rfl)
theorem ti113_ok : TIok Try.prog tb 113 ti113 := TIok_mk (by kernel_rfl) (by kernel_rfl) ⟨rfl, rfl⟩ (by kernel_rfl) rfl trivial trivial (by kernel_rfl)
theorem ti115_ok : TIok Try.prog tb 115 ti115 := TIok_mk (by kernel_rfl) (by kernel_rfl) ⟨rfl, rfl⟩ (by kernel_rfl) rfl trivial trivial (by kernel_rfl)
theorem ti127_ok : TIok Try.prog tb 127 ti127 := TIok_mk (by kernel_rfl) (by kernel_rfl) ⟨rfl, rfl⟩ (by kernel_rfl) rfl trivial trivial (by kernel_rfl)
theorem ti130_ok : TIok Try.prog tb 130 ti130 := TIok_mk (by kernel_rfl) (by kernel_rfl) trivial (by kernel_rfl) rfl trivial trivial (by kernel_rfl)
theorem ti135_ok : TIok Try.prog tb 135 ti135 := TIok_mk (by kernel_rfl) (by kernel_rfl) trivial (by kernel_rfl) rfl trivial trivial (by kernel_rfl)
theorem ti137_ok : TIok Try.prog tb 137 ti137 := TIok_mk (by kernel_rfl) (by kernel_rfl) ⟨rfl, rfl⟩ (by kernel_rfl) rfl trivial trivial (by kernel_rfl)
theorem ti144_ok : TIok Try.prog tb 144 ti144 := TIok_mk (by kernel_rfl) (by kernel_rfl) ⟨rfl, rfl⟩ (by kernel_rfl) rfl trivial trivial (by kernel_rfl)
theorem ti158_ok : TIok Try.prog tb 158 ti158 := TIok_mk (by kernel_rfl) (by kernel_rfl) ⟨rfl, rfl⟩ (by kernel_rfl) rfl trivial trivial (by kernel_rfl)
theorem ti169_ok : TIok Try.prog tb 169 ti169 := TIok_mk (by kernel_rfl) (by kernel_rfl) ⟨rfl, rfl⟩ (by kernel_rfl) rfl trivial trivial (by kernel_rfl)
theorem ti170_ok : TIok Try.prog tb 170 ti170 := TIok_mk (by kernel_rfl) (by kernel_rfl) ⟨rfl, rfl⟩ (by kernel_rfl) rfl trivial trivial (by kernel_rfl)
theorem ti171_ok : TIok Try.prog tb 171 ti171 := TIok_mk (by kernel_rfl) (by kernel_rfl) ⟨rfl, rfl⟩ (by kernel_rfl) rfl trivial trivial (by kernel_rfl)
theorem ti175_ok : TIok Try.prog tb 175 ti175 := TIok_mk (by kernel_rfl) (by kernel_rfl) trivial (by kernel_rfl) rfl trivial trivial (by kernel_rfl)
theorem ti177_ok : TIok Try.prog tb 177 ti177 := TIok_mk (by kernel_rfl) (by kernel_rfl) trivial (by kernel_rfl) rfl trivial trivial (by kernel_rfl)
theorem tb_ok : TabOk Try.prog tb := TT.ok ⟨ti77_ok, ⟨ti32_ok, ⟨ti23_ok, ⟨ti5_ok, ⟨ti4_ok, ⟨ti3_ok, trivial, trivial⟩, trivial⟩, ⟨ti22_ok, ⟨ti9_ok, trivial, trivial⟩, trivial⟩⟩, ⟨ti27_ok, ⟨ti26_ok, ⟨ti24_ok, trivial, trivial⟩, trivial⟩, ⟨ti29_ok, trivial, trivial⟩⟩⟩, ⟨ti66_ok, ⟨ti50_ok, ⟨ti41_ok, ⟨ti33_ok, trivial, trivial⟩, trivial⟩, ⟨ti53_ok, trivial, trivial⟩⟩, ⟨ti73_ok, ⟨ti72_ok, ⟨ti69_ok, trivial, trivial⟩, trivial⟩, ⟨ti75_ok, trivial, trivial⟩⟩⟩⟩, ⟨ti130_ok, ⟨ti107_ok, ⟨ti103_ok, ⟨ti101_ok, ⟨ti91_ok, trivial, trivial⟩, trivial⟩, ⟨ti105_ok, trivial, trivial⟩⟩, ⟨ti115_ok, ⟨ti113_ok, ⟨ti109_ok, trivial, trivial⟩, trivial⟩, ⟨ti127_ok, trivial, trivial⟩⟩⟩, ⟨ti169_ok, ⟨ti144_ok, ⟨ti137_ok, ⟨ti135_ok, trivial, trivial⟩, trivial⟩, ⟨ti158_ok, trivial, trivial⟩⟩, ⟨ti175_ok, ⟨ti171_ok, ⟨ti170_ok, trivial, trivial⟩, trivial⟩, ⟨ti177_ok, trivial, trivial⟩⟩⟩⟩⟩
def Q24.as : List MK := []
def Q24.rs : List (Bool × HT) := [(true, (.prod (.d .str) (.prod (.d tI) (.prod (.d tI) (.prod (.own 107 (.prod (.int .u8) (.prod tI (.prod tI (.slice 127 (.prod tI (.prod tI (.prod tI tI)))))))) (.prod (.own 3 tI) (.prod (.d .bool) (.prod (.d .bool) (.prod (.own 109 (.prod tI (.prod tI (.prod tI .bool)))) (.d (.prod tI (.prod tI tI))))))))))))]
def Q24.lc : List AC := []
def Q24.D (N : Nat) : DFn := ⟨Q24.as, Q24.rs, TRules, fun x => Q24 N, fun r o => r.1, fun b => (b, ()), fun b => (), none⟩
theorem Q24.fit (N : Nat) : (Q24.D N).Fit := ⟨fun _ _ => rfl, fun _ _ => rfl, by kernel_rfl, (fun _ _ h => nomatch h), by kernel_rfl⟩
noncomputable def Q24.G (N : Nat) : Gam := gamOf []
def Q24.A : Nat → Option LoopAnn := fun _ => none
noncomputable def Q24.fin (N : Nat) : St → Option TRules := resK tb Try.f24.results.toList (decRes (Q24.D N) Q24.lc)
theorem Q24.entry (N : Nat) (rec : List Item → St → Option TRules) (x : (argH Q24.as).den) : seg tb (Q24.G N) Q24.A 0 rec (Q24.fin N) segFuel [.code (bodyOf Try.f24)] (initSt Try.f24 (encArgs Q24.as x) (encMem Q24.as x)) = Q24.e N := by kernel_rfl
theorem Q24.ok (N : Nat) : FnOk Try.prog 24 (Q24.D N) := by
 refine FnOk_of tb_ok (Checked.mixed Try.checked) ⟨Try.f24, Try.func24, by kernel_rfl, by kernel_rfl, fun x y h => ⟨Q24.G N, Q24.A, N, gamOf_ok (fun p hp => nomatch hp), ?_⟩⟩ (Q24.fit N)
 rw [absFn_n (n0 := 0) rfl (by kernel_rfl)]
 exact (Q24.entry N _ x).trans h
def Q25.as : List MK := []
def Q25.rs : List (Bool × HT) := [(true, (.prod (.own 3 tI) (.prod (.prod (.own 3 tI) (.own 3 tI)) (.d (.prod tI tI)))))]
def Q25.lc : List AC := []
def Q25.D (N : Nat) : DFn := ⟨Q25.as, Q25.rs, TPos, fun x => Q25 N, fun r o => r.1, fun b => (b, ()), fun b => (), none⟩
theorem Q25.fit (N : Nat) : (Q25.D N).Fit := ⟨fun _ _ => rfl, fun _ _ => rfl, by kernel_rfl, (fun _ _ h => nomatch h), by kernel_rfl⟩
noncomputable def Q25.G (N : Nat) : Gam := gamOf []
def Q25.A : Nat → Option LoopAnn := fun _ => none
noncomputable def Q25.fin (N : Nat) : St → Option TPos := resK tb Try.f25.results.toList (decRes (Q25.D N) Q25.lc)
theorem Q25.entry (N : Nat) (rec : List Item → St → Option TPos) (x : (argH Q25.as).den) : seg tb (Q25.G N) Q25.A 0 rec (Q25.fin N) segFuel [.code (bodyOf Try.f25)] (initSt Try.f25 (encArgs Q25.as x) (encMem Q25.as x)) = Q25.e N := by kernel_rfl
theorem Q25.ok (N : Nat) : FnOk Try.prog 25 (Q25.D N) := by
 refine FnOk_of tb_ok (Checked.mixed Try.checked) ⟨Try.f25, Try.func25, by kernel_rfl, by kernel_rfl, fun x y h => ⟨Q25.G N, Q25.A, N, gamOf_ok (fun p hp => nomatch hp), ?_⟩⟩ (Q25.fit N)
 rw [absFn_n (n0 := 0) rfl (by kernel_rfl)]
 exact (Q25.entry N _ x).trans h
def Q83.as : List MK := [.d false .str]
def Q83.rs : List (Bool × HT) := [(false, (.d .bool))]
def Q83.lc : List AC := []
def Q83.D (N : Nat) : DFn := ⟨Q83.as, Q83.rs, Bool, fun x => Q83 N x.1, fun r o => r.1, fun b => (b, ()), fun b => (), none⟩
theorem Q83.fit (N : Nat) : (Q83.D N).Fit := ⟨fun _ _ => rfl, fun _ _ => rfl, by kernel_rfl, (fun _ _ h => nomatch h), by kernel_rfl⟩
noncomputable def Q83.G (N : Nat) : Gam := gamOf []
def Q83.A : Nat → Option LoopAnn := fun k => bif Nat.beq k 0 then some ⟨[0, 22, 23], [], [], [], [], 0, false⟩ else none
noncomputable def Q83.fin (N : Nat) : St → Option Bool := resK tb Try.f83.results.toList (decRes (Q83.D N) Q83.lc)
noncomputable def Q83.k0 : List Item := stackAt [.r, .r, .l, .r, .b] (bodyOf Try.f83) []
def Q83.st0 (s_ : ByteArray) (t23_ : Int) : St := ⟨[.one (.str s_)] ++ List.replicate 21 (.one .any) ++ [.one (.int .i64 (s_.size : Int)), .one (.int .i64 t23_)] ++ List.replicate 25 (.one .any), []⟩
theorem Q83.step0 (N : Nat) (rec : List Item → St → Option Bool) (s_ : ByteArray) (t23_ : Int) : seg tb (Q83.G N) Q83.A 0 rec (Q83.fin N) segFuel (loopBody Q83.k0) (Q83.st0 s_ t23_) = Q83.s0 N s_ (fun t23_ => rec Q83.k0 (Q83.st0 s_ t23_)) t23_ := by kernel_rfl
theorem Q83.entry (N : Nat) (rec : List Item → St → Option Bool) (x : (argH Q83.as).den) : seg tb (Q83.G N) Q83.A 0 rec (Q83.fin N) segFuel [.code (bodyOf Try.f83)] (initSt Try.f83 (encArgs Q83.as x) (encMem Q83.as x)) = Q83.e N (fun t23_ => rec Q83.k0 (Q83.st0 x.1 t23_)) x.1 := by kernel_rfl
theorem Q83.runs (N : Nat) (s_ : ByteArray) : ∀ n, (∀ (t23_ : Int), run tb (Q83.G N) Q83.A 0 (Q83.fin N) n Q83.k0 (Q83.st0 s_ t23_) = Q83.l0 N s_ n t23_)
 | 0 => fun _ => rfl
 | n + 1 => by
  have h0 := Q83.runs N s_ n
  have e0 : (fun (t23_ : Int) => run tb (Q83.G N) Q83.A 0 (Q83.fin N) n Q83.k0 (Q83.st0 s_ t23_)) = Q83.l0 N s_ n := by funext t23_; exact h0 t23_
  have g0 : (∀ (t23_ : Int), run tb (Q83.G N) Q83.A 0 (Q83.fin N) (n + 1) Q83.k0 (Q83.st0 s_ t23_) = Q83.l0 N s_ (n + 1) t23_) := by
   intro t23_
   exact (run_succ (by kernel_rfl)).trans ((Q83.step0 N _ s_ t23_).trans ((congrArg (fun r0 => Q83.s0 N s_ r0 t23_) e0).trans (Q83.l0_s N s_ n t23_).symm))
  exact g0
theorem Q83.ok (N : Nat) : FnOk Try.prog 83 (Q83.D N) := by
 refine FnOk_of tb_ok (Checked.mixed Try.checked) ⟨Try.f83, Try.func83, by kernel_rfl, by kernel_rfl, fun x y h => ⟨Q83.G N, Q83.A, N, gamOf_ok (fun p hp => nomatch hp), ?_⟩⟩ (Q83.fit N)
 rw [absFn_n (n0 := 0) rfl (by kernel_rfl)]
 refine (Q83.entry N (run tb (Q83.G N) Q83.A 0 (Q83.fin N) N) x).trans ?_
 have e0 : (fun (t23_ : Int) => run tb (Q83.G N) Q83.A 0 (Q83.fin N) N Q83.k0 (Q83.st0 x.1 t23_)) = Q83.l0 N x.1 N := by funext t23_; exact (Q83.runs N x.1 N) t23_
 have h' : (Q83.D N).f x = Q83.e N (Q83.l0 N x.1 N) x.1 := by kernel_rfl
 exact (congrArg (fun r0 => Q83.e N r0 x.1) e0).trans (h'.symm.trans h)
def Q94.as : List MK := [.d true (.prod tI (.prod tI (.prod tI tI)))]
def Q94.rs : List (Bool × HT) := [(false, (.d tI))]
def Q94.lc : List AC := []
def Q94.D (N : Nat) : DFn := ⟨Q94.as, Q94.rs, Int, fun x => Q94 N x.1, fun r o => r.1, fun b => (b, ()), fun b => (), none⟩
theorem Q94.fit (N : Nat) : (Q94.D N).Fit := ⟨fun _ _ => rfl, fun _ _ => rfl, by kernel_rfl, (fun _ _ h => nomatch h), by kernel_rfl⟩
noncomputable def Q94.G (N : Nat) : Gam := gamOf []
def Q94.A : Nat → Option LoopAnn := fun _ => none
noncomputable def Q94.fin (N : Nat) : St → Option Int := resK tb Try.f94.results.toList (decRes (Q94.D N) Q94.lc)
theorem Q94.entry (N : Nat) (rec : List Item → St → Option Int) (x : (argH Q94.as).den) : seg tb (Q94.G N) Q94.A 0 rec (Q94.fin N) segFuel [.code (bodyOf Try.f94)] (initSt Try.f94 (encArgs Q94.as x) (encMem Q94.as x)) = Q94.e N x.1 := by kernel_rfl
theorem Q94.ok (N : Nat) : FnOk Try.prog 94 (Q94.D N) := by
 refine FnOk_of tb_ok (Checked.mixed Try.checked) ⟨Try.f94, Try.func94, by kernel_rfl, by kernel_rfl, fun x y h => ⟨Q94.G N, Q94.A, N, gamOf_ok (fun p hp => nomatch hp), ?_⟩⟩ (Q94.fit N)
 rw [absFn_n (n0 := 0) rfl (by kernel_rfl)]
 exact (Q94.entry N _ x).trans h
def Q84.as : List MK := [.d false (.slice 107 (.prod (.int .u8) (.prod tI (.prod tI (.slice 127 (.prod tI (.prod tI (.prod tI tI))))))))]
def Q84.rs : List (Bool × HT) := [(false, (.d tI))]
def Q84.lc : List AC := []
def Q84.D (N : Nat) : DFn := ⟨Q84.as, Q84.rs, Int, fun x => Q84 N x.1, fun r o => r.1, fun b => (b, ()), fun b => (), none⟩
theorem Q84.fit (N : Nat) : (Q84.D N).Fit := ⟨fun _ _ => rfl, fun _ _ => rfl, by kernel_rfl, (fun _ _ h => nomatch h), by kernel_rfl⟩
noncomputable def Q84.G (N : Nat) : Gam := gamOf [(94, Q94.D N)]
def Q84.A : Nat → Option LoopAnn := fun k => bif Nat.beq k 1 then some ⟨[0, 18, 19, 20], [], [], [], [], 0, false⟩ else bif Nat.beq k 3 then some ⟨[0, 4, 18, 19, 20, 35, 36, 37], [], [], [], [], 1, false⟩ else bif Nat.beq k 5 then some ⟨[0, 18, 19, 20, 72, 73, 74], [], [], [], [], 0, false⟩ else none
noncomputable def Q84.fin (N : Nat) : St → Option Int := resK tb Try.f84.results.toList (decRes (Q84.D N) Q84.lc)
noncomputable def Q84.k0 : List Item := stackAt [.r, .r, .l, .r, .b] (bodyOf Try.f84) []
def Q84.st0 (l_ : (List TPiece)) (t20_ : Int) : St := ⟨[.one (.fro 107 (.prod (.int .u8) (.prod tI (.prod tI (.slice 127 (.prod tI (.prod tI (.prod tI tI))))))) l_)] ++ List.replicate 17 (.one .any) ++ [.one (.fro 107 (.prod (.int .u8) (.prod tI (.prod tI (.slice 127 (.prod tI (.prod tI (.prod tI tI))))))) l_), .one (.int .i64 (l_.length : Int)), .one (.int .i64 t20_)] ++ List.replicate 64 (.one .any), []⟩
noncomputable def Q84.k1 : List Item := stackAt [.r, .r, .l, .r, .b, .w, .r, .r, .l, .b, .r, .r, .l, .r, .b] (bodyOf Try.f84) []
def Q84.st1 (l_ : (List TPiece)) (t20_ : Int) (t35_ : (List TPiece)) (t36_ t37_ p_ p_2 p_3 : Int) (p_4 : (List TWay)) : St := ⟨[.one (.fro 107 (.prod (.int .u8) (.prod tI (.prod tI (.slice 127 (.prod tI (.prod tI (.prod tI tI))))))) l_)] ++ List.replicate 3 (.one .any) ++ [.one (.ptr 0 0)] ++ List.replicate 13 (.one .any) ++ [.one (.fro 107 (.prod (.int .u8) (.prod tI (.prod tI (.slice 127 (.prod tI (.prod tI (.prod tI tI))))))) l_), .one (.int .i64 (l_.length : Int)), .one (.int .i64 t20_)] ++ List.replicate 14 (.one .any) ++ [.one (.fro 107 (.prod (.int .u8) (.prod tI (.prod tI (.slice 127 (.prod tI (.prod tI (.prod tI tI))))))) t35_), .one (.int .i64 t36_), .one (.int .i64 t37_)] ++ List.replicate 47 (.one .any), [.var 107 [.int .u8 p_, .int .i64 p_2, .int .i64 p_3, .fro 127 (.prod tI (.prod tI (.prod tI tI))) p_4]]⟩
noncomputable def Q84.k2 : List Item := stackAt [.r, .r, .l, .r, .b, .w, .r, .r, .l, .b, .r, .r, .r, .r, .r, .r, .b] (bodyOf Try.f84) []
def Q84.st2 (l_ : (List TPiece)) (t20_ : Int) (t72_ : (List TWay)) (t73_ t74_ : Int) : St := ⟨[.one (.fro 107 (.prod (.int .u8) (.prod tI (.prod tI (.slice 127 (.prod tI (.prod tI (.prod tI tI))))))) l_)] ++ List.replicate 17 (.one .any) ++ [.one (.fro 107 (.prod (.int .u8) (.prod tI (.prod tI (.slice 127 (.prod tI (.prod tI (.prod tI tI))))))) l_), .one (.int .i64 (l_.length : Int)), .one (.int .i64 t20_)] ++ List.replicate 51 (.one .any) ++ [.one (.fro 127 (.prod tI (.prod tI (.prod tI tI))) t72_), .one (.int .i64 t73_), .one (.int .i64 t74_)] ++ List.replicate 10 (.one .any), []⟩
theorem Q84.step0 (N : Nat) (rec : List Item → St → Option Int) (l_ : (List TPiece)) (t20_ : Int) : seg tb (Q84.G N) Q84.A 0 rec (Q84.fin N) segFuel (loopBody Q84.k0) (Q84.st0 l_ t20_) = Q84.s0 N l_ (fun t20_ => rec Q84.k0 (Q84.st0 l_ t20_)) (fun t20_ t35_ t36_ t37_ p_ p_2 p_3 p_4 => rec Q84.k1 (Q84.st1 l_ t20_ t35_ t36_ t37_ p_ p_2 p_3 p_4)) (fun t20_ t72_ t73_ t74_ => rec Q84.k2 (Q84.st2 l_ t20_ t72_ t73_ t74_)) t20_ := by kernel_rfl
theorem Q84.step1 (N : Nat) (rec : List Item → St → Option Int) (l_ : (List TPiece)) (t20_ : Int) (t35_ : (List TPiece)) (t36_ t37_ p_ p_2 p_3 : Int) (p_4 : (List TWay)) : seg tb (Q84.G N) Q84.A 0 rec (Q84.fin N) segFuel (loopBody Q84.k1) (Q84.st1 l_ t20_ t35_ t36_ t37_ p_ p_2 p_3 p_4) = Q84.s1 N l_ (fun t20_ => rec Q84.k0 (Q84.st0 l_ t20_)) (fun t20_ t35_ t36_ t37_ p_ p_2 p_3 p_4 => rec Q84.k1 (Q84.st1 l_ t20_ t35_ t36_ t37_ p_ p_2 p_3 p_4)) (fun t20_ t72_ t73_ t74_ => rec Q84.k2 (Q84.st2 l_ t20_ t72_ t73_ t74_)) t20_ t35_ t36_ t37_ p_ p_2 p_3 p_4 := by kernel_rfl
theorem Q84.step2 (N : Nat) (rec : List Item → St → Option Int) (l_ : (List TPiece)) (t20_ : Int) (t72_ : (List TWay)) (t73_ t74_ : Int) : seg tb (Q84.G N) Q84.A 0 rec (Q84.fin N) segFuel (loopBody Q84.k2) (Q84.st2 l_ t20_ t72_ t73_ t74_) = Q84.s2 N l_ (fun t20_ => rec Q84.k0 (Q84.st0 l_ t20_)) (fun t20_ t35_ t36_ t37_ p_ p_2 p_3 p_4 => rec Q84.k1 (Q84.st1 l_ t20_ t35_ t36_ t37_ p_ p_2 p_3 p_4)) (fun t20_ t72_ t73_ t74_ => rec Q84.k2 (Q84.st2 l_ t20_ t72_ t73_ t74_)) t20_ t72_ t73_ t74_ := by kernel_rfl
theorem Q84.entry (N : Nat) (rec : List Item → St → Option Int) (x : (argH Q84.as).den) : seg tb (Q84.G N) Q84.A 0 rec (Q84.fin N) segFuel [.code (bodyOf Try.f84)] (initSt Try.f84 (encArgs Q84.as x) (encMem Q84.as x)) = Q84.e N (fun t20_ => rec Q84.k0 (Q84.st0 x.1 t20_)) (fun t20_ t35_ t36_ t37_ p_ p_2 p_3 p_4 => rec Q84.k1 (Q84.st1 x.1 t20_ t35_ t36_ t37_ p_ p_2 p_3 p_4)) (fun t20_ t72_ t73_ t74_ => rec Q84.k2 (Q84.st2 x.1 t20_ t72_ t73_ t74_)) x.1 := by kernel_rfl
theorem Q84.runs (N : Nat) (l_ : (List TPiece)) : ∀ n, (∀ (t20_ : Int), run tb (Q84.G N) Q84.A 0 (Q84.fin N) n Q84.k0 (Q84.st0 l_ t20_) = Q84.l0 N l_ n t20_) ∧ (∀ (t20_ : Int) (t35_ : (List TPiece)) (t36_ t37_ p_ p_2 p_3 : Int) (p_4 : (List TWay)), run tb (Q84.G N) Q84.A 0 (Q84.fin N) n Q84.k1 (Q84.st1 l_ t20_ t35_ t36_ t37_ p_ p_2 p_3 p_4) = Q84.l1 N l_ n t20_ t35_ t36_ t37_ p_ p_2 p_3 p_4) ∧ (∀ (t20_ : Int) (t72_ : (List TWay)) (t73_ t74_ : Int), run tb (Q84.G N) Q84.A 0 (Q84.fin N) n Q84.k2 (Q84.st2 l_ t20_ t72_ t73_ t74_) = Q84.l2 N l_ n t20_ t72_ t73_ t74_)
 | 0 => ⟨fun _ => rfl, fun _ _ _ _ _ _ _ _ => rfl, fun _ _ _ _ => rfl⟩
 | n + 1 => by
  obtain ⟨h0, h1, h2⟩ := Q84.runs N l_ n
  have e0 : (fun (t20_ : Int) => run tb (Q84.G N) Q84.A 0 (Q84.fin N) n Q84.k0 (Q84.st0 l_ t20_)) = Q84.l0 N l_ n := by funext t20_; exact h0 t20_
  have e1 : (fun (t20_ : Int) (t35_ : (List TPiece)) (t36_ t37_ p_ p_2 p_3 : Int) (p_4 : (List TWay)) => run tb (Q84.G N) Q84.A 0 (Q84.fin N) n Q84.k1 (Q84.st1 l_ t20_ t35_ t36_ t37_ p_ p_2 p_3 p_4)) = Q84.l1 N l_ n := by funext t20_ t35_ t36_ t37_ p_ p_2 p_3 p_4; exact h1 t20_ t35_ t36_ t37_ p_ p_2 p_3 p_4
  have e2 : (fun (t20_ : Int) (t72_ : (List TWay)) (t73_ t74_ : Int) => run tb (Q84.G N) Q84.A 0 (Q84.fin N) n Q84.k2 (Q84.st2 l_ t20_ t72_ t73_ t74_)) = Q84.l2 N l_ n := by funext t20_ t72_ t73_ t74_; exact h2 t20_ t72_ t73_ t74_
  have g0 : (∀ (t20_ : Int), run tb (Q84.G N) Q84.A 0 (Q84.fin N) (n + 1) Q84.k0 (Q84.st0 l_ t20_) = Q84.l0 N l_ (n + 1) t20_) := by
   intro t20_
   exact (run_succ (by kernel_rfl)).trans ((Q84.step0 N _ l_ t20_).trans ((congr (congr (congrArg (fun r0 r1 r2 => Q84.s0 N l_ r0 r1 r2 t20_) e0) e1) e2).trans (Q84.l0_s N l_ n t20_).symm))
  have g1 : (∀ (t20_ : Int) (t35_ : (List TPiece)) (t36_ t37_ p_ p_2 p_3 : Int) (p_4 : (List TWay)), run tb (Q84.G N) Q84.A 0 (Q84.fin N) (n + 1) Q84.k1 (Q84.st1 l_ t20_ t35_ t36_ t37_ p_ p_2 p_3 p_4) = Q84.l1 N l_ (n + 1) t20_ t35_ t36_ t37_ p_ p_2 p_3 p_4) := by
   intro t20_ t35_ t36_ t37_ p_ p_2 p_3 p_4
   exact (run_succ (by kernel_rfl)).trans ((Q84.step1 N _ l_ t20_ t35_ t36_ t37_ p_ p_2 p_3 p_4).trans ((congr (congr (congrArg (fun r0 r1 r2 => Q84.s1 N l_ r0 r1 r2 t20_ t35_ t36_ t37_ p_ p_2 p_3 p_4) e0) e1) e2).trans (Q84.l1_s N l_ n t20_ t35_ t36_ t37_ p_ p_2 p_3 p_4).symm))
  have g2 : (∀ (t20_ : Int) (t72_ : (List TWay)) (t73_ t74_ : Int), run tb (Q84.G N) Q84.A 0 (Q84.fin N) (n + 1) Q84.k2 (Q84.st2 l_ t20_ t72_ t73_ t74_) = Q84.l2 N l_ (n + 1) t20_ t72_ t73_ t74_) := by
   intro t20_ t72_ t73_ t74_
   exact (run_succ (by kernel_rfl)).trans ((Q84.step2 N _ l_ t20_ t72_ t73_ t74_).trans ((congr (congr (congrArg (fun r0 r1 r2 => Q84.s2 N l_ r0 r1 r2 t20_ t72_ t73_ t74_) e0) e1) e2).trans (Q84.l2_s N l_ n t20_ t72_ t73_ t74_).symm))
  exact ⟨g0, g1, g2⟩
theorem Q84.ok (N : Nat) : FnOk Try.prog 84 (Q84.D N) := by
 refine FnOk_of tb_ok (Checked.mixed Try.checked) ⟨Try.f84, Try.func84, by kernel_rfl, by kernel_rfl, fun x y h => ⟨Q84.G N, Q84.A, N, gamOf_ok (by simp only [List.forall_mem_cons, List.not_mem_nil, false_implies, implies_true, and_true]; exact ⟨Q94.ok N, Q94.fit N⟩), ?_⟩⟩ (Q84.fit N)
 rw [absFn_n (n0 := 0) rfl (by kernel_rfl)]
 refine (Q84.entry N (run tb (Q84.G N) Q84.A 0 (Q84.fin N) N) x).trans ?_
 have e0 : (fun (t20_ : Int) => run tb (Q84.G N) Q84.A 0 (Q84.fin N) N Q84.k0 (Q84.st0 x.1 t20_)) = Q84.l0 N x.1 N := by funext t20_; exact (Q84.runs N x.1 N).1 t20_
 have e1 : (fun (t20_ : Int) (t35_ : (List TPiece)) (t36_ t37_ p_ p_2 p_3 : Int) (p_4 : (List TWay)) => run tb (Q84.G N) Q84.A 0 (Q84.fin N) N Q84.k1 (Q84.st1 x.1 t20_ t35_ t36_ t37_ p_ p_2 p_3 p_4)) = Q84.l1 N x.1 N := by funext t20_ t35_ t36_ t37_ p_ p_2 p_3 p_4; exact (Q84.runs N x.1 N).2.1 t20_ t35_ t36_ t37_ p_ p_2 p_3 p_4
 have e2 : (fun (t20_ : Int) (t72_ : (List TWay)) (t73_ t74_ : Int) => run tb (Q84.G N) Q84.A 0 (Q84.fin N) N Q84.k2 (Q84.st2 x.1 t20_ t72_ t73_ t74_)) = Q84.l2 N x.1 N := by funext t20_ t72_ t73_ t74_; exact (Q84.runs N x.1 N).2.2 t20_ t72_ t73_ t74_
 have h' : (Q84.D N).f x = Q84.e N (Q84.l0 N x.1 N) (Q84.l1 N x.1 N) (Q84.l2 N x.1 N) x.1 := by kernel_rfl
 exact (congr (congr (congrArg (fun r0 r1 r2 => Q84.e N r0 r1 r2 x.1) e0) e1) e2).trans (h'.symm.trans h)
def Q85.as : List MK := [.d true (.prod tI (.prod tI (.prod tI .bool))), .d false tI]
def Q85.rs : List (Bool × HT) := [(false, (.d tI))]
def Q85.lc : List AC := []
def Q85.D (N : Nat) : DFn := ⟨Q85.as, Q85.rs, Int, fun x => Q85 N x.1 x.2.1, fun r o => r.1, fun b => (b, ()), fun b => (), none⟩
theorem Q85.fit (N : Nat) : (Q85.D N).Fit := ⟨fun _ _ => rfl, fun _ _ => rfl, by kernel_rfl, (fun _ _ h => nomatch h), by kernel_rfl⟩
noncomputable def Q85.G (N : Nat) : Gam := gamOf []
def Q85.A : Nat → Option LoopAnn := fun _ => none
noncomputable def Q85.fin (N : Nat) : St → Option Int := resK tb Try.f85.results.toList (decRes (Q85.D N) Q85.lc)
theorem Q85.entry (N : Nat) (rec : List Item → St → Option Int) (x : (argH Q85.as).den) : seg tb (Q85.G N) Q85.A 0 rec (Q85.fin N) segFuel [.code (bodyOf Try.f85)] (initSt Try.f85 (encArgs Q85.as x) (encMem Q85.as x)) = Q85.e N x.1 x.2.1 := by kernel_rfl
theorem Q85.ok (N : Nat) : FnOk Try.prog 85 (Q85.D N) := by
 refine FnOk_of tb_ok (Checked.mixed Try.checked) ⟨Try.f85, Try.func85, by kernel_rfl, by kernel_rfl, fun x y h => ⟨Q85.G N, Q85.A, N, gamOf_ok (fun p hp => nomatch hp), ?_⟩⟩ (Q85.fit N)
 rw [absFn_n (n0 := 0) rfl (by kernel_rfl)]
 exact (Q85.entry N _ x).trans h
def Q58.as : List MK := [.d true (.prod .str (.prod tI (.prod tI (.prod (.slice 107 (.prod (.int .u8) (.prod tI (.prod tI (.slice 127 (.prod tI (.prod tI (.prod tI tI)))))))) (.prod (.slice 3 tI) (.prod .bool (.prod .bool (.prod (.slice 109 (.prod tI (.prod tI (.prod tI .bool)))) (.prod tI (.prod tI tI))))))))))]
def Q58.rs : List (Bool × HT) := [(false, (.d tI))]
def Q58.lc : List AC := []
def Q58.D (N : Nat) : DFn := ⟨Q58.as, Q58.rs, Int, fun x => Q58 N x.1, fun r o => r.1, fun b => (b, ()), fun b => (), none⟩
theorem Q58.fit (N : Nat) : (Q58.D N).Fit := ⟨fun _ _ => rfl, fun _ _ => rfl, by kernel_rfl, (fun _ _ h => nomatch h), by kernel_rfl⟩
noncomputable def Q58.G (N : Nat) : Gam := gamOf [(83, Q83.D N), (84, Q84.D N), (85, Q85.D N)]
def Q58.A : Nat → Option LoopAnn := fun k => bif Nat.beq k 1 then some ⟨[1, 49, 50, 51], [], [], [], [], 1, false⟩ else bif Nat.beq k 3 then some ⟨[1, 71, 72, 73], [], [], [], [], 1, false⟩ else none
noncomputable def Q58.fin (N : Nat) : St → Option Int := resK tb Try.f58.results.toList (decRes (Q58.D N) Q58.lc)
noncomputable def Q58.k0 : List Item := stackAt [.r, .r, .r, .r, .l, .r, .b] (bodyOf Try.f58) []
def Q58.st0 (r_ : TRules) (t50_ t51_ : Int) : St := ⟨[.one .any, .one (.ptr 0 0)] ++ List.replicate 47 (.one .any) ++ [.one (.fro 3 tI r_.2.2.2.2.1), .one (.int .i64 t50_), .one (.int .i64 t51_)] ++ List.replicate 67 (.one .any), [.var 26 [.str r_.1, .int .i64 r_.2.1, .int .i64 r_.2.2.1, .fro 107 (.prod (.int .u8) (.prod tI (.prod tI (.slice 127 (.prod tI (.prod tI (.prod tI tI))))))) r_.2.2.2.1, .fro 3 tI r_.2.2.2.2.1, .bool r_.2.2.2.2.2.1, .bool r_.2.2.2.2.2.2.1, .fro 109 (.prod tI (.prod tI (.prod tI .bool))) r_.2.2.2.2.2.2.2.1, .int .i64 r_.2.2.2.2.2.2.2.2.1, .int .i64 r_.2.2.2.2.2.2.2.2.2.1, .int .i64 r_.2.2.2.2.2.2.2.2.2.2]]⟩
noncomputable def Q58.k1 : List Item := stackAt [.r, .r, .r, .r, .r, .r, .l, .r, .b] (bodyOf Try.f58) []
def Q58.st1 (r_ : TRules) (t72_ t73_ : Int) : St := ⟨[.one .any, .one (.ptr 0 0)] ++ List.replicate 69 (.one .any) ++ [.one (.fro 109 (.prod tI (.prod tI (.prod tI .bool))) r_.2.2.2.2.2.2.2.1), .one (.int .i64 t72_), .one (.int .i64 t73_)] ++ List.replicate 45 (.one .any), [.var 26 [.str r_.1, .int .i64 r_.2.1, .int .i64 r_.2.2.1, .fro 107 (.prod (.int .u8) (.prod tI (.prod tI (.slice 127 (.prod tI (.prod tI (.prod tI tI))))))) r_.2.2.2.1, .fro 3 tI r_.2.2.2.2.1, .bool r_.2.2.2.2.2.1, .bool r_.2.2.2.2.2.2.1, .fro 109 (.prod tI (.prod tI (.prod tI .bool))) r_.2.2.2.2.2.2.2.1, .int .i64 r_.2.2.2.2.2.2.2.2.1, .int .i64 r_.2.2.2.2.2.2.2.2.2.1, .int .i64 r_.2.2.2.2.2.2.2.2.2.2]]⟩
theorem Q58.step0 (N : Nat) (rec : List Item → St → Option Int) (r_ : TRules) (t50_ t51_ : Int) : seg tb (Q58.G N) Q58.A 0 rec (Q58.fin N) segFuel (loopBody Q58.k0) (Q58.st0 r_ t50_ t51_) = Q58.s0 N r_ (fun t50_ t51_ => rec Q58.k0 (Q58.st0 r_ t50_ t51_)) (fun t72_ t73_ => rec Q58.k1 (Q58.st1 r_ t72_ t73_)) t50_ t51_ := by kernel_rfl
theorem Q58.step1 (N : Nat) (rec : List Item → St → Option Int) (r_ : TRules) (t72_ t73_ : Int) : seg tb (Q58.G N) Q58.A 0 rec (Q58.fin N) segFuel (loopBody Q58.k1) (Q58.st1 r_ t72_ t73_) = Q58.s1 N r_ (fun t50_ t51_ => rec Q58.k0 (Q58.st0 r_ t50_ t51_)) (fun t72_ t73_ => rec Q58.k1 (Q58.st1 r_ t72_ t73_)) t72_ t73_ := by kernel_rfl
theorem Q58.entry (N : Nat) (rec : List Item → St → Option Int) (x : (argH Q58.as).den) : seg tb (Q58.G N) Q58.A 0 rec (Q58.fin N) segFuel [.code (bodyOf Try.f58)] (initSt Try.f58 (encArgs Q58.as x) (encMem Q58.as x)) = Q58.e N (fun t50_ t51_ => rec Q58.k0 (Q58.st0 x.1 t50_ t51_)) (fun t72_ t73_ => rec Q58.k1 (Q58.st1 x.1 t72_ t73_)) x.1 := by kernel_rfl
theorem Q58.runs (N : Nat) (r_ : TRules) : ∀ n, (∀ (t50_ t51_ : Int), run tb (Q58.G N) Q58.A 0 (Q58.fin N) n Q58.k0 (Q58.st0 r_ t50_ t51_) = Q58.l0 N r_ n t50_ t51_) ∧ (∀ (t72_ t73_ : Int), run tb (Q58.G N) Q58.A 0 (Q58.fin N) n Q58.k1 (Q58.st1 r_ t72_ t73_) = Q58.l1 N r_ n t72_ t73_)
 | 0 => ⟨fun _ _ => rfl, fun _ _ => rfl⟩
 | n + 1 => by
  obtain ⟨h0, h1⟩ := Q58.runs N r_ n
  have e0 : (fun (t50_ t51_ : Int) => run tb (Q58.G N) Q58.A 0 (Q58.fin N) n Q58.k0 (Q58.st0 r_ t50_ t51_)) = Q58.l0 N r_ n := by funext t50_ t51_; exact h0 t50_ t51_
  have e1 : (fun (t72_ t73_ : Int) => run tb (Q58.G N) Q58.A 0 (Q58.fin N) n Q58.k1 (Q58.st1 r_ t72_ t73_)) = Q58.l1 N r_ n := by funext t72_ t73_; exact h1 t72_ t73_
  have g0 : (∀ (t50_ t51_ : Int), run tb (Q58.G N) Q58.A 0 (Q58.fin N) (n + 1) Q58.k0 (Q58.st0 r_ t50_ t51_) = Q58.l0 N r_ (n + 1) t50_ t51_) := by
   intro t50_ t51_
   exact (run_succ (by kernel_rfl)).trans ((Q58.step0 N _ r_ t50_ t51_).trans ((congr (congrArg (fun r0 r1 => Q58.s0 N r_ r0 r1 t50_ t51_) e0) e1).trans (Q58.l0_s N r_ n t50_ t51_).symm))
  have g1 : (∀ (t72_ t73_ : Int), run tb (Q58.G N) Q58.A 0 (Q58.fin N) (n + 1) Q58.k1 (Q58.st1 r_ t72_ t73_) = Q58.l1 N r_ (n + 1) t72_ t73_) := by
   intro t72_ t73_
   exact (run_succ (by kernel_rfl)).trans ((Q58.step1 N _ r_ t72_ t73_).trans ((congr (congrArg (fun r0 r1 => Q58.s1 N r_ r0 r1 t72_ t73_) e0) e1).trans (Q58.l1_s N r_ n t72_ t73_).symm))
  exact ⟨g0, g1⟩
theorem Q58.ok (N : Nat) : FnOk Try.prog 58 (Q58.D N) := by
 refine FnOk_of tb_ok (Checked.mixed Try.checked) ⟨Try.f58, Try.func58, by kernel_rfl, by kernel_rfl, fun x y h => ⟨Q58.G N, Q58.A, N, gamOf_ok (by simp only [List.forall_mem_cons, List.not_mem_nil, false_implies, implies_true, and_true]; exact ⟨⟨Q83.ok N, Q83.fit N⟩, ⟨Q84.ok N, Q84.fit N⟩, ⟨Q85.ok N, Q85.fit N⟩⟩), ?_⟩⟩ (Q58.fit N)
 rw [absFn_n (n0 := 0) rfl (by kernel_rfl)]
 refine (Q58.entry N (run tb (Q58.G N) Q58.A 0 (Q58.fin N) N) x).trans ?_
 have e0 : (fun (t50_ t51_ : Int) => run tb (Q58.G N) Q58.A 0 (Q58.fin N) N Q58.k0 (Q58.st0 x.1 t50_ t51_)) = Q58.l0 N x.1 N := by funext t50_ t51_; exact (Q58.runs N x.1 N).1 t50_ t51_
 have e1 : (fun (t72_ t73_ : Int) => run tb (Q58.G N) Q58.A 0 (Q58.fin N) N Q58.k1 (Q58.st1 x.1 t72_ t73_)) = Q58.l1 N x.1 N := by funext t72_ t73_; exact (Q58.runs N x.1 N).2 t72_ t73_
 have h' : (Q58.D N).f x = Q58.e N (Q58.l0 N x.1 N) (Q58.l1 N x.1 N) x.1 := by kernel_rfl
 exact (congr (congrArg (fun r0 r1 => Q58.e N r0 r1 x.1) e0) e1).trans (h'.symm.trans h)
def Q37.as : List MK := [.d true (.prod .str (.prod tI (.prod tI (.prod (.slice 107 (.prod (.int .u8) (.prod tI (.prod tI (.slice 127 (.prod tI (.prod tI (.prod tI tI)))))))) (.prod (.slice 3 tI) (.prod .bool (.prod .bool (.prod (.slice 109 (.prod tI (.prod tI (.prod tI .bool)))) (.prod tI (.prod tI tI)))))))))), .d true (.prod (.slice 3 tI) (.prod (.prod (.slice 3 tI) (.slice 3 tI)) (.prod tI tI)))]
def Q37.rs : List (Bool × HT) := [(false, (.d tI))]
def Q37.lc : List AC := []
def Q37.D (N : Nat) : DFn := ⟨Q37.as, Q37.rs, Int, fun x => Q37 N x.1 x.2.1, fun r o => r.1, fun b => (b, ()), fun b => (), none⟩
theorem Q37.fit (N : Nat) : (Q37.D N).Fit := ⟨fun _ _ => rfl, fun _ _ => rfl, by kernel_rfl, (fun _ _ h => nomatch h), by kernel_rfl⟩
noncomputable def Q37.G (N : Nat) : Gam := gamOf [(58, Q58.D N)]
def Q37.A : Nat → Option LoopAnn := fun k => bif Nat.beq k 0 then some ⟨[2, 3, 47, 48, 49], [], [], [], [], 2, false⟩ else bif Nat.beq k 2 then some ⟨[3, 65, 66], [], [], [], [0], 2, false⟩ else bif Nat.beq k 4 then some ⟨[3, 65, 66, 69, 70, 71], [], [], [], [], 2, false⟩ else none
noncomputable def Q37.fin (N : Nat) : St → Option Int := resK tb Try.f37.results.toList (decRes (Q37.D N) Q37.lc)
noncomputable def Q37.k0 : List Item := stackAt [.r, .r, .r, .l, .r, .b] (bodyOf Try.f37) []
def Q37.st0 (r_ : TRules) (p_ : TPos) (t49_ : Int) : St := ⟨[.one .any, .one .any, .one (.ptr 0 0), .one (.ptr 1 0)] ++ List.replicate 43 (.one .any) ++ [.one (.fro 3 tI p_.1), .one (.int .i64 (p_.1.length : Int)), .one (.int .i64 t49_)] ++ List.replicate 51 (.one .any), [.var 26 [.str r_.1, .int .i64 r_.2.1, .int .i64 r_.2.2.1, .fro 107 (.prod (.int .u8) (.prod tI (.prod tI (.slice 127 (.prod tI (.prod tI (.prod tI tI))))))) r_.2.2.2.1, .fro 3 tI r_.2.2.2.2.1, .bool r_.2.2.2.2.2.1, .bool r_.2.2.2.2.2.2.1, .fro 109 (.prod tI (.prod tI (.prod tI .bool))) r_.2.2.2.2.2.2.2.1, .int .i64 r_.2.2.2.2.2.2.2.2.1, .int .i64 r_.2.2.2.2.2.2.2.2.2.1, .int .i64 r_.2.2.2.2.2.2.2.2.2.2], .var 29 [.fro 3 tI p_.1, .fro 3 tI p_.2.1.1, .fro 3 tI p_.2.1.2, .int .i64 p_.2.2.1, .int .i64 p_.2.2.2]]⟩
noncomputable def Q37.k1 : List Item := stackAt [.r, .r, .r, .r, .l, .r, .b] (bodyOf Try.f37) []
def Q37.st1 (r_ : TRules) (p_ : TPos) (t66_ : Int) : St := ⟨List.replicate 3 (.one .any) ++ [.one (.ptr 1 0)] ++ List.replicate 61 (.one .any) ++ [.agg [.fro 3 tI p_.2.1.1, .fro 3 tI p_.2.1.2], .one (.int .i64 t66_)] ++ List.replicate 34 (.one .any), [.gone, .var 29 [.fro 3 tI p_.1, .fro 3 tI p_.2.1.1, .fro 3 tI p_.2.1.2, .int .i64 p_.2.2.1, .int .i64 p_.2.2.2]]⟩
noncomputable def Q37.k2 : List Item := stackAt [.r, .r, .r, .r, .l, .r, .b, .w, .r, .r, .l, .b, .r, .r, .b] (bodyOf Try.f37) []
def Q37.st2 (r_ : TRules) (p_ : TPos) (t66_ : Int) (t69_ : LInt) (t70_ t71_ : Int) : St := ⟨List.replicate 3 (.one .any) ++ [.one (.ptr 1 0)] ++ List.replicate 61 (.one .any) ++ [.agg [.fro 3 tI p_.2.1.1, .fro 3 tI p_.2.1.2], .one (.int .i64 t66_), .one .any, .one .any, .one (.fro 3 tI t69_), .one (.int .i64 t70_), .one (.int .i64 t71_)] ++ List.replicate 29 (.one .any), [.gone, .var 29 [.fro 3 tI p_.1, .fro 3 tI p_.2.1.1, .fro 3 tI p_.2.1.2, .int .i64 p_.2.2.1, .int .i64 p_.2.2.2]]⟩
theorem Q37.step0 (N : Nat) (rec : List Item → St → Option Int) (r_ : TRules) (p_ : TPos) (t49_ : Int) : seg tb (Q37.G N) Q37.A 0 rec (Q37.fin N) segFuel (loopBody Q37.k0) (Q37.st0 r_ p_ t49_) = Q37.s0 N r_ p_ (fun t49_ => rec Q37.k0 (Q37.st0 r_ p_ t49_)) (fun t66_ => rec Q37.k1 (Q37.st1 r_ p_ t66_)) (fun t66_ t69_ t70_ t71_ => rec Q37.k2 (Q37.st2 r_ p_ t66_ t69_ t70_ t71_)) t49_ := by kernel_rfl
theorem Q37.step1 (N : Nat) (rec : List Item → St → Option Int) (r_ : TRules) (p_ : TPos) (t66_ : Int) : seg tb (Q37.G N) Q37.A 0 rec (Q37.fin N) segFuel (loopBody Q37.k1) (Q37.st1 r_ p_ t66_) = Q37.s1 N r_ p_ (fun t49_ => rec Q37.k0 (Q37.st0 r_ p_ t49_)) (fun t66_ => rec Q37.k1 (Q37.st1 r_ p_ t66_)) (fun t66_ t69_ t70_ t71_ => rec Q37.k2 (Q37.st2 r_ p_ t66_ t69_ t70_ t71_)) t66_ := by kernel_rfl
theorem Q37.step2 (N : Nat) (rec : List Item → St → Option Int) (r_ : TRules) (p_ : TPos) (t66_ : Int) (t69_ : LInt) (t70_ t71_ : Int) : seg tb (Q37.G N) Q37.A 0 rec (Q37.fin N) segFuel (loopBody Q37.k2) (Q37.st2 r_ p_ t66_ t69_ t70_ t71_) = Q37.s2 N r_ p_ (fun t49_ => rec Q37.k0 (Q37.st0 r_ p_ t49_)) (fun t66_ => rec Q37.k1 (Q37.st1 r_ p_ t66_)) (fun t66_ t69_ t70_ t71_ => rec Q37.k2 (Q37.st2 r_ p_ t66_ t69_ t70_ t71_)) t66_ t69_ t70_ t71_ := by kernel_rfl
theorem Q37.entry (N : Nat) (rec : List Item → St → Option Int) (x : (argH Q37.as).den) : seg tb (Q37.G N) Q37.A 0 rec (Q37.fin N) segFuel [.code (bodyOf Try.f37)] (initSt Try.f37 (encArgs Q37.as x) (encMem Q37.as x)) = Q37.e N (fun t49_ => rec Q37.k0 (Q37.st0 x.1 x.2.1 t49_)) (fun t66_ => rec Q37.k1 (Q37.st1 x.1 x.2.1 t66_)) (fun t66_ t69_ t70_ t71_ => rec Q37.k2 (Q37.st2 x.1 x.2.1 t66_ t69_ t70_ t71_)) x.1 x.2.1 := by kernel_rfl
theorem Q37.runs (N : Nat) (r_ : TRules) (p_ : TPos) : ∀ n, (∀ (t49_ : Int), run tb (Q37.G N) Q37.A 0 (Q37.fin N) n Q37.k0 (Q37.st0 r_ p_ t49_) = Q37.l0 N r_ p_ n t49_) ∧ (∀ (t66_ : Int), run tb (Q37.G N) Q37.A 0 (Q37.fin N) n Q37.k1 (Q37.st1 r_ p_ t66_) = Q37.l1 N r_ p_ n t66_) ∧ (∀ (t66_ : Int) (t69_ : LInt) (t70_ t71_ : Int), run tb (Q37.G N) Q37.A 0 (Q37.fin N) n Q37.k2 (Q37.st2 r_ p_ t66_ t69_ t70_ t71_) = Q37.l2 N r_ p_ n t66_ t69_ t70_ t71_)
 | 0 => ⟨fun _ => rfl, fun _ => rfl, fun _ _ _ _ => rfl⟩
 | n + 1 => by
  obtain ⟨h0, h1, h2⟩ := Q37.runs N r_ p_ n
  have e0 : (fun (t49_ : Int) => run tb (Q37.G N) Q37.A 0 (Q37.fin N) n Q37.k0 (Q37.st0 r_ p_ t49_)) = Q37.l0 N r_ p_ n := by funext t49_; exact h0 t49_
  have e1 : (fun (t66_ : Int) => run tb (Q37.G N) Q37.A 0 (Q37.fin N) n Q37.k1 (Q37.st1 r_ p_ t66_)) = Q37.l1 N r_ p_ n := by funext t66_; exact h1 t66_
  have e2 : (fun (t66_ : Int) (t69_ : LInt) (t70_ t71_ : Int) => run tb (Q37.G N) Q37.A 0 (Q37.fin N) n Q37.k2 (Q37.st2 r_ p_ t66_ t69_ t70_ t71_)) = Q37.l2 N r_ p_ n := by funext t66_ t69_ t70_ t71_; exact h2 t66_ t69_ t70_ t71_
  have g0 : (∀ (t49_ : Int), run tb (Q37.G N) Q37.A 0 (Q37.fin N) (n + 1) Q37.k0 (Q37.st0 r_ p_ t49_) = Q37.l0 N r_ p_ (n + 1) t49_) := by
   intro t49_
   exact (run_succ (by kernel_rfl)).trans ((Q37.step0 N _ r_ p_ t49_).trans ((congr (congr (congrArg (fun r0 r1 r2 => Q37.s0 N r_ p_ r0 r1 r2 t49_) e0) e1) e2).trans (Q37.l0_s N r_ p_ n t49_).symm))
  have g1 : (∀ (t66_ : Int), run tb (Q37.G N) Q37.A 0 (Q37.fin N) (n + 1) Q37.k1 (Q37.st1 r_ p_ t66_) = Q37.l1 N r_ p_ (n + 1) t66_) := by
   intro t66_
   exact (run_succ (by kernel_rfl)).trans ((Q37.step1 N _ r_ p_ t66_).trans ((congr (congr (congrArg (fun r0 r1 r2 => Q37.s1 N r_ p_ r0 r1 r2 t66_) e0) e1) e2).trans (Q37.l1_s N r_ p_ n t66_).symm))
  have g2 : (∀ (t66_ : Int) (t69_ : LInt) (t70_ t71_ : Int), run tb (Q37.G N) Q37.A 0 (Q37.fin N) (n + 1) Q37.k2 (Q37.st2 r_ p_ t66_ t69_ t70_ t71_) = Q37.l2 N r_ p_ (n + 1) t66_ t69_ t70_ t71_) := by
   intro t66_ t69_ t70_ t71_
   exact (run_succ (by kernel_rfl)).trans ((Q37.step2 N _ r_ p_ t66_ t69_ t70_ t71_).trans ((congr (congr (congrArg (fun r0 r1 r2 => Q37.s2 N r_ p_ r0 r1 r2 t66_ t69_ t70_ t71_) e0) e1) e2).trans (Q37.l2_s N r_ p_ n t66_ t69_ t70_ t71_).symm))
  exact ⟨g0, g1, g2⟩
theorem Q37.ok (N : Nat) : FnOk Try.prog 37 (Q37.D N) := by
 refine FnOk_of tb_ok (Checked.mixed Try.checked) ⟨Try.f37, Try.func37, by kernel_rfl, by kernel_rfl, fun x y h => ⟨Q37.G N, Q37.A, N, gamOf_ok (by simp only [List.forall_mem_cons, List.not_mem_nil, false_implies, implies_true, and_true]; exact ⟨Q58.ok N, Q58.fit N⟩), ?_⟩⟩ (Q37.fit N)
 rw [absFn_n (n0 := 0) rfl (by kernel_rfl)]
 refine (Q37.entry N (run tb (Q37.G N) Q37.A 0 (Q37.fin N) N) x).trans ?_
 have e0 : (fun (t49_ : Int) => run tb (Q37.G N) Q37.A 0 (Q37.fin N) N Q37.k0 (Q37.st0 x.1 x.2.1 t49_)) = Q37.l0 N x.1 x.2.1 N := by funext t49_; exact (Q37.runs N x.1 x.2.1 N).1 t49_
 have e1 : (fun (t66_ : Int) => run tb (Q37.G N) Q37.A 0 (Q37.fin N) N Q37.k1 (Q37.st1 x.1 x.2.1 t66_)) = Q37.l1 N x.1 x.2.1 N := by funext t66_; exact (Q37.runs N x.1 x.2.1 N).2.1 t66_
 have e2 : (fun (t66_ : Int) (t69_ : LInt) (t70_ t71_ : Int) => run tb (Q37.G N) Q37.A 0 (Q37.fin N) N Q37.k2 (Q37.st2 x.1 x.2.1 t66_ t69_ t70_ t71_)) = Q37.l2 N x.1 x.2.1 N := by funext t66_ t69_ t70_ t71_; exact (Q37.runs N x.1 x.2.1 N).2.2 t66_ t69_ t70_ t71_
 have h' : (Q37.D N).f x = Q37.e N (Q37.l0 N x.1 x.2.1 N) (Q37.l1 N x.1 x.2.1 N) (Q37.l2 N x.1 x.2.1 N) x.1 x.2.1 := by kernel_rfl
 exact (congr (congr (congrArg (fun r0 r1 r2 => Q37.e N r0 r1 r2 x.1 x.2.1) e0) e1) e2).trans (h'.symm.trans h)
def Q46.as : List MK := [.d true (.prod .str (.prod tI (.prod tI (.prod (.slice 107 (.prod (.int .u8) (.prod tI (.prod tI (.slice 127 (.prod tI (.prod tI (.prod tI tI)))))))) (.prod (.slice 3 tI) (.prod .bool (.prod .bool (.prod (.slice 109 (.prod tI (.prod tI (.prod tI .bool)))) (.prod tI (.prod tI tI))))))))))]
def Q46.rs : List (Bool × HT) := [(true, (.prod (.d .str) (.prod (.d tI) (.prod (.d tI) (.prod (.own 107 (.prod (.int .u8) (.prod tI (.prod tI (.slice 127 (.prod tI (.prod tI (.prod tI tI)))))))) (.prod (.own 3 tI) (.prod (.d .bool) (.prod (.d .bool) (.prod (.own 109 (.prod tI (.prod tI (.prod tI .bool)))) (.d (.prod tI (.prod tI tI))))))))))))]
def Q46.lc : List AC := []
def Q46.D (N : Nat) : DFn := ⟨Q46.as, Q46.rs, TRules, fun x => Q46 N x.1, fun r o => r.1, fun b => (b, ()), fun b => (), none⟩
theorem Q46.fit (N : Nat) : (Q46.D N).Fit := ⟨fun _ _ => rfl, fun _ _ => rfl, by kernel_rfl, (fun _ _ h => nomatch h), by kernel_rfl⟩
noncomputable def Q46.G (N : Nat) : Gam := gamOf []
def Q46.A : Nat → Option LoopAnn := fun k => bif Nat.beq k 0 then some ⟨[1, 2, 3, 13, 14, 15], [], [], [], [], 4, false⟩ else none
noncomputable def Q46.fin (N : Nat) : St → Option TRules := resK tb Try.f46.results.toList (decRes (Q46.D N) Q46.lc)
noncomputable def Q46.k0 : List Item := stackAt [.r, .r, .r, .l, .r, .b] (bodyOf Try.f46) []
def Q46.st0 (r_ : TRules) (t14_ t15_ : Int) (m3_ : (List TPiece)) : St := ⟨[.one .any, .one (.ptr 0 0), .one (.ptr 1 0), .one (.ptr 2 0)] ++ List.replicate 9 (.one .any) ++ [.one (.fro 107 (.prod (.int .u8) (.prod tI (.prod tI (.slice 127 (.prod tI (.prod tI (.prod tI tI))))))) r_.2.2.2.1), .one (.int .i64 t14_), .one (.int .i64 t15_)] ++ List.replicate 23 (.one .any), [.var 26 [.str r_.1, .int .i64 r_.2.1, .int .i64 r_.2.2.1, .fro 107 (.prod (.int .u8) (.prod tI (.prod tI (.slice 127 (.prod tI (.prod tI (.prod tI tI))))))) r_.2.2.2.1, .fro 3 tI r_.2.2.2.2.1, .bool r_.2.2.2.2.2.1, .bool r_.2.2.2.2.2.2.1, .fro 109 (.prod tI (.prod tI (.prod tI .bool))) r_.2.2.2.2.2.2.2.1, .int .i64 r_.2.2.2.2.2.2.2.2.1, .int .i64 r_.2.2.2.2.2.2.2.2.2.1, .int .i64 r_.2.2.2.2.2.2.2.2.2.2], .var 26 [.str (⟨#[]⟩ : ByteArray), .int .i64 0, .int .i64 0, .nilS, .nilS, .bool false, .bool false, .nilS, .int .i64 0, .int .i64 0, .int .i64 0], .var 26 [.str r_.1, .int .i64 r_.2.1, .int .i64 r_.2.2.1, .own 3, .fro 3 tI r_.2.2.2.2.1, .bool r_.2.2.2.2.2.1, .bool r_.2.2.2.2.2.2.1, .fro 109 (.prod tI (.prod tI (.prod tI .bool))) r_.2.2.2.2.2.2.2.1, .int .i64 r_.2.2.2.2.2.2.2.2.1, .int .i64 r_.2.2.2.2.2.2.2.2.2.1, .int .i64 r_.2.2.2.2.2.2.2.2.2.2], .row 107 (.prod (.int .u8) (.prod tI (.prod tI (.slice 127 (.prod tI (.prod tI (.prod tI tI))))))) m3_]⟩
theorem Q46.step0 (N : Nat) (rec : List Item → St → Option TRules) (r_ : TRules) (t14_ t15_ : Int) (m3_ : (List TPiece)) : seg tb (Q46.G N) Q46.A 0 rec (Q46.fin N) segFuel (loopBody Q46.k0) (Q46.st0 r_ t14_ t15_ m3_) = Q46.s0 N r_ (fun t14_ t15_ m3_ => rec Q46.k0 (Q46.st0 r_ t14_ t15_ m3_)) t14_ t15_ m3_ := by kernel_rfl
theorem Q46.entry (N : Nat) (rec : List Item → St → Option TRules) (x : (argH Q46.as).den) : seg tb (Q46.G N) Q46.A 0 rec (Q46.fin N) segFuel [.code (bodyOf Try.f46)] (initSt Try.f46 (encArgs Q46.as x) (encMem Q46.as x)) = Q46.e N (fun t14_ t15_ m3_ => rec Q46.k0 (Q46.st0 x.1 t14_ t15_ m3_)) x.1 := by kernel_rfl
theorem Q46.runs (N : Nat) (r_ : TRules) : ∀ n, (∀ (t14_ t15_ : Int) (m3_ : (List TPiece)), run tb (Q46.G N) Q46.A 0 (Q46.fin N) n Q46.k0 (Q46.st0 r_ t14_ t15_ m3_) = Q46.l0 N r_ n t14_ t15_ m3_)
 | 0 => fun _ _ _ => rfl
 | n + 1 => by
  have h0 := Q46.runs N r_ n
  have e0 : (fun (t14_ t15_ : Int) (m3_ : (List TPiece)) => run tb (Q46.G N) Q46.A 0 (Q46.fin N) n Q46.k0 (Q46.st0 r_ t14_ t15_ m3_)) = Q46.l0 N r_ n := by funext t14_ t15_ m3_; exact h0 t14_ t15_ m3_
  have g0 : (∀ (t14_ t15_ : Int) (m3_ : (List TPiece)), run tb (Q46.G N) Q46.A 0 (Q46.fin N) (n + 1) Q46.k0 (Q46.st0 r_ t14_ t15_ m3_) = Q46.l0 N r_ (n + 1) t14_ t15_ m3_) := by
   intro t14_ t15_ m3_
   exact (run_succ (by kernel_rfl)).trans ((Q46.step0 N _ r_ t14_ t15_ m3_).trans ((congrArg (fun r0 => Q46.s0 N r_ r0 t14_ t15_ m3_) e0).trans (Q46.l0_s N r_ n t14_ t15_ m3_).symm))
  exact g0
theorem Q46.ok (N : Nat) : FnOk Try.prog 46 (Q46.D N) := by
 refine FnOk_of tb_ok (Checked.mixed Try.checked) ⟨Try.f46, Try.func46, by kernel_rfl, by kernel_rfl, fun x y h => ⟨Q46.G N, Q46.A, N, gamOf_ok (fun p hp => nomatch hp), ?_⟩⟩ (Q46.fit N)
 rw [absFn_n (n0 := 0) rfl (by kernel_rfl)]
 refine (Q46.entry N (run tb (Q46.G N) Q46.A 0 (Q46.fin N) N) x).trans ?_
 have e0 : (fun (t14_ t15_ : Int) (m3_ : (List TPiece)) => run tb (Q46.G N) Q46.A 0 (Q46.fin N) N Q46.k0 (Q46.st0 x.1 t14_ t15_ m3_)) = Q46.l0 N x.1 N := by funext t14_ t15_ m3_; exact (Q46.runs N x.1 N) t14_ t15_ m3_
 have h' : (Q46.D N).f x = Q46.e N (Q46.l0 N x.1 N) x.1 := by kernel_rfl
 exact (congrArg (fun r0 => Q46.e N r0 x.1) e0).trans (h'.symm.trans h)
def Q75.as : List MK := [.d false (.slice 3 tI)]
def Q75.rs : List (Bool × HT) := [(false, (.own 3 tI))]
def Q75.lc : List AC := []
def Q75.D (N : Nat) : DFn := ⟨Q75.as, Q75.rs, LInt, fun x => Q75 N x.1, fun r o => r.1, fun b => (b, ()), fun b => (), none⟩
theorem Q75.fit (N : Nat) : (Q75.D N).Fit := ⟨fun _ _ => rfl, fun _ _ => rfl, by kernel_rfl, (fun _ _ h => nomatch h), by kernel_rfl⟩
noncomputable def Q75.G (N : Nat) : Gam := gamOf []
def Q75.A : Nat → Option LoopAnn := fun _ => none
noncomputable def Q75.fin (N : Nat) : St → Option LInt := resK tb Try.f75.results.toList (decRes (Q75.D N) Q75.lc)
theorem Q75.entry0 (N : Nat) (rec : List Item → St → Option LInt) : seg tb (Q75.G N) Q75.A 0 rec (Q75.fin N) segFuel [.code (bodyOf Try.f75)] (initSt Try.f75 [.one .nilS] []) = some [] := by kernel_rfl
theorem Q75.entry (N : Nat) (rec : List Item → St → Option LInt) (x : LInt) : seg tb (Q75.G N) Q75.A 0 rec (Q75.fin N) segFuel [.code (bodyOf Try.f75)] (initSt Try.f75 [.one (.frn 3 tI x)] []) = Q75.e N x := by kernel_rfl
theorem Q75.ok (N : Nat) : FnOk Try.prog 75 (Q75.D N) := by
 refine FnOk_ofN (e := 3) (t := tI) (h := rfl) tb_ok (Checked.mixed Try.checked) ⟨Try.f75, Try.func75, by kernel_rfl, by kernel_rfl, fun x y h => ⟨Q75.G N, Q75.A, N, gamOf_ok (fun p hp => nomatch hp), fun hx => ?_, ?_⟩⟩ (Q75.fit N)
 ·subst hx; rw [absFn_n (n0 := 0) rfl (by kernel_rfl)]; exact (Q75.entry0 N _).trans h
 ·rw [absFn_n (n0 := 0) rfl (by kernel_rfl)]; exact (Q75.entry N _ x).trans h
def Q47.as : List MK := [.d true (.prod (.slice 3 tI) (.prod (.prod (.slice 3 tI) (.slice 3 tI)) (.prod tI tI)))]
def Q47.rs : List (Bool × HT) := [(true, (.prod (.own 3 tI) (.prod (.prod (.own 3 tI) (.own 3 tI)) (.d (.prod tI tI)))))]
def Q47.lc : List AC := []
def Q47.D (N : Nat) : DFn := ⟨Q47.as, Q47.rs, TPos, fun x => Q47 N x.1, fun r o => r.1, fun b => (b, ()), fun b => (), none⟩
theorem Q47.fit (N : Nat) : (Q47.D N).Fit := ⟨fun _ _ => rfl, fun _ _ => rfl, by kernel_rfl, (fun _ _ h => nomatch h), by kernel_rfl⟩
noncomputable def Q47.G (N : Nat) : Gam := gamOf [(75, Q75.D N)]
def Q47.A : Nat → Option LoopAnn := fun k => bif Nat.beq k 0 then some ⟨[], [], [], [], [], 0, true⟩ else none
noncomputable def Q47.fin (N : Nat) : St → Option TPos := resK tb Try.f47.results.toList (decRes (Q47.D N) Q47.lc)
theorem Q47.entry (N : Nat) (rec : List Item → St → Option TPos) (x : (argH Q47.as).den) : seg tb (Q47.G N) Q47.A 0 rec (Q47.fin N) segFuel [.code (bodyOf Try.f47)] (initSt Try.f47 (encArgs Q47.as x) (encMem Q47.as x)) = Q47.e N x.1 := by kernel_rfl
theorem Q47.ok (N : Nat) : FnOk Try.prog 47 (Q47.D N) := by
 refine FnOk_of tb_ok (Checked.mixed Try.checked) ⟨Try.f47, Try.func47, by kernel_rfl, by kernel_rfl, fun x y h => ⟨Q47.G N, Q47.A, N, gamOf_ok (by simp only [List.forall_mem_cons, List.not_mem_nil, false_implies, implies_true, and_true]; exact ⟨Q75.ok N, Q75.fit N⟩), ?_⟩⟩ (Q47.fit N)
 rw [absFn_n (n0 := 0) rfl (by kernel_rfl)]
 exact (Q47.entry N _ x).trans h
def Q15.as : List MK := [.d false tI]
def Q15.rs : List (Bool × HT) := [(false, (.d (.int .u64)))]
def Q15.lc : List AC := []
def Q15.D (N : Nat) : DFn := ⟨Q15.as, Q15.rs, Int, fun x => Q15 N x.1, fun r o => r.1, fun b => (b, ()), fun b => (), none⟩
theorem Q15.fit (N : Nat) : (Q15.D N).Fit := ⟨fun _ _ => rfl, fun _ _ => rfl, by kernel_rfl, (fun _ _ h => nomatch h), by kernel_rfl⟩
noncomputable def Q15.G (N : Nat) : Gam := gamOf []
def Q15.A : Nat → Option LoopAnn := fun _ => none
noncomputable def Q15.fin (N : Nat) : St → Option Int := resK tb Try.f15.results.toList (decRes (Q15.D N) Q15.lc)
theorem Q15.entry (N : Nat) (rec : List Item → St → Option Int) (x : (argH Q15.as).den) : seg tb (Q15.G N) Q15.A 0 rec (Q15.fin N) segFuel [.code (bodyOf Try.f15)] (initSt Try.f15 (encArgs Q15.as x) (encMem Q15.as x)) = Q15.e N x.1 := by kernel_rfl
theorem Q15.ok (N : Nat) : FnOk Try.prog 15 (Q15.D N) := by
 refine FnOk_of tb_ok (Checked.mixed Try.checked) ⟨Try.f15, Try.func15, by kernel_rfl, by kernel_rfl, fun x y h => ⟨Q15.G N, Q15.A, N, gamOf_ok (fun p hp => nomatch hp), ?_⟩⟩ (Q15.fit N)
 rw [absFn_n (n0 := 0) rfl (by kernel_rfl)]
 exact (Q15.entry N _ x).trans h
def Q76.as : List MK := [.d false tI]
def Q76.rs : List (Bool × HT) := [(false, (.d (.int .u64)))]
def Q76.lc : List AC := []
def Q76.D (N : Nat) : DFn := ⟨Q76.as, Q76.rs, Int, fun x => Q76 N x.1, fun r o => r.1, fun b => (b, ()), fun b => (), none⟩
theorem Q76.fit (N : Nat) : (Q76.D N).Fit := ⟨fun _ _ => rfl, fun _ _ => rfl, by kernel_rfl, (fun _ _ h => nomatch h), by kernel_rfl⟩
noncomputable def Q76.G (N : Nat) : Gam := gamOf [(15, Q15.D N)]
def Q76.A : Nat → Option LoopAnn := fun _ => none
noncomputable def Q76.fin (N : Nat) : St → Option Int := resK tb Try.f76.results.toList (decRes (Q76.D N) Q76.lc)
theorem Q76.entry (N : Nat) (rec : List Item → St → Option Int) (x : (argH Q76.as).den) : seg tb (Q76.G N) Q76.A 0 rec (Q76.fin N) segFuel [.code (bodyOf Try.f76)] (initSt Try.f76 (encArgs Q76.as x) (encMem Q76.as x)) = Q76.e N x.1 := by kernel_rfl
theorem Q76.ok (N : Nat) : FnOk Try.prog 76 (Q76.D N) := by
 refine FnOk_of tb_ok (Checked.mixed Try.checked) ⟨Try.f76, Try.func76, by kernel_rfl, by kernel_rfl, fun x y h => ⟨Q76.G N, Q76.A, N, gamOf_ok (by simp only [List.forall_mem_cons, List.not_mem_nil, false_implies, implies_true, and_true]; exact ⟨Q15.ok N, Q15.fit N⟩), ?_⟩⟩ (Q76.fit N)
 rw [absFn_n (n0 := 0) rfl (by kernel_rfl)]
 exact (Q76.entry N _ x).trans h
def Q77.as : List MK := [.d false tI, .d false tI]
def Q77.rs : List (Bool × HT) := [(false, (.d (.int .u64)))]
def Q77.lc : List AC := []
def Q77.D (N : Nat) : DFn := ⟨Q77.as, Q77.rs, Int, fun x => Q77 N x.1 x.2.1, fun r o => r.1, fun b => (b, ()), fun b => (), none⟩
theorem Q77.fit (N : Nat) : (Q77.D N).Fit := ⟨fun _ _ => rfl, fun _ _ => rfl, by kernel_rfl, (fun _ _ h => nomatch h), by kernel_rfl⟩
noncomputable def Q77.G (N : Nat) : Gam := gamOf [(15, Q15.D N)]
def Q77.A : Nat → Option LoopAnn := fun _ => none
noncomputable def Q77.fin (N : Nat) : St → Option Int := resK tb Try.f77.results.toList (decRes (Q77.D N) Q77.lc)
theorem Q77.entry (N : Nat) (rec : List Item → St → Option Int) (x : (argH Q77.as).den) : seg tb (Q77.G N) Q77.A 0 rec (Q77.fin N) segFuel [.code (bodyOf Try.f77)] (initSt Try.f77 (encArgs Q77.as x) (encMem Q77.as x)) = Q77.e N x.1 x.2.1 := by kernel_rfl
theorem Q77.ok (N : Nat) : FnOk Try.prog 77 (Q77.D N) := by
 refine FnOk_of tb_ok (Checked.mixed Try.checked) ⟨Try.f77, Try.func77, by kernel_rfl, by kernel_rfl, fun x y h => ⟨Q77.G N, Q77.A, N, gamOf_ok (by simp only [List.forall_mem_cons, List.not_mem_nil, false_implies, implies_true, and_true]; exact ⟨Q15.ok N, Q15.fit N⟩), ?_⟩⟩ (Q77.fit N)
 rw [absFn_n (n0 := 0) rfl (by kernel_rfl)]
 exact (Q77.entry N _ x).trans h
def Q78.as : List MK := [.d false tI, .d false tI, .d false tI]
def Q78.rs : List (Bool × HT) := [(false, (.d (.int .u64)))]
def Q78.lc : List AC := []
def Q78.D (N : Nat) : DFn := ⟨Q78.as, Q78.rs, Int, fun x => Q78 N x.1 x.2.1 x.2.2.1, fun r o => r.1, fun b => (b, ()), fun b => (), none⟩
theorem Q78.fit (N : Nat) : (Q78.D N).Fit := ⟨fun _ _ => rfl, fun _ _ => rfl, by kernel_rfl, (fun _ _ h => nomatch h), by kernel_rfl⟩
noncomputable def Q78.G (N : Nat) : Gam := gamOf [(15, Q15.D N)]
def Q78.A : Nat → Option LoopAnn := fun _ => none
noncomputable def Q78.fin (N : Nat) : St → Option Int := resK tb Try.f78.results.toList (decRes (Q78.D N) Q78.lc)
theorem Q78.entry (N : Nat) (rec : List Item → St → Option Int) (x : (argH Q78.as).den) : seg tb (Q78.G N) Q78.A 0 rec (Q78.fin N) segFuel [.code (bodyOf Try.f78)] (initSt Try.f78 (encArgs Q78.as x) (encMem Q78.as x)) = Q78.e N x.1 x.2.1 x.2.2.1 := by kernel_rfl
theorem Q78.ok (N : Nat) : FnOk Try.prog 78 (Q78.D N) := by
 refine FnOk_of tb_ok (Checked.mixed Try.checked) ⟨Try.f78, Try.func78, by kernel_rfl, by kernel_rfl, fun x y h => ⟨Q78.G N, Q78.A, N, gamOf_ok (by simp only [List.forall_mem_cons, List.not_mem_nil, false_implies, implies_true, and_true]; exact ⟨Q15.ok N, Q15.fit N⟩), ?_⟩⟩ (Q78.fit N)
 rw [absFn_n (n0 := 0) rfl (by kernel_rfl)]
 exact (Q78.entry N _ x).trans h
def Q48.as : List MK := [.d true (.prod (.slice 3 tI) (.prod (.prod (.slice 3 tI) (.slice 3 tI)) (.prod tI tI)))]
def Q48.rs : List (Bool × HT) := [(false, (.d (.int .u64)))]
def Q48.lc : List AC := []
def Q48.D (N : Nat) : DFn := ⟨Q48.as, Q48.rs, Int, fun x => Q48 N x.1, fun r o => r.1, fun b => (b, ()), fun b => (), none⟩
theorem Q48.fit (N : Nat) : (Q48.D N).Fit := ⟨fun _ _ => rfl, fun _ _ => rfl, by kernel_rfl, (fun _ _ h => nomatch h), by kernel_rfl⟩
noncomputable def Q48.G (N : Nat) : Gam := gamOf [(76, Q76.D N), (77, Q77.D N), (78, Q78.D N)]
def Q48.A : Nat → Option LoopAnn := fun k => bif Nat.beq k 0 then some ⟨[1, 3, 14, 15, 16], [], [], [], [], 1, false⟩ else bif Nat.beq k 2 then some ⟨[3, 28, 29], [], [], [], [], 0, false⟩ else bif Nat.beq k 4 then some ⟨[3, 6, 28, 29, 33, 34, 35], [], [], [], [], 0, false⟩ else none
noncomputable def Q48.fin (N : Nat) : St → Option Int := resK tb Try.f48.results.toList (decRes (Q48.D N) Q48.lc)
noncomputable def Q48.k0 : List Item := stackAt [.r, .r, .l, .r, .b] (bodyOf Try.f48) []
def Q48.st0 (p_ : TPos) (k_ t16_ : Int) : St := ⟨[.one .any, .one (.ptr 0 0), .one .any, .one (.int .u64 k_)] ++ List.replicate 10 (.one .any) ++ [.one (.fro 3 tI p_.1), .one (.int .i64 (p_.1.length : Int)), .one (.int .i64 t16_)] ++ List.replicate 32 (.one .any), [.var 29 [.fro 3 tI p_.1, .fro 3 tI p_.2.1.1, .fro 3 tI p_.2.1.2, .int .i64 p_.2.2.1, .int .i64 p_.2.2.2]]⟩
noncomputable def Q48.k1 : List Item := stackAt [.r, .r, .r, .l, .r, .b] (bodyOf Try.f48) []
def Q48.st1 (p_ : TPos) (k_ t29_ : Int) : St := ⟨List.replicate 3 (.one .any) ++ [.one (.int .u64 k_)] ++ List.replicate 24 (.one .any) ++ [.agg [.fro 3 tI p_.2.1.1, .fro 3 tI p_.2.1.2], .one (.int .i64 t29_)] ++ List.replicate 19 (.one .any), []⟩
noncomputable def Q48.k2 : List Item := stackAt [.r, .r, .r, .l, .r, .b, .w, .r, .r, .l, .b, .r, .r, .b] (bodyOf Try.f48) []
def Q48.st2 (p_ : TPos) (k_ o_ t29_ : Int) (t33_ : LInt) (t34_ t35_ : Int) : St := ⟨List.replicate 3 (.one .any) ++ [.one (.int .u64 k_), .one .any, .one .any, .one (.int .i64 o_)] ++ List.replicate 21 (.one .any) ++ [.agg [.fro 3 tI p_.2.1.1, .fro 3 tI p_.2.1.2], .one (.int .i64 t29_)] ++ List.replicate 3 (.one .any) ++ [.one (.fro 3 tI t33_), .one (.int .i64 t34_), .one (.int .i64 t35_)] ++ List.replicate 13 (.one .any), []⟩
theorem Q48.step0 (N : Nat) (rec : List Item → St → Option Int) (p_ : TPos) (k_ t16_ : Int) : seg tb (Q48.G N) Q48.A 0 rec (Q48.fin N) segFuel (loopBody Q48.k0) (Q48.st0 p_ k_ t16_) = Q48.s0 N p_ (fun k_ t16_ => rec Q48.k0 (Q48.st0 p_ k_ t16_)) (fun k_ t29_ => rec Q48.k1 (Q48.st1 p_ k_ t29_)) (fun k_ o_ t29_ t33_ t34_ t35_ => rec Q48.k2 (Q48.st2 p_ k_ o_ t29_ t33_ t34_ t35_)) k_ t16_ := by kernel_rfl
theorem Q48.step1 (N : Nat) (rec : List Item → St → Option Int) (p_ : TPos) (k_ t29_ : Int) : seg tb (Q48.G N) Q48.A 0 rec (Q48.fin N) segFuel (loopBody Q48.k1) (Q48.st1 p_ k_ t29_) = Q48.s1 N p_ (fun k_ t16_ => rec Q48.k0 (Q48.st0 p_ k_ t16_)) (fun k_ t29_ => rec Q48.k1 (Q48.st1 p_ k_ t29_)) (fun k_ o_ t29_ t33_ t34_ t35_ => rec Q48.k2 (Q48.st2 p_ k_ o_ t29_ t33_ t34_ t35_)) k_ t29_ := by kernel_rfl
theorem Q48.step2 (N : Nat) (rec : List Item → St → Option Int) (p_ : TPos) (k_ o_ t29_ : Int) (t33_ : LInt) (t34_ t35_ : Int) : seg tb (Q48.G N) Q48.A 0 rec (Q48.fin N) segFuel (loopBody Q48.k2) (Q48.st2 p_ k_ o_ t29_ t33_ t34_ t35_) = Q48.s2 N p_ (fun k_ t16_ => rec Q48.k0 (Q48.st0 p_ k_ t16_)) (fun k_ t29_ => rec Q48.k1 (Q48.st1 p_ k_ t29_)) (fun k_ o_ t29_ t33_ t34_ t35_ => rec Q48.k2 (Q48.st2 p_ k_ o_ t29_ t33_ t34_ t35_)) k_ o_ t29_ t33_ t34_ t35_ := by kernel_rfl
theorem Q48.entry (N : Nat) (rec : List Item → St → Option Int) (x : (argH Q48.as).den) : seg tb (Q48.G N) Q48.A 0 rec (Q48.fin N) segFuel [.code (bodyOf Try.f48)] (initSt Try.f48 (encArgs Q48.as x) (encMem Q48.as x)) = Q48.e N (fun k_ t16_ => rec Q48.k0 (Q48.st0 x.1 k_ t16_)) (fun k_ t29_ => rec Q48.k1 (Q48.st1 x.1 k_ t29_)) (fun k_ o_ t29_ t33_ t34_ t35_ => rec Q48.k2 (Q48.st2 x.1 k_ o_ t29_ t33_ t34_ t35_)) x.1 := by kernel_rfl
theorem Q48.runs (N : Nat) (p_ : TPos) : ∀ n, (∀ (k_ t16_ : Int), run tb (Q48.G N) Q48.A 0 (Q48.fin N) n Q48.k0 (Q48.st0 p_ k_ t16_) = Q48.l0 N p_ n k_ t16_) ∧ (∀ (k_ t29_ : Int), run tb (Q48.G N) Q48.A 0 (Q48.fin N) n Q48.k1 (Q48.st1 p_ k_ t29_) = Q48.l1 N p_ n k_ t29_) ∧ (∀ (k_ o_ t29_ : Int) (t33_ : LInt) (t34_ t35_ : Int), run tb (Q48.G N) Q48.A 0 (Q48.fin N) n Q48.k2 (Q48.st2 p_ k_ o_ t29_ t33_ t34_ t35_) = Q48.l2 N p_ n k_ o_ t29_ t33_ t34_ t35_)
 | 0 => ⟨fun _ _ => rfl, fun _ _ => rfl, fun _ _ _ _ _ _ => rfl⟩
 | n + 1 => by
  obtain ⟨h0, h1, h2⟩ := Q48.runs N p_ n
  have e0 : (fun (k_ t16_ : Int) => run tb (Q48.G N) Q48.A 0 (Q48.fin N) n Q48.k0 (Q48.st0 p_ k_ t16_)) = Q48.l0 N p_ n := by funext k_ t16_; exact h0 k_ t16_
  have e1 : (fun (k_ t29_ : Int) => run tb (Q48.G N) Q48.A 0 (Q48.fin N) n Q48.k1 (Q48.st1 p_ k_ t29_)) = Q48.l1 N p_ n := by funext k_ t29_; exact h1 k_ t29_
  have e2 : (fun (k_ o_ t29_ : Int) (t33_ : LInt) (t34_ t35_ : Int) => run tb (Q48.G N) Q48.A 0 (Q48.fin N) n Q48.k2 (Q48.st2 p_ k_ o_ t29_ t33_ t34_ t35_)) = Q48.l2 N p_ n := by funext k_ o_ t29_ t33_ t34_ t35_; exact h2 k_ o_ t29_ t33_ t34_ t35_
  have g0 : (∀ (k_ t16_ : Int), run tb (Q48.G N) Q48.A 0 (Q48.fin N) (n + 1) Q48.k0 (Q48.st0 p_ k_ t16_) = Q48.l0 N p_ (n + 1) k_ t16_) := by
   intro k_ t16_
   exact (run_succ (by kernel_rfl)).trans ((Q48.step0 N _ p_ k_ t16_).trans ((congr (congr (congrArg (fun r0 r1 r2 => Q48.s0 N p_ r0 r1 r2 k_ t16_) e0) e1) e2).trans (Q48.l0_s N p_ n k_ t16_).symm))
  have g1 : (∀ (k_ t29_ : Int), run tb (Q48.G N) Q48.A 0 (Q48.fin N) (n + 1) Q48.k1 (Q48.st1 p_ k_ t29_) = Q48.l1 N p_ (n + 1) k_ t29_) := by
   intro k_ t29_
   exact (run_succ (by kernel_rfl)).trans ((Q48.step1 N _ p_ k_ t29_).trans ((congr (congr (congrArg (fun r0 r1 r2 => Q48.s1 N p_ r0 r1 r2 k_ t29_) e0) e1) e2).trans (Q48.l1_s N p_ n k_ t29_).symm))
  have g2 : (∀ (k_ o_ t29_ : Int) (t33_ : LInt) (t34_ t35_ : Int), run tb (Q48.G N) Q48.A 0 (Q48.fin N) (n + 1) Q48.k2 (Q48.st2 p_ k_ o_ t29_ t33_ t34_ t35_) = Q48.l2 N p_ (n + 1) k_ o_ t29_ t33_ t34_ t35_) := by
   intro k_ o_ t29_ t33_ t34_ t35_
   exact (run_succ (by kernel_rfl)).trans ((Q48.step2 N _ p_ k_ o_ t29_ t33_ t34_ t35_).trans ((congr (congr (congrArg (fun r0 r1 r2 => Q48.s2 N p_ r0 r1 r2 k_ o_ t29_ t33_ t34_ t35_) e0) e1) e2).trans (Q48.l2_s N p_ n k_ o_ t29_ t33_ t34_ t35_).symm))
  exact ⟨g0, g1, g2⟩
theorem Q48.ok (N : Nat) : FnOk Try.prog 48 (Q48.D N) := by
 refine FnOk_of tb_ok (Checked.mixed Try.checked) ⟨Try.f48, Try.func48, by kernel_rfl, by kernel_rfl, fun x y h => ⟨Q48.G N, Q48.A, N, gamOf_ok (by simp only [List.forall_mem_cons, List.not_mem_nil, false_implies, implies_true, and_true]; exact ⟨⟨Q76.ok N, Q76.fit N⟩, ⟨Q77.ok N, Q77.fit N⟩, ⟨Q78.ok N, Q78.fit N⟩⟩), ?_⟩⟩ (Q48.fit N)
 rw [absFn_n (n0 := 0) rfl (by kernel_rfl)]
 refine (Q48.entry N (run tb (Q48.G N) Q48.A 0 (Q48.fin N) N) x).trans ?_
 have e0 : (fun (k_ t16_ : Int) => run tb (Q48.G N) Q48.A 0 (Q48.fin N) N Q48.k0 (Q48.st0 x.1 k_ t16_)) = Q48.l0 N x.1 N := by funext k_ t16_; exact (Q48.runs N x.1 N).1 k_ t16_
 have e1 : (fun (k_ t29_ : Int) => run tb (Q48.G N) Q48.A 0 (Q48.fin N) N Q48.k1 (Q48.st1 x.1 k_ t29_)) = Q48.l1 N x.1 N := by funext k_ t29_; exact (Q48.runs N x.1 N).2.1 k_ t29_
 have e2 : (fun (k_ o_ t29_ : Int) (t33_ : LInt) (t34_ t35_ : Int) => run tb (Q48.G N) Q48.A 0 (Q48.fin N) N Q48.k2 (Q48.st2 x.1 k_ o_ t29_ t33_ t34_ t35_)) = Q48.l2 N x.1 N := by funext k_ o_ t29_ t33_ t34_ t35_; exact (Q48.runs N x.1 N).2.2 k_ o_ t29_ t33_ t34_ t35_
 have h' : (Q48.D N).f x = Q48.e N (Q48.l0 N x.1 N) (Q48.l1 N x.1 N) (Q48.l2 N x.1 N) x.1 := by kernel_rfl
 exact (congr (congr (congrArg (fun r0 r1 r2 => Q48.e N r0 r1 r2 x.1) e0) e1) e2).trans (h'.symm.trans h)
def Q27.as : List MK := [.d true (.prod .str (.prod tI (.prod tI (.prod (.slice 107 (.prod (.int .u8) (.prod tI (.prod tI (.slice 127 (.prod tI (.prod tI (.prod tI tI)))))))) (.prod (.slice 3 tI) (.prod .bool (.prod .bool (.prod (.slice 109 (.prod tI (.prod tI (.prod tI .bool)))) (.prod tI (.prod tI tI)))))))))), .d true (.prod (.slice 3 tI) (.prod (.prod (.slice 3 tI) (.slice 3 tI)) (.prod tI tI)))]
def Q27.rs : List (Bool × HT) := [(false, (.opt 115 (.prod (.prod (.d .str) (.prod (.d tI) (.prod (.d tI) (.prod (.own 107 (.prod (.int .u8) (.prod tI (.prod tI (.slice 127 (.prod tI (.prod tI (.prod tI tI)))))))) (.prod (.own 3 tI) (.prod (.d .bool) (.prod (.d .bool) (.prod (.own 109 (.prod tI (.prod tI (.prod tI .bool)))) (.d (.prod tI (.prod tI tI))))))))))) (.prod (.prod (.own 3 tI) (.prod (.prod (.own 3 tI) (.own 3 tI)) (.d (.prod tI tI)))) (.prod (.d (.int .u64)) (.own 144 (.prod (.prod tI (.prod tI tI)) (.prod tI (.prod tI (.prod .bool (.prod tI (.int .u64)))))))))))), (false, (.d tI))]
def Q27.lc : List AC := []
def Q27.D (N : Nat) : DFn := ⟨Q27.as, Q27.rs, ((Option TBoard) × Int), fun x => Q27 N x.1 x.2.1, fun r o => (r.1, r.2.1), fun b => (b.1, (b.2, ())), fun b => (), none⟩
theorem Q27.fit (N : Nat) : (Q27.D N).Fit := ⟨fun _ _ => rfl, fun _ _ => rfl, by kernel_rfl, (fun _ _ h => nomatch h), by kernel_rfl⟩
noncomputable def Q27.G (N : Nat) : Gam := gamOf [(37, Q37.D N), (46, Q46.D N), (47, Q47.D N), (48, Q48.D N)]
def Q27.A : Nat → Option LoopAnn := fun _ => none
noncomputable def Q27.fin (N : Nat) : St → Option ((Option TBoard) × Int) := resK tb Try.f27.results.toList (decRes (Q27.D N) Q27.lc)
theorem Q27.entry (N : Nat) (rec : List Item → St → Option ((Option TBoard) × Int)) (x : (argH Q27.as).den) : seg tb (Q27.G N) Q27.A 0 rec (Q27.fin N) segFuel [.code (bodyOf Try.f27)] (initSt Try.f27 (encArgs Q27.as x) (encMem Q27.as x)) = Q27.e N x.1 x.2.1 := by kernel_rfl
theorem Q27.ok (N : Nat) : FnOk Try.prog 27 (Q27.D N) := by
 refine FnOk_of tb_ok (Checked.mixed Try.checked) ⟨Try.f27, Try.func27, by kernel_rfl, by kernel_rfl, fun x y h => ⟨Q27.G N, Q27.A, N, gamOf_ok (by simp only [List.forall_mem_cons, List.not_mem_nil, false_implies, implies_true, and_true]; exact ⟨⟨Q37.ok N, Q37.fit N⟩, ⟨Q46.ok N, Q46.fit N⟩, ⟨Q47.ok N, Q47.fit N⟩, ⟨Q48.ok N, Q48.fit N⟩⟩), ?_⟩⟩ (Q27.fit N)
 rw [absFn_n (n0 := 0) rfl (by kernel_rfl)]
 exact (Q27.entry N _ x).trans h
def Q28.as : List MK := [.r (.prod (.prod .str (.prod tI (.prod tI (.prod (.slice 107 (.prod (.int .u8) (.prod tI (.prod tI (.slice 127 (.prod tI (.prod tI (.prod tI tI)))))))) (.prod (.slice 3 tI) (.prod .bool (.prod .bool (.prod (.slice 109 (.prod tI (.prod tI (.prod tI .bool)))) (.prod tI (.prod tI tI)))))))))) (.prod (.prod (.slice 3 tI) (.prod (.prod (.slice 3 tI) (.slice 3 tI)) (.prod tI tI))) (.prod (.int .u64) (.slice 144 (.prod (.prod tI (.prod tI tI)) (.prod tI (.prod tI (.prod .bool (.prod tI (.int .u64))))))))))]
def Q28.rs : List (Bool × HT) := [(false, (.d tI))]
def Q28.lc : List AC := []
def Q28.D (N : Nat) : DFn := ⟨Q28.as, Q28.rs, Int, fun x => Q28 N x.1, fun r o => r.1, fun b => (b, ()), fun b => (), none⟩
theorem Q28.fit (N : Nat) : (Q28.D N).Fit := ⟨fun _ _ => rfl, fun _ _ => rfl, by kernel_rfl, (fun _ _ h => nomatch h), by kernel_rfl⟩
noncomputable def Q28.G (N : Nat) : Gam := gamOf []
def Q28.A : Nat → Option LoopAnn := fun _ => none
noncomputable def Q28.fin (N : Nat) : St → Option Int := resK tb Try.f28.results.toList (decRes (Q28.D N) Q28.lc)
theorem Q28.entry (N : Nat) (rec : List Item → St → Option Int) (x : (argH Q28.as).den) : seg tb (Q28.G N) Q28.A 0 rec (Q28.fin N) segFuel [.code (bodyOf Try.f28)] (initSt Try.f28 (encArgs Q28.as x) (encMem Q28.as x)) = Q28.e N x.1 := by kernel_rfl
theorem Q28.ok (N : Nat) : FnOk Try.prog 28 (Q28.D N) := by
 refine FnOk_of tb_ok (Checked.mixed Try.checked) ⟨Try.f28, Try.func28, by kernel_rfl, by kernel_rfl, fun x y h => ⟨Q28.G N, Q28.A, N, gamOf_ok (fun p hp => nomatch hp), ?_⟩⟩ (Q28.fit N)
 rw [absFn_n (n0 := 0) rfl (by kernel_rfl)]
 exact (Q28.entry N _ x).trans h
def Q62.as : List MK := [.d false tI]
def Q62.rs : List (Bool × HT) := [(false, (.d tI))]
def Q62.lc : List AC := []
def Q62.D (N : Nat) : DFn := ⟨Q62.as, Q62.rs, Int, fun x => Q62 N x.1, fun r o => r.1, fun b => (b, ()), fun b => (), none⟩
theorem Q62.fit (N : Nat) : (Q62.D N).Fit := ⟨fun _ _ => rfl, fun _ _ => rfl, by kernel_rfl, (fun _ _ h => nomatch h), by kernel_rfl⟩
noncomputable def Q62.G (N : Nat) : Gam := gamOf []
def Q62.A : Nat → Option LoopAnn := fun _ => none
noncomputable def Q62.fin (N : Nat) : St → Option Int := resK tb Try.f62.results.toList (decRes (Q62.D N) Q62.lc)
theorem Q62.entry (N : Nat) (rec : List Item → St → Option Int) (x : (argH Q62.as).den) : seg tb (Q62.G N) Q62.A 0 rec (Q62.fin N) segFuel [.code (bodyOf Try.f62)] (initSt Try.f62 (encArgs Q62.as x) (encMem Q62.as x)) = Q62.e N x.1 := by kernel_rfl
theorem Q62.ok (N : Nat) : FnOk Try.prog 62 (Q62.D N) := by
 refine FnOk_of tb_ok (Checked.mixed Try.checked) ⟨Try.f62, Try.func62, by kernel_rfl, by kernel_rfl, fun x y h => ⟨Q62.G N, Q62.A, N, gamOf_ok (fun p hp => nomatch hp), ?_⟩⟩ (Q62.fit N)
 rw [absFn_n (n0 := 0) rfl (by kernel_rfl)]
 exact (Q62.entry N _ x).trans h
def Q92.as : List MK := [.d true (.prod .str (.prod tI (.prod tI (.prod (.slice 107 (.prod (.int .u8) (.prod tI (.prod tI (.slice 127 (.prod tI (.prod tI (.prod tI tI)))))))) (.prod (.slice 3 tI) (.prod .bool (.prod .bool (.prod (.slice 109 (.prod tI (.prod tI (.prod tI .bool)))) (.prod tI (.prod tI tI)))))))))), .d true (.prod (.slice 3 tI) (.prod (.prod (.slice 3 tI) (.slice 3 tI)) (.prod tI tI))), .d false tI, .d false tI]
def Q92.rs : List (Bool × HT) := [(false, (.d .bool))]
def Q92.lc : List AC := []
def Q92.D (N : Nat) : DFn := ⟨Q92.as, Q92.rs, Bool, fun x => Q92 N x.1 x.2.1 x.2.2.1 x.2.2.2.1, fun r o => r.1, fun b => (b, ()), fun b => (), none⟩
theorem Q92.fit (N : Nat) : (Q92.D N).Fit := ⟨fun _ _ => rfl, fun _ _ => rfl, by kernel_rfl, (fun _ _ h => nomatch h), by kernel_rfl⟩
noncomputable def Q92.G (N : Nat) : Gam := gamOf [(62, Q62.D N)]
def Q92.A : Nat → Option LoopAnn := fun k => bif Nat.beq k 0 then some ⟨[2, 3, 4, 5, 17, 18], [], [], [], [], 2, false⟩ else bif Nat.beq k 2 then some ⟨[2, 3, 4, 5, 9, 17, 18, 25, 26], [], [], [], [], 2, false⟩ else bif Nat.beq k 4 then some ⟨[2, 3, 4, 5, 9, 11, 12, 13, 14, 17, 18, 25, 26], [], [], [], [], 3, false⟩ else none
noncomputable def Q92.fin (N : Nat) : St → Option Bool := resK tb Try.f92.results.toList (decRes (Q92.D N) Q92.lc)
noncomputable def Q92.k0 : List Item := stackAt [.r, .l, .r, .b] (bodyOf Try.f92) []
def Q92.st0 (r_ : TRules) (p_ : TPos) (player count t18_ : Int) : St := ⟨[.one .any, .one .any, .one (.int .i64 player), .one (.int .i64 count), .one (.ptr 0 0), .one (.ptr 1 0)] ++ List.replicate 11 (.one .any) ++ [.one (.int .i64 (p_.1.length : Int)), .one (.int .i64 t18_)] ++ List.replicate 71 (.one .any), [.var 26 [.str r_.1, .int .i64 r_.2.1, .int .i64 r_.2.2.1, .fro 107 (.prod (.int .u8) (.prod tI (.prod tI (.slice 127 (.prod tI (.prod tI (.prod tI tI))))))) r_.2.2.2.1, .fro 3 tI r_.2.2.2.2.1, .bool r_.2.2.2.2.2.1, .bool r_.2.2.2.2.2.2.1, .fro 109 (.prod tI (.prod tI (.prod tI .bool))) r_.2.2.2.2.2.2.2.1, .int .i64 r_.2.2.2.2.2.2.2.2.1, .int .i64 r_.2.2.2.2.2.2.2.2.2.1, .int .i64 r_.2.2.2.2.2.2.2.2.2.2], .var 29 [.fro 3 tI p_.1, .fro 3 tI p_.2.1.1, .fro 3 tI p_.2.1.2, .int .i64 p_.2.2.1, .int .i64 p_.2.2.2]]⟩
noncomputable def Q92.k1 : List Item := stackAt [.r, .l, .r, .b, .w, .r, .r, .l, .b, .r, .r, .b] (bodyOf Try.f92) []
def Q92.st1 (r_ : TRules) (p_ : TPos) (player count s_ t18_ t26_ : Int) : St := ⟨[.one .any, .one .any, .one (.int .i64 player), .one (.int .i64 count), .one (.ptr 0 0), .one (.ptr 1 0)] ++ List.replicate 3 (.one .any) ++ [.one (.int .i64 s_)] ++ List.replicate 7 (.one .any) ++ [.one (.int .i64 (p_.1.length : Int)), .one (.int .i64 t18_)] ++ List.replicate 6 (.one .any) ++ [.agg [.int .i64 1, .int .i64 0, .int .i64 0, .int .i64 1, .int .i64 1, .int .i64 1, .int .i64 1, .int .i64 (-1)], .one (.int .i64 t26_)] ++ List.replicate 63 (.one .any), [.var 26 [.str r_.1, .int .i64 r_.2.1, .int .i64 r_.2.2.1, .fro 107 (.prod (.int .u8) (.prod tI (.prod tI (.slice 127 (.prod tI (.prod tI (.prod tI tI))))))) r_.2.2.2.1, .fro 3 tI r_.2.2.2.2.1, .bool r_.2.2.2.2.2.1, .bool r_.2.2.2.2.2.2.1, .fro 109 (.prod tI (.prod tI (.prod tI .bool))) r_.2.2.2.2.2.2.2.1, .int .i64 r_.2.2.2.2.2.2.2.2.1, .int .i64 r_.2.2.2.2.2.2.2.2.2.1, .int .i64 r_.2.2.2.2.2.2.2.2.2.2], .var 29 [.fro 3 tI p_.1, .fro 3 tI p_.2.1.1, .fro 3 tI p_.2.1.2, .int .i64 p_.2.2.1, .int .i64 p_.2.2.2]]⟩
noncomputable def Q92.k2 : List Item := stackAt [.r, .l, .r, .b, .w, .r, .r, .l, .b, .r, .r, .b, .w, .r, .r, .l, .b, .r, .r, .l, .b] (bodyOf Try.f92) []
def Q92.st2 (r_ : TRules) (p_ : TPos) (player count s_ x_ y_ n_ t18_ t26_ d_ d_2 : Int) : St := ⟨[.one .any, .one .any, .one (.int .i64 player), .one (.int .i64 count), .one (.ptr 0 0), .one (.ptr 1 0)] ++ List.replicate 3 (.one .any) ++ [.one (.int .i64 s_), .one .any, .one (.ptr 2 0), .one (.int .i64 x_), .one (.int .i64 y_), .one (.int .i64 n_), .one .any, .one .any, .one (.int .i64 (p_.1.length : Int)), .one (.int .i64 t18_)] ++ List.replicate 6 (.one .any) ++ [.agg [.int .i64 1, .int .i64 0, .int .i64 0, .int .i64 1, .int .i64 1, .int .i64 1, .int .i64 1, .int .i64 (-1)], .one (.int .i64 t26_)] ++ List.replicate 63 (.one .any), [.var 26 [.str r_.1, .int .i64 r_.2.1, .int .i64 r_.2.2.1, .fro 107 (.prod (.int .u8) (.prod tI (.prod tI (.slice 127 (.prod tI (.prod tI (.prod tI tI))))))) r_.2.2.2.1, .fro 3 tI r_.2.2.2.2.1, .bool r_.2.2.2.2.2.1, .bool r_.2.2.2.2.2.2.1, .fro 109 (.prod tI (.prod tI (.prod tI .bool))) r_.2.2.2.2.2.2.2.1, .int .i64 r_.2.2.2.2.2.2.2.2.1, .int .i64 r_.2.2.2.2.2.2.2.2.2.1, .int .i64 r_.2.2.2.2.2.2.2.2.2.2], .var 29 [.fro 3 tI p_.1, .fro 3 tI p_.2.1.1, .fro 3 tI p_.2.1.2, .int .i64 p_.2.2.1, .int .i64 p_.2.2.2], .var 169 [.int .i64 d_, .int .i64 d_2]]⟩
theorem Q92.step0 (N : Nat) (rec : List Item → St → Option Bool) (r_ : TRules) (p_ : TPos) (player count t18_ : Int) : seg tb (Q92.G N) Q92.A 0 rec (Q92.fin N) segFuel (loopBody Q92.k0) (Q92.st0 r_ p_ player count t18_) = Q92.s0 N r_ p_ player count (fun t18_ => rec Q92.k0 (Q92.st0 r_ p_ player count t18_)) (fun s_ t18_ t26_ => rec Q92.k1 (Q92.st1 r_ p_ player count s_ t18_ t26_)) (fun s_ x_ y_ n_ t18_ t26_ d_ d_2 => rec Q92.k2 (Q92.st2 r_ p_ player count s_ x_ y_ n_ t18_ t26_ d_ d_2)) t18_ := by kernel_rfl
theorem Q92.step1 (N : Nat) (rec : List Item → St → Option Bool) (r_ : TRules) (p_ : TPos) (player count s_ t18_ t26_ : Int) : seg tb (Q92.G N) Q92.A 0 rec (Q92.fin N) segFuel (loopBody Q92.k1) (Q92.st1 r_ p_ player count s_ t18_ t26_) = Q92.s1 N r_ p_ player count (fun t18_ => rec Q92.k0 (Q92.st0 r_ p_ player count t18_)) (fun s_ t18_ t26_ => rec Q92.k1 (Q92.st1 r_ p_ player count s_ t18_ t26_)) (fun s_ x_ y_ n_ t18_ t26_ d_ d_2 => rec Q92.k2 (Q92.st2 r_ p_ player count s_ x_ y_ n_ t18_ t26_ d_ d_2)) s_ t18_ t26_ := by kernel_rfl
theorem Q92.step2 (N : Nat) (rec : List Item → St → Option Bool) (r_ : TRules) (p_ : TPos) (player count s_ x_ y_ n_ t18_ t26_ d_ d_2 : Int) : seg tb (Q92.G N) Q92.A 0 rec (Q92.fin N) segFuel (loopBody Q92.k2) (Q92.st2 r_ p_ player count s_ x_ y_ n_ t18_ t26_ d_ d_2) = Q92.s2 N r_ p_ player count (fun t18_ => rec Q92.k0 (Q92.st0 r_ p_ player count t18_)) (fun s_ t18_ t26_ => rec Q92.k1 (Q92.st1 r_ p_ player count s_ t18_ t26_)) (fun s_ x_ y_ n_ t18_ t26_ d_ d_2 => rec Q92.k2 (Q92.st2 r_ p_ player count s_ x_ y_ n_ t18_ t26_ d_ d_2)) s_ x_ y_ n_ t18_ t26_ d_ d_2 := by kernel_rfl
theorem Q92.entry (N : Nat) (rec : List Item → St → Option Bool) (x : (argH Q92.as).den) : seg tb (Q92.G N) Q92.A 0 rec (Q92.fin N) segFuel [.code (bodyOf Try.f92)] (initSt Try.f92 (encArgs Q92.as x) (encMem Q92.as x)) = Q92.e N (fun t18_ => rec Q92.k0 (Q92.st0 x.1 x.2.1 x.2.2.1 x.2.2.2.1 t18_)) (fun s_ t18_ t26_ => rec Q92.k1 (Q92.st1 x.1 x.2.1 x.2.2.1 x.2.2.2.1 s_ t18_ t26_)) (fun s_ x_ y_ n_ t18_ t26_ d_ d_2 => rec Q92.k2 (Q92.st2 x.1 x.2.1 x.2.2.1 x.2.2.2.1 s_ x_ y_ n_ t18_ t26_ d_ d_2)) x.1 x.2.1 x.2.2.1 x.2.2.2.1 := by kernel_rfl
theorem Q92.runs (N : Nat) (r_ : TRules) (p_ : TPos) (player count : Int) : ∀ n, (∀ (t18_ : Int), run tb (Q92.G N) Q92.A 0 (Q92.fin N) n Q92.k0 (Q92.st0 r_ p_ player count t18_) = Q92.l0 N r_ p_ player count n t18_) ∧ (∀ (s_ t18_ t26_ : Int), run tb (Q92.G N) Q92.A 0 (Q92.fin N) n Q92.k1 (Q92.st1 r_ p_ player count s_ t18_ t26_) = Q92.l1 N r_ p_ player count n s_ t18_ t26_) ∧ (∀ (s_ x_ y_ n_ t18_ t26_ d_ d_2 : Int), run tb (Q92.G N) Q92.A 0 (Q92.fin N) n Q92.k2 (Q92.st2 r_ p_ player count s_ x_ y_ n_ t18_ t26_ d_ d_2) = Q92.l2 N r_ p_ player count n s_ x_ y_ n_ t18_ t26_ d_ d_2)
 | 0 => ⟨fun _ => rfl, fun _ _ _ => rfl, fun _ _ _ _ _ _ _ _ => rfl⟩
 | n + 1 => by
  obtain ⟨h0, h1, h2⟩ := Q92.runs N r_ p_ player count n
  have e0 : (fun (t18_ : Int) => run tb (Q92.G N) Q92.A 0 (Q92.fin N) n Q92.k0 (Q92.st0 r_ p_ player count t18_)) = Q92.l0 N r_ p_ player count n := by funext t18_; exact h0 t18_
  have e1 : (fun (s_ t18_ t26_ : Int) => run tb (Q92.G N) Q92.A 0 (Q92.fin N) n Q92.k1 (Q92.st1 r_ p_ player count s_ t18_ t26_)) = Q92.l1 N r_ p_ player count n := by funext s_ t18_ t26_; exact h1 s_ t18_ t26_
  have e2 : (fun (s_ x_ y_ n_ t18_ t26_ d_ d_2 : Int) => run tb (Q92.G N) Q92.A 0 (Q92.fin N) n Q92.k2 (Q92.st2 r_ p_ player count s_ x_ y_ n_ t18_ t26_ d_ d_2)) = Q92.l2 N r_ p_ player count n := by funext s_ x_ y_ n_ t18_ t26_ d_ d_2; exact h2 s_ x_ y_ n_ t18_ t26_ d_ d_2
  have g0 : (∀ (t18_ : Int), run tb (Q92.G N) Q92.A 0 (Q92.fin N) (n + 1) Q92.k0 (Q92.st0 r_ p_ player count t18_) = Q92.l0 N r_ p_ player count (n + 1) t18_) := by
   intro t18_
   exact (run_succ (by kernel_rfl)).trans ((Q92.step0 N _ r_ p_ player count t18_).trans ((congr (congr (congrArg (fun r0 r1 r2 => Q92.s0 N r_ p_ player count r0 r1 r2 t18_) e0) e1) e2).trans (Q92.l0_s N r_ p_ player count n t18_).symm))
  have g1 : (∀ (s_ t18_ t26_ : Int), run tb (Q92.G N) Q92.A 0 (Q92.fin N) (n + 1) Q92.k1 (Q92.st1 r_ p_ player count s_ t18_ t26_) = Q92.l1 N r_ p_ player count (n + 1) s_ t18_ t26_) := by
   intro s_ t18_ t26_
   exact (run_succ (by kernel_rfl)).trans ((Q92.step1 N _ r_ p_ player count s_ t18_ t26_).trans ((congr (congr (congrArg (fun r0 r1 r2 => Q92.s1 N r_ p_ player count r0 r1 r2 s_ t18_ t26_) e0) e1) e2).trans (Q92.l1_s N r_ p_ player count n s_ t18_ t26_).symm))
  have g2 : (∀ (s_ x_ y_ n_ t18_ t26_ d_ d_2 : Int), run tb (Q92.G N) Q92.A 0 (Q92.fin N) (n + 1) Q92.k2 (Q92.st2 r_ p_ player count s_ x_ y_ n_ t18_ t26_ d_ d_2) = Q92.l2 N r_ p_ player count (n + 1) s_ x_ y_ n_ t18_ t26_ d_ d_2) := by
   intro s_ x_ y_ n_ t18_ t26_ d_ d_2
   exact (run_succ (by kernel_rfl)).trans ((Q92.step2 N _ r_ p_ player count s_ x_ y_ n_ t18_ t26_ d_ d_2).trans ((congr (congr (congrArg (fun r0 r1 r2 => Q92.s2 N r_ p_ player count r0 r1 r2 s_ x_ y_ n_ t18_ t26_ d_ d_2) e0) e1) e2).trans (Q92.l2_s N r_ p_ player count n s_ x_ y_ n_ t18_ t26_ d_ d_2).symm))
  exact ⟨g0, g1, g2⟩
theorem Q92.ok (N : Nat) : FnOk Try.prog 92 (Q92.D N) := by
 refine FnOk_of tb_ok (Checked.mixed Try.checked) ⟨Try.f92, Try.func92, by kernel_rfl, by kernel_rfl, fun x y h => ⟨Q92.G N, Q92.A, N, gamOf_ok (by simp only [List.forall_mem_cons, List.not_mem_nil, false_implies, implies_true, and_true]; exact ⟨Q62.ok N, Q62.fit N⟩), ?_⟩⟩ (Q92.fit N)
 rw [absFn_n (n0 := 0) rfl (by kernel_rfl)]
 refine (Q92.entry N (run tb (Q92.G N) Q92.A 0 (Q92.fin N) N) x).trans ?_
 have e0 : (fun (t18_ : Int) => run tb (Q92.G N) Q92.A 0 (Q92.fin N) N Q92.k0 (Q92.st0 x.1 x.2.1 x.2.2.1 x.2.2.2.1 t18_)) = Q92.l0 N x.1 x.2.1 x.2.2.1 x.2.2.2.1 N := by funext t18_; exact (Q92.runs N x.1 x.2.1 x.2.2.1 x.2.2.2.1 N).1 t18_
 have e1 : (fun (s_ t18_ t26_ : Int) => run tb (Q92.G N) Q92.A 0 (Q92.fin N) N Q92.k1 (Q92.st1 x.1 x.2.1 x.2.2.1 x.2.2.2.1 s_ t18_ t26_)) = Q92.l1 N x.1 x.2.1 x.2.2.1 x.2.2.2.1 N := by funext s_ t18_ t26_; exact (Q92.runs N x.1 x.2.1 x.2.2.1 x.2.2.2.1 N).2.1 s_ t18_ t26_
 have e2 : (fun (s_ x_ y_ n_ t18_ t26_ d_ d_2 : Int) => run tb (Q92.G N) Q92.A 0 (Q92.fin N) N Q92.k2 (Q92.st2 x.1 x.2.1 x.2.2.1 x.2.2.2.1 s_ x_ y_ n_ t18_ t26_ d_ d_2)) = Q92.l2 N x.1 x.2.1 x.2.2.1 x.2.2.2.1 N := by funext s_ x_ y_ n_ t18_ t26_ d_ d_2; exact (Q92.runs N x.1 x.2.1 x.2.2.1 x.2.2.2.1 N).2.2 s_ x_ y_ n_ t18_ t26_ d_ d_2
 have h' : (Q92.D N).f x = Q92.e N (Q92.l0 N x.1 x.2.1 x.2.2.1 x.2.2.2.1 N) (Q92.l1 N x.1 x.2.1 x.2.2.1 x.2.2.2.1 N) (Q92.l2 N x.1 x.2.1 x.2.2.1 x.2.2.2.1 N) x.1 x.2.1 x.2.2.1 x.2.2.2.1 := by kernel_rfl
 exact (congr (congr (congrArg (fun r0 r1 r2 => Q92.e N r0 r1 r2 x.1 x.2.1 x.2.2.1 x.2.2.2.1) e0) e1) e2).trans (h'.symm.trans h)
def Q74.as : List MK := [.d false tI, .d false tI]
def Q74.rs : List (Bool × HT) := [(false, (.d tI))]
def Q74.lc : List AC := []
def Q74.D (N : Nat) : DFn := ⟨Q74.as, Q74.rs, Int, fun x => Q74 N x.1 x.2.1, fun r o => r.1, fun b => (b, ()), fun b => (), none⟩
theorem Q74.fit (N : Nat) : (Q74.D N).Fit := ⟨fun _ _ => rfl, fun _ _ => rfl, by kernel_rfl, (fun _ _ h => nomatch h), by kernel_rfl⟩
noncomputable def Q74.G (N : Nat) : Gam := gamOf []
def Q74.A : Nat → Option LoopAnn := fun _ => none
noncomputable def Q74.fin (N : Nat) : St → Option Int := resK tb Try.f74.results.toList (decRes (Q74.D N) Q74.lc)
theorem Q74.entry (N : Nat) (rec : List Item → St → Option Int) (x : (argH Q74.as).den) : seg tb (Q74.G N) Q74.A 0 rec (Q74.fin N) segFuel [.code (bodyOf Try.f74)] (initSt Try.f74 (encArgs Q74.as x) (encMem Q74.as x)) = Q74.e N x.1 x.2.1 := by kernel_rfl
theorem Q74.ok (N : Nat) : FnOk Try.prog 74 (Q74.D N) := by
 refine FnOk_of tb_ok (Checked.mixed Try.checked) ⟨Try.f74, Try.func74, by kernel_rfl, by kernel_rfl, fun x y h => ⟨Q74.G N, Q74.A, N, gamOf_ok (fun p hp => nomatch hp), ?_⟩⟩ (Q74.fit N)
 rw [absFn_n (n0 := 0) rfl (by kernel_rfl)]
 exact (Q74.entry N _ x).trans h
def Q93.as : List MK := [.d true (.prod .str (.prod tI (.prod tI (.prod (.slice 107 (.prod (.int .u8) (.prod tI (.prod tI (.slice 127 (.prod tI (.prod tI (.prod tI tI)))))))) (.prod (.slice 3 tI) (.prod .bool (.prod .bool (.prod (.slice 109 (.prod tI (.prod tI (.prod tI .bool)))) (.prod tI (.prod tI tI)))))))))), .d false tI, .d false tI]
def Q93.rs : List (Bool × HT) := [(false, (.d .bool))]
def Q93.lc : List AC := []
def Q93.D (N : Nat) : DFn := ⟨Q93.as, Q93.rs, Bool, fun x => Q93 N x.1 x.2.1 x.2.2.1, fun r o => r.1, fun b => (b, ()), fun b => (), none⟩
theorem Q93.fit (N : Nat) : (Q93.D N).Fit := ⟨fun _ _ => rfl, fun _ _ => rfl, by kernel_rfl, (fun _ _ h => nomatch h), by kernel_rfl⟩
noncomputable def Q93.G (N : Nat) : Gam := gamOf []
def Q93.A : Nat → Option LoopAnn := fun _ => none
noncomputable def Q93.fin (N : Nat) : St → Option Bool := resK tb Try.f93.results.toList (decRes (Q93.D N) Q93.lc)
theorem Q93.entry (N : Nat) (rec : List Item → St → Option Bool) (x : (argH Q93.as).den) : seg tb (Q93.G N) Q93.A 0 rec (Q93.fin N) segFuel [.code (bodyOf Try.f93)] (initSt Try.f93 (encArgs Q93.as x) (encMem Q93.as x)) = Q93.e N x.1 x.2.1 x.2.2.1 := by kernel_rfl
theorem Q93.ok (N : Nat) : FnOk Try.prog 93 (Q93.D N) := by
 refine FnOk_of tb_ok (Checked.mixed Try.checked) ⟨Try.f93, Try.func93, by kernel_rfl, by kernel_rfl, fun x y h => ⟨Q93.G N, Q93.A, N, gamOf_ok (fun p hp => nomatch hp), ?_⟩⟩ (Q93.fit N)
 rw [absFn_n (n0 := 0) rfl (by kernel_rfl)]
 exact (Q93.entry N _ x).trans h
def Q80.as : List MK := [.d true (.prod .str (.prod tI (.prod tI (.prod (.slice 107 (.prod (.int .u8) (.prod tI (.prod tI (.slice 127 (.prod tI (.prod tI (.prod tI tI)))))))) (.prod (.slice 3 tI) (.prod .bool (.prod .bool (.prod (.slice 109 (.prod tI (.prod tI (.prod tI .bool)))) (.prod tI (.prod tI tI)))))))))), .d true (.prod (.slice 3 tI) (.prod (.prod (.slice 3 tI) (.slice 3 tI)) (.prod tI tI))), .d true (.prod tI (.prod tI (.prod tI .bool)))]
def Q80.rs : List (Bool × HT) := [(false, (.d .bool))]
def Q80.lc : List AC := []
def Q80.D (N : Nat) : DFn := ⟨Q80.as, Q80.rs, Bool, fun x => Q80 N x.1 x.2.1 x.2.2.1, fun r o => r.1, fun b => (b, ()), fun b => (), none⟩
theorem Q80.fit (N : Nat) : (Q80.D N).Fit := ⟨fun _ _ => rfl, fun _ _ => rfl, by kernel_rfl, (fun _ _ h => nomatch h), by kernel_rfl⟩
noncomputable def Q80.G (N : Nat) : Gam := gamOf [(92, Q92.D N), (74, Q74.D N), (93, Q93.D N)]
def Q80.A : Nat → Option LoopAnn := fun k => bif Nat.beq k 1 then some ⟨[3, 5, 7, 29, 30, 31], [], [], [], [1], 3, false⟩ else bif Nat.beq k 3 then some ⟨[4, 5, 10, 50, 51, 52], [], [], [], [0], 3, false⟩ else none
noncomputable def Q80.fin (N : Nat) : St → Option Bool := resK tb Try.f80.results.toList (decRes (Q80.D N) Q80.lc)
noncomputable def Q80.k0 : List Item := stackAt [.r, .r, .l, .r, .b, .r, .e, .r, .t, .l, .r, .b] (bodyOf Try.f80) []
def Q80.st0 (r_ : TRules) (p_ : TPos) (x_ : TEnd) (t31_ : Int) : St := ⟨List.replicate 3 (.one .any) ++ [.one (.ptr 0 0), .one .any, .one (.ptr 2 0), .one .any, .one (.int .i64 (w64 (1 - p_.2.2.1)))] ++ List.replicate 21 (.one .any) ++ [.one (.fro 3 tI p_.1), .one (.int .i64 (p_.1.length : Int)), .one (.int .i64 t31_)] ++ List.replicate 38 (.one .any), [.var 26 [.str r_.1, .int .i64 r_.2.1, .int .i64 r_.2.2.1, .fro 107 (.prod (.int .u8) (.prod tI (.prod tI (.slice 127 (.prod tI (.prod tI (.prod tI tI))))))) r_.2.2.2.1, .fro 3 tI r_.2.2.2.2.1, .bool r_.2.2.2.2.2.1, .bool r_.2.2.2.2.2.2.1, .fro 109 (.prod tI (.prod tI (.prod tI .bool))) r_.2.2.2.2.2.2.2.1, .int .i64 r_.2.2.2.2.2.2.2.2.1, .int .i64 r_.2.2.2.2.2.2.2.2.2.1, .int .i64 r_.2.2.2.2.2.2.2.2.2.2], .gone, .var 109 [.int .i64 x_.1, .int .i64 x_.2.1, .int .i64 x_.2.2.1, .bool x_.2.2.2]]⟩
noncomputable def Q80.k1 : List Item := stackAt [.r, .r, .r, .r, .l, .r, .b] (bodyOf Try.f80) []
def Q80.st1 (r_ : TRules) (p_ : TPos) (x_ : TEnd) (n_ t52_ : Int) : St := ⟨List.replicate 4 (.one .any) ++ [.one (.ptr 1 0), .one (.ptr 2 0)] ++ List.replicate 4 (.one .any) ++ [.one (.int .i64 n_)] ++ List.replicate 39 (.one .any) ++ [.one (.fro 3 tI p_.1), .one (.int .i64 (p_.1.length : Int)), .one (.int .i64 t52_)] ++ List.replicate 17 (.one .any), [.gone, .var 29 [.fro 3 tI p_.1, .fro 3 tI p_.2.1.1, .fro 3 tI p_.2.1.2, .int .i64 p_.2.2.1, .int .i64 p_.2.2.2], .var 109 [.int .i64 x_.1, .int .i64 x_.2.1, .int .i64 x_.2.2.1, .bool x_.2.2.2]]⟩
theorem Q80.step0 (N : Nat) (rec : List Item → St → Option Bool) (r_ : TRules) (p_ : TPos) (x_ : TEnd) (t31_ : Int) : seg tb (Q80.G N) Q80.A 0 rec (Q80.fin N) segFuel (loopBody Q80.k0) (Q80.st0 r_ p_ x_ t31_) = Q80.s0 N r_ p_ x_ (fun t31_ => rec Q80.k0 (Q80.st0 r_ p_ x_ t31_)) (fun n_ t52_ => rec Q80.k1 (Q80.st1 r_ p_ x_ n_ t52_)) t31_ := by kernel_rfl
theorem Q80.step1 (N : Nat) (rec : List Item → St → Option Bool) (r_ : TRules) (p_ : TPos) (x_ : TEnd) (n_ t52_ : Int) : seg tb (Q80.G N) Q80.A 0 rec (Q80.fin N) segFuel (loopBody Q80.k1) (Q80.st1 r_ p_ x_ n_ t52_) = Q80.s1 N r_ p_ x_ (fun t31_ => rec Q80.k0 (Q80.st0 r_ p_ x_ t31_)) (fun n_ t52_ => rec Q80.k1 (Q80.st1 r_ p_ x_ n_ t52_)) n_ t52_ := by kernel_rfl
theorem Q80.entry (N : Nat) (rec : List Item → St → Option Bool) (x : (argH Q80.as).den) : seg tb (Q80.G N) Q80.A 0 rec (Q80.fin N) segFuel [.code (bodyOf Try.f80)] (initSt Try.f80 (encArgs Q80.as x) (encMem Q80.as x)) = Q80.e N (fun t31_ => rec Q80.k0 (Q80.st0 x.1 x.2.1 x.2.2.1 t31_)) (fun n_ t52_ => rec Q80.k1 (Q80.st1 x.1 x.2.1 x.2.2.1 n_ t52_)) x.1 x.2.1 x.2.2.1 := by kernel_rfl
theorem Q80.runs (N : Nat) (r_ : TRules) (p_ : TPos) (x_ : TEnd) : ∀ n, (∀ (t31_ : Int), run tb (Q80.G N) Q80.A 0 (Q80.fin N) n Q80.k0 (Q80.st0 r_ p_ x_ t31_) = Q80.l0 N r_ p_ x_ n t31_) ∧ (∀ (n_ t52_ : Int), run tb (Q80.G N) Q80.A 0 (Q80.fin N) n Q80.k1 (Q80.st1 r_ p_ x_ n_ t52_) = Q80.l1 N r_ p_ x_ n n_ t52_)
 | 0 => ⟨fun _ => rfl, fun _ _ => rfl⟩
 | n + 1 => by
  obtain ⟨h0, h1⟩ := Q80.runs N r_ p_ x_ n
  have e0 : (fun (t31_ : Int) => run tb (Q80.G N) Q80.A 0 (Q80.fin N) n Q80.k0 (Q80.st0 r_ p_ x_ t31_)) = Q80.l0 N r_ p_ x_ n := by funext t31_; exact h0 t31_
  have e1 : (fun (n_ t52_ : Int) => run tb (Q80.G N) Q80.A 0 (Q80.fin N) n Q80.k1 (Q80.st1 r_ p_ x_ n_ t52_)) = Q80.l1 N r_ p_ x_ n := by funext n_ t52_; exact h1 n_ t52_
  have g0 : (∀ (t31_ : Int), run tb (Q80.G N) Q80.A 0 (Q80.fin N) (n + 1) Q80.k0 (Q80.st0 r_ p_ x_ t31_) = Q80.l0 N r_ p_ x_ (n + 1) t31_) := by
   intro t31_
   exact (run_succ (by kernel_rfl)).trans ((Q80.step0 N _ r_ p_ x_ t31_).trans ((congr (congrArg (fun r0 r1 => Q80.s0 N r_ p_ x_ r0 r1 t31_) e0) e1).trans (Q80.l0_s N r_ p_ x_ n t31_).symm))
  have g1 : (∀ (n_ t52_ : Int), run tb (Q80.G N) Q80.A 0 (Q80.fin N) (n + 1) Q80.k1 (Q80.st1 r_ p_ x_ n_ t52_) = Q80.l1 N r_ p_ x_ (n + 1) n_ t52_) := by
   intro n_ t52_
   exact (run_succ (by kernel_rfl)).trans ((Q80.step1 N _ r_ p_ x_ n_ t52_).trans ((congr (congrArg (fun r0 r1 => Q80.s1 N r_ p_ x_ r0 r1 n_ t52_) e0) e1).trans (Q80.l1_s N r_ p_ x_ n n_ t52_).symm))
  exact ⟨g0, g1⟩
theorem Q80.ok (N : Nat) : FnOk Try.prog 80 (Q80.D N) := by
 refine FnOk_of tb_ok (Checked.mixed Try.checked) ⟨Try.f80, Try.func80, by kernel_rfl, by kernel_rfl, fun x y h => ⟨Q80.G N, Q80.A, N, gamOf_ok (by simp only [List.forall_mem_cons, List.not_mem_nil, false_implies, implies_true, and_true]; exact ⟨⟨Q92.ok N, Q92.fit N⟩, ⟨Q74.ok N, Q74.fit N⟩, ⟨Q93.ok N, Q93.fit N⟩⟩), ?_⟩⟩ (Q80.fit N)
 rw [absFn_n (n0 := 0) rfl (by kernel_rfl)]
 refine (Q80.entry N (run tb (Q80.G N) Q80.A 0 (Q80.fin N) N) x).trans ?_
 have e0 : (fun (t31_ : Int) => run tb (Q80.G N) Q80.A 0 (Q80.fin N) N Q80.k0 (Q80.st0 x.1 x.2.1 x.2.2.1 t31_)) = Q80.l0 N x.1 x.2.1 x.2.2.1 N := by funext t31_; exact (Q80.runs N x.1 x.2.1 x.2.2.1 N).1 t31_
 have e1 : (fun (n_ t52_ : Int) => run tb (Q80.G N) Q80.A 0 (Q80.fin N) N Q80.k1 (Q80.st1 x.1 x.2.1 x.2.2.1 n_ t52_)) = Q80.l1 N x.1 x.2.1 x.2.2.1 N := by funext n_ t52_; exact (Q80.runs N x.1 x.2.1 x.2.2.1 N).2 n_ t52_
 have h' : (Q80.D N).f x = Q80.e N (Q80.l0 N x.1 x.2.1 x.2.2.1 N) (Q80.l1 N x.1 x.2.1 x.2.2.1 N) x.1 x.2.1 x.2.2.1 := by kernel_rfl
 exact (congr (congrArg (fun r0 r1 => Q80.e N r0 r1 x.1 x.2.1 x.2.2.1) e0) e1).trans (h'.symm.trans h)
def Q81.as : List MK := [.d false tI]
def Q81.rs : List (Bool × HT) := [(false, (.d tI))]
def Q81.lc : List AC := []
def Q81.D (N : Nat) : DFn := ⟨Q81.as, Q81.rs, Int, fun x => Q81 N x.1, fun r o => r.1, fun b => (b, ()), fun b => (), none⟩
theorem Q81.fit (N : Nat) : (Q81.D N).Fit := ⟨fun _ _ => rfl, fun _ _ => rfl, by kernel_rfl, (fun _ _ h => nomatch h), by kernel_rfl⟩
noncomputable def Q81.G (N : Nat) : Gam := gamOf []
def Q81.A : Nat → Option LoopAnn := fun _ => none
noncomputable def Q81.fin (N : Nat) : St → Option Int := resK tb Try.f81.results.toList (decRes (Q81.D N) Q81.lc)
theorem Q81.entry (N : Nat) (rec : List Item → St → Option Int) (x : (argH Q81.as).den) : seg tb (Q81.G N) Q81.A 0 rec (Q81.fin N) segFuel [.code (bodyOf Try.f81)] (initSt Try.f81 (encArgs Q81.as x) (encMem Q81.as x)) = Q81.e N x.1 := by kernel_rfl
theorem Q81.ok (N : Nat) : FnOk Try.prog 81 (Q81.D N) := by
 refine FnOk_of tb_ok (Checked.mixed Try.checked) ⟨Try.f81, Try.func81, by kernel_rfl, by kernel_rfl, fun x y h => ⟨Q81.G N, Q81.A, N, gamOf_ok (fun p hp => nomatch hp), ?_⟩⟩ (Q81.fit N)
 rw [absFn_n (n0 := 0) rfl (by kernel_rfl)]
 exact (Q81.entry N _ x).trans h
def Q63.as : List MK := [.d false tI]
def Q63.rs : List (Bool × HT) := [(false, (.d tI))]
def Q63.lc : List AC := []
def Q63.D (N : Nat) : DFn := ⟨Q63.as, Q63.rs, Int, fun x => Q63 N x.1, fun r o => r.1, fun b => (b, ()), fun b => (), none⟩
theorem Q63.fit (N : Nat) : (Q63.D N).Fit := ⟨fun _ _ => rfl, fun _ _ => rfl, by kernel_rfl, (fun _ _ h => nomatch h), by kernel_rfl⟩
noncomputable def Q63.G (N : Nat) : Gam := gamOf []
def Q63.A : Nat → Option LoopAnn := fun _ => none
noncomputable def Q63.fin (N : Nat) : St → Option Int := resK tb Try.f63.results.toList (decRes (Q63.D N) Q63.lc)
theorem Q63.entry (N : Nat) (rec : List Item → St → Option Int) (x : (argH Q63.as).den) : seg tb (Q63.G N) Q63.A 0 rec (Q63.fin N) segFuel [.code (bodyOf Try.f63)] (initSt Try.f63 (encArgs Q63.as x) (encMem Q63.as x)) = Q63.e N x.1 := by kernel_rfl
theorem Q63.ok (N : Nat) : FnOk Try.prog 63 (Q63.D N) := by
 refine FnOk_of tb_ok (Checked.mixed Try.checked) ⟨Try.f63, Try.func63, by kernel_rfl, by kernel_rfl, fun x y h => ⟨Q63.G N, Q63.A, N, gamOf_ok (fun p hp => nomatch hp), ?_⟩⟩ (Q63.fit N)
 rw [absFn_n (n0 := 0) rfl (by kernel_rfl)]
 exact (Q63.entry N _ x).trans h
def Q104.as : List MK := [.d false (.int .u64)]
def Q104.rs : List (Bool × HT) := [(false, (.d tI))]
def Q104.lc : List AC := []
def Q104.D (N : Nat) : DFn := ⟨Q104.as, Q104.rs, Int, fun x => Q104 N x.1, fun r o => r.1, fun b => (b, ()), fun b => (), none⟩
theorem Q104.fit (N : Nat) : (Q104.D N).Fit := ⟨fun _ _ => rfl, fun _ _ => rfl, by kernel_rfl, (fun _ _ h => nomatch h), by kernel_rfl⟩
noncomputable def Q104.G (N : Nat) : Gam := gamOf []
def Q104.A : Nat → Option LoopAnn := fun _ => none
noncomputable def Q104.fin (N : Nat) : St → Option Int := resK tb Try.f104.results.toList (decRes (Q104.D N) Q104.lc)
theorem Q104.entry (N : Nat) (rec : List Item → St → Option Int) (x : (argH Q104.as).den) : seg tb (Q104.G N) Q104.A 0 rec (Q104.fin N) segFuel [.code (bodyOf Try.f104)] (initSt Try.f104 (encArgs Q104.as x) (encMem Q104.as x)) = Q104.e N x.1 := by kernel_rfl
theorem Q104.ok (N : Nat) : FnOk Try.prog 104 (Q104.D N) := by
 refine FnOk_of tb_ok (Checked.mixed Try.checked) ⟨Try.f104, Try.func104, by kernel_rfl, by kernel_rfl, fun x y h => ⟨Q104.G N, Q104.A, N, gamOf_ok (fun p hp => nomatch hp), ?_⟩⟩ (Q104.fit N)
 rw [absFn_n (n0 := 0) rfl (by kernel_rfl)]
 exact (Q104.entry N _ x).trans h
def Q89.as : List MK := [.d false (.int .u64)]
def Q89.rs : List (Bool × HT) := [(false, (.d tI))]
def Q89.lc : List AC := []
def Q89.D (N : Nat) : DFn := ⟨Q89.as, Q89.rs, Int, fun x => Q89 N x.1, fun r o => r.1, fun b => (b, ()), fun b => (), none⟩
theorem Q89.fit (N : Nat) : (Q89.D N).Fit := ⟨fun _ _ => rfl, fun _ _ => rfl, by kernel_rfl, (fun _ _ h => nomatch h), by kernel_rfl⟩
noncomputable def Q89.G (N : Nat) : Gam := gamOf [(104, Q104.D N)]
def Q89.A : Nat → Option LoopAnn := fun _ => none
noncomputable def Q89.fin (N : Nat) : St → Option Int := resK tb Try.f89.results.toList (decRes (Q89.D N) Q89.lc)
theorem Q89.entry (N : Nat) (rec : List Item → St → Option Int) (x : (argH Q89.as).den) : seg tb (Q89.G N) Q89.A 0 rec (Q89.fin N) segFuel [.code (bodyOf Try.f89)] (initSt Try.f89 (encArgs Q89.as x) (encMem Q89.as x)) = Q89.e N x.1 := by kernel_rfl
theorem Q89.ok (N : Nat) : FnOk Try.prog 89 (Q89.D N) := by
 refine FnOk_of tb_ok (Checked.mixed Try.checked) ⟨Try.f89, Try.func89, by kernel_rfl, by kernel_rfl, fun x y h => ⟨Q89.G N, Q89.A, N, gamOf_ok (by simp only [List.forall_mem_cons, List.not_mem_nil, false_implies, implies_true, and_true]; exact ⟨Q104.ok N, Q104.fit N⟩), ?_⟩⟩ (Q89.fit N)
 rw [absFn_n (n0 := 0) rfl (by kernel_rfl)]
 exact (Q89.entry N _ x).trans h
def Q105.as : List MK := [.d false tI]
def Q105.rs : List (Bool × HT) := [(false, (.d .bool))]
def Q105.lc : List AC := []
def Q105.D (N : Nat) : DFn := ⟨Q105.as, Q105.rs, Bool, fun x => Q105 N x.1, fun r o => r.1, fun b => (b, ()), fun b => (), none⟩
theorem Q105.fit (N : Nat) : (Q105.D N).Fit := ⟨fun _ _ => rfl, fun _ _ => rfl, by kernel_rfl, (fun _ _ h => nomatch h), by kernel_rfl⟩
noncomputable def Q105.G (N : Nat) : Gam := gamOf []
def Q105.A : Nat → Option LoopAnn := fun _ => none
noncomputable def Q105.fin (N : Nat) : St → Option Bool := resK tb Try.f105.results.toList (decRes (Q105.D N) Q105.lc)
theorem Q105.entry (N : Nat) (rec : List Item → St → Option Bool) (x : (argH Q105.as).den) : seg tb (Q105.G N) Q105.A 0 rec (Q105.fin N) segFuel [.code (bodyOf Try.f105)] (initSt Try.f105 (encArgs Q105.as x) (encMem Q105.as x)) = Q105.e N x.1 := by kernel_rfl
theorem Q105.ok (N : Nat) : FnOk Try.prog 105 (Q105.D N) := by
 refine FnOk_of tb_ok (Checked.mixed Try.checked) ⟨Try.f105, Try.func105, by kernel_rfl, by kernel_rfl, fun x y h => ⟨Q105.G N, Q105.A, N, gamOf_ok (fun p hp => nomatch hp), ?_⟩⟩ (Q105.fit N)
 rw [absFn_n (n0 := 0) rfl (by kernel_rfl)]
 exact (Q105.entry N _ x).trans h
def Q91.as : List MK := [.d false tI, .d false tI]
def Q91.rs : List (Bool × HT) := [(false, (.d tI))]
def Q91.lc : List AC := []
def Q91.D (N : Nat) : DFn := ⟨Q91.as, Q91.rs, Int, fun x => Q91 N x.1 x.2.1, fun r o => r.1, fun b => (b, ()), fun b => (), none⟩
theorem Q91.fit (N : Nat) : (Q91.D N).Fit := ⟨fun _ _ => rfl, fun _ _ => rfl, by kernel_rfl, (fun _ _ h => nomatch h), by kernel_rfl⟩
noncomputable def Q91.G (N : Nat) : Gam := gamOf [(105, Q105.D N)]
def Q91.A : Nat → Option LoopAnn := fun _ => none
noncomputable def Q91.fin (N : Nat) : St → Option Int := resK tb Try.f91.results.toList (decRes (Q91.D N) Q91.lc)
theorem Q91.entry (N : Nat) (rec : List Item → St → Option Int) (x : (argH Q91.as).den) : seg tb (Q91.G N) Q91.A 0 rec (Q91.fin N) segFuel [.code (bodyOf Try.f91)] (initSt Try.f91 (encArgs Q91.as x) (encMem Q91.as x)) = Q91.e N x.1 x.2.1 := by kernel_rfl
theorem Q91.ok (N : Nat) : FnOk Try.prog 91 (Q91.D N) := by
 refine FnOk_of tb_ok (Checked.mixed Try.checked) ⟨Try.f91, Try.func91, by kernel_rfl, by kernel_rfl, fun x y h => ⟨Q91.G N, Q91.A, N, gamOf_ok (by simp only [List.forall_mem_cons, List.not_mem_nil, false_implies, implies_true, and_true]; exact ⟨Q105.ok N, Q105.fit N⟩), ?_⟩⟩ (Q91.fit N)
 rw [absFn_n (n0 := 0) rfl (by kernel_rfl)]
 exact (Q91.entry N _ x).trans h
def Q90.as : List MK := [.d false (.slice 3 tI)]
def Q90.rs : List (Bool × HT) := [(false, (.d tI))]
def Q90.lc : List AC := []
def Q90.D (N : Nat) : DFn := ⟨Q90.as, Q90.rs, Int, fun x => Q90 N x.1, fun r o => r.1, fun b => (b, ()), fun b => (), none⟩
theorem Q90.fit (N : Nat) : (Q90.D N).Fit := ⟨fun _ _ => rfl, fun _ _ => rfl, by kernel_rfl, (fun _ _ h => nomatch h), by kernel_rfl⟩
noncomputable def Q90.G (N : Nat) : Gam := gamOf []
def Q90.A : Nat → Option LoopAnn := fun k => bif Nat.beq k 0 then some ⟨[3, 6, 7, 8], [], [], [], [], 0, false⟩ else none
noncomputable def Q90.fin (N : Nat) : St → Option Int := resK tb Try.f90.results.toList (decRes (Q90.D N) Q90.lc)
noncomputable def Q90.k0 : List Item := stackAt [.r, .r, .l, .r, .b] (bodyOf Try.f90) []
def Q90.st0 (vals : LInt) (t8_ : Int) : St := ⟨List.replicate 3 (.one .any) ++ [.one (.int .i64 0), .one .any, .one .any, .one (.fro 3 tI vals), .one (.int .i64 (vals.length : Int)), .one (.int .i64 t8_)] ++ List.replicate 9 (.one .any), []⟩
theorem Q90.step0 (N : Nat) (rec : List Item → St → Option Int) (vals : LInt) (t8_ : Int) : seg tb (Q90.G N) Q90.A 0 rec (Q90.fin N) segFuel (loopBody Q90.k0) (Q90.st0 vals t8_) = Q90.s0 N vals (fun t8_ => rec Q90.k0 (Q90.st0 vals t8_)) t8_ := by kernel_rfl
theorem Q90.entry (N : Nat) (rec : List Item → St → Option Int) (x : (argH Q90.as).den) : seg tb (Q90.G N) Q90.A 0 rec (Q90.fin N) segFuel [.code (bodyOf Try.f90)] (initSt Try.f90 (encArgs Q90.as x) (encMem Q90.as x)) = Q90.e N (fun t8_ => rec Q90.k0 (Q90.st0 x.1 t8_)) x.1 := by kernel_rfl
theorem Q90.runs (N : Nat) (vals : LInt) : ∀ n, (∀ (t8_ : Int), run tb (Q90.G N) Q90.A 0 (Q90.fin N) n Q90.k0 (Q90.st0 vals t8_) = Q90.l0 N vals n t8_)
 | 0 => fun _ => rfl
 | n + 1 => by
  have h0 := Q90.runs N vals n
  have e0 : (fun (t8_ : Int) => run tb (Q90.G N) Q90.A 0 (Q90.fin N) n Q90.k0 (Q90.st0 vals t8_)) = Q90.l0 N vals n := by funext t8_; exact h0 t8_
  have g0 : (∀ (t8_ : Int), run tb (Q90.G N) Q90.A 0 (Q90.fin N) (n + 1) Q90.k0 (Q90.st0 vals t8_) = Q90.l0 N vals (n + 1) t8_) := by
   intro t8_
   exact (run_succ (by kernel_rfl)).trans ((Q90.step0 N _ vals t8_).trans ((congrArg (fun r0 => Q90.s0 N vals r0 t8_) e0).trans (Q90.l0_s N vals n t8_).symm))
  exact g0
theorem Q90.ok (N : Nat) : FnOk Try.prog 90 (Q90.D N) := by
 refine FnOk_of tb_ok (Checked.mixed Try.checked) ⟨Try.f90, Try.func90, by kernel_rfl, by kernel_rfl, fun x y h => ⟨Q90.G N, Q90.A, N, gamOf_ok (fun p hp => nomatch hp), ?_⟩⟩ (Q90.fit N)
 rw [absFn_n (n0 := 0) rfl (by kernel_rfl)]
 refine (Q90.entry N (run tb (Q90.G N) Q90.A 0 (Q90.fin N) N) x).trans ?_
 have e0 : (fun (t8_ : Int) => run tb (Q90.G N) Q90.A 0 (Q90.fin N) N Q90.k0 (Q90.st0 x.1 t8_)) = Q90.l0 N x.1 N := by funext t8_; exact (Q90.runs N x.1 N) t8_
 have h' : (Q90.D N).f x = Q90.e N (Q90.l0 N x.1 N) x.1 := by kernel_rfl
 exact (congrArg (fun r0 => Q90.e N r0 x.1) e0).trans (h'.symm.trans h)
def Q66.as : List MK := [.d true (.prod tI (.prod tI tI)), .d true (.prod tI (.prod tI tI))]
def Q66.rs : List (Bool × HT) := [(false, (.d tI))]
def Q66.lc : List AC := []
def Q66.D (N : Nat) : DFn := ⟨Q66.as, Q66.rs, Int, fun x => Q66 N x.1 x.2.1, fun r o => r.1, fun b => (b, ()), fun b => (), none⟩
theorem Q66.fit (N : Nat) : (Q66.D N).Fit := ⟨fun _ _ => rfl, fun _ _ => rfl, by kernel_rfl, (fun _ _ h => nomatch h), by kernel_rfl⟩
noncomputable def Q66.G (N : Nat) : Gam := gamOf [(91, Q91.D N), (90, Q90.D N)]
def Q66.A : Nat → Option LoopAnn := fun _ => none
noncomputable def Q66.fin (N : Nat) : St → Option Int := resK tb Try.f66.results.toList (decRes (Q66.D N) Q66.lc)
theorem Q66.entry (N : Nat) (rec : List Item → St → Option Int) (x : (argH Q66.as).den) : seg tb (Q66.G N) Q66.A 0 rec (Q66.fin N) segFuel [.code (bodyOf Try.f66)] (initSt Try.f66 (encArgs Q66.as x) (encMem Q66.as x)) = Q66.e N x.1 x.2.1 := by kernel_rfl
theorem Q66.ok (N : Nat) : FnOk Try.prog 66 (Q66.D N) := by
 refine FnOk_of tb_ok (Checked.mixed Try.checked) ⟨Try.f66, Try.func66, by kernel_rfl, by kernel_rfl, fun x y h => ⟨Q66.G N, Q66.A, N, gamOf_ok (by simp only [List.forall_mem_cons, List.not_mem_nil, false_implies, implies_true, and_true]; exact ⟨⟨Q91.ok N, Q91.fit N⟩, ⟨Q90.ok N, Q90.fit N⟩⟩), ?_⟩⟩ (Q66.fit N)
 rw [absFn_n (n0 := 0) rfl (by kernel_rfl)]
 exact (Q66.entry N _ x).trans h
def Q95.as : List MK := [.o (.own 41 (.prod tI (.prod tI tI))) true, .d false tI, .d false tI, .f 66]
def Q95.rs : List (Bool × HT) := []
def Q95.lc : List AC := [.own 0]
def Q95.D (N : Nat) : DFn := ⟨Q95.as, Q95.rs, LMv, fun x => Q95 N x.1 x.2.1 x.2.2.1, fun r o => o.1, fun b => (), fun b => (b, ()), none⟩
theorem Q95.fit (N : Nat) : (Q95.D N).Fit := ⟨fun _ _ => rfl, fun _ _ => rfl, by kernel_rfl, (fun _ _ h => nomatch h), by kernel_rfl⟩
noncomputable def Q95.G (N : Nat) : Gam := gamOf [(66, Q66.D N)]
def Q95.A : Nat → Option LoopAnn := fun k => bif Nat.beq k 0 then some ⟨[0, 1, 2, 3, 8], [], [], [], [], 1, false⟩ else bif Nat.beq k 2 then some ⟨[0, 1, 2, 3, 8, 9], [], [], [], [], 1, false⟩ else none
noncomputable def Q95.fin (N : Nat) : St → Option LMv := resK tb Try.f95.results.toList (decRes (Q95.D N) Q95.lc)
noncomputable def Q95.k0 : List Item := stackAt [.r, .b] (bodyOf Try.f95) []
def Q95.st0 (data : LMv) (a_ b_ i_ : Int) (data2 : LMv) : St := ⟨[.one (.own 0), .one (.int .i64 a_), .one (.int .i64 b_), .one (.fn 66)] ++ List.replicate 4 (.one .any) ++ [.one (.int .i64 i_)] ++ List.replicate 44 (.one .any), [.row 41 (.prod tI (.prod tI tI)) data2]⟩
noncomputable def Q95.k1 : List Item := stackAt [.r, .b, .w, .r, .l, .b, .r, .b] (bodyOf Try.f95) []
def Q95.st1 (data : LMv) (a_ b_ i_ j_ : Int) (data2 : LMv) : St := ⟨[.one (.own 0), .one (.int .i64 a_), .one (.int .i64 b_), .one (.fn 66)] ++ List.replicate 4 (.one .any) ++ [.one (.int .i64 i_), .one (.int .i64 j_)] ++ List.replicate 43 (.one .any), [.row 41 (.prod tI (.prod tI tI)) data2]⟩
theorem Q95.step0 (N : Nat) (rec : List Item → St → Option LMv) (data : LMv) (a_ b_ i_ : Int) (data2 : LMv) : seg tb (Q95.G N) Q95.A 1 rec (Q95.fin N) segFuel (loopBody Q95.k0) (Q95.st0 data a_ b_ i_ data2) = Q95.s0 N data a_ b_ (fun i_ data2 => rec Q95.k0 (Q95.st0 data a_ b_ i_ data2)) (fun i_ j_ data2 => rec Q95.k1 (Q95.st1 data a_ b_ i_ j_ data2)) i_ data2 := by kernel_rfl
theorem Q95.step1 (N : Nat) (rec : List Item → St → Option LMv) (data : LMv) (a_ b_ i_ j_ : Int) (data2 : LMv) : seg tb (Q95.G N) Q95.A 1 rec (Q95.fin N) segFuel (loopBody Q95.k1) (Q95.st1 data a_ b_ i_ j_ data2) = Q95.s1 N data a_ b_ (fun i_ data2 => rec Q95.k0 (Q95.st0 data a_ b_ i_ data2)) (fun i_ j_ data2 => rec Q95.k1 (Q95.st1 data a_ b_ i_ j_ data2)) i_ j_ data2 := by kernel_rfl
theorem Q95.entry (N : Nat) (rec : List Item → St → Option LMv) (x : (argH Q95.as).den) : seg tb (Q95.G N) Q95.A 1 rec (Q95.fin N) segFuel [.code (bodyOf Try.f95)] (initSt Try.f95 (encArgs Q95.as x) (encMem Q95.as x)) = Q95.e N (fun i_ data2 => rec Q95.k0 (Q95.st0 x.1 x.2.1 x.2.2.1 i_ data2)) (fun i_ j_ data2 => rec Q95.k1 (Q95.st1 x.1 x.2.1 x.2.2.1 i_ j_ data2)) x.1 x.2.1 x.2.2.1 := by kernel_rfl
theorem Q95.runs (N : Nat) (data : LMv) (a_ b_ : Int) : ∀ n, (∀ (i_ : Int) (data2 : LMv), run tb (Q95.G N) Q95.A 1 (Q95.fin N) n Q95.k0 (Q95.st0 data a_ b_ i_ data2) = Q95.l0 N data a_ b_ n i_ data2) ∧ (∀ (i_ j_ : Int) (data2 : LMv), run tb (Q95.G N) Q95.A 1 (Q95.fin N) n Q95.k1 (Q95.st1 data a_ b_ i_ j_ data2) = Q95.l1 N data a_ b_ n i_ j_ data2)
 | 0 => ⟨fun _ _ => rfl, fun _ _ _ => rfl⟩
 | n + 1 => by
  obtain ⟨h0, h1⟩ := Q95.runs N data a_ b_ n
  have e0 : (fun (i_ : Int) (data2 : LMv) => run tb (Q95.G N) Q95.A 1 (Q95.fin N) n Q95.k0 (Q95.st0 data a_ b_ i_ data2)) = Q95.l0 N data a_ b_ n := by funext i_ data2; exact h0 i_ data2
  have e1 : (fun (i_ j_ : Int) (data2 : LMv) => run tb (Q95.G N) Q95.A 1 (Q95.fin N) n Q95.k1 (Q95.st1 data a_ b_ i_ j_ data2)) = Q95.l1 N data a_ b_ n := by funext i_ j_ data2; exact h1 i_ j_ data2
  have g0 : (∀ (i_ : Int) (data2 : LMv), run tb (Q95.G N) Q95.A 1 (Q95.fin N) (n + 1) Q95.k0 (Q95.st0 data a_ b_ i_ data2) = Q95.l0 N data a_ b_ (n + 1) i_ data2) := by
   intro i_ data2
   exact (run_succ (by kernel_rfl)).trans ((Q95.step0 N _ data a_ b_ i_ data2).trans ((congr (congrArg (fun r0 r1 => Q95.s0 N data a_ b_ r0 r1 i_ data2) e0) e1).trans (Q95.l0_s N data a_ b_ n i_ data2).symm))
  have g1 : (∀ (i_ j_ : Int) (data2 : LMv), run tb (Q95.G N) Q95.A 1 (Q95.fin N) (n + 1) Q95.k1 (Q95.st1 data a_ b_ i_ j_ data2) = Q95.l1 N data a_ b_ (n + 1) i_ j_ data2) := by
   intro i_ j_ data2
   exact (run_succ (by kernel_rfl)).trans ((Q95.step1 N _ data a_ b_ i_ j_ data2).trans ((congr (congrArg (fun r0 r1 => Q95.s1 N data a_ b_ r0 r1 i_ j_ data2) e0) e1).trans (Q95.l1_s N data a_ b_ n i_ j_ data2).symm))
  exact ⟨g0, g1⟩
theorem Q95.ok (N : Nat) : FnOk Try.prog 95 (Q95.D N) := by
 refine FnOk_of tb_ok (Checked.mixed Try.checked) ⟨Try.f95, Try.func95, by kernel_rfl, by kernel_rfl, fun x y h => ⟨Q95.G N, Q95.A, N, gamOf_ok (by simp only [List.forall_mem_cons, List.not_mem_nil, false_implies, implies_true, and_true]; exact ⟨Q66.ok N, Q66.fit N⟩), ?_⟩⟩ (Q95.fit N)
 rw [absFn_n (n0 := 1) rfl (by kernel_rfl)]
 refine (Q95.entry N (run tb (Q95.G N) Q95.A 1 (Q95.fin N) N) x).trans ?_
 have e0 : (fun (i_ : Int) (data2 : LMv) => run tb (Q95.G N) Q95.A 1 (Q95.fin N) N Q95.k0 (Q95.st0 x.1 x.2.1 x.2.2.1 i_ data2)) = Q95.l0 N x.1 x.2.1 x.2.2.1 N := by funext i_ data2; exact (Q95.runs N x.1 x.2.1 x.2.2.1 N).1 i_ data2
 have e1 : (fun (i_ j_ : Int) (data2 : LMv) => run tb (Q95.G N) Q95.A 1 (Q95.fin N) N Q95.k1 (Q95.st1 x.1 x.2.1 x.2.2.1 i_ j_ data2)) = Q95.l1 N x.1 x.2.1 x.2.2.1 N := by funext i_ j_ data2; exact (Q95.runs N x.1 x.2.1 x.2.2.1 N).2 i_ j_ data2
 have h' : (Q95.D N).f x = Q95.e N (Q95.l0 N x.1 x.2.1 x.2.2.1 N) (Q95.l1 N x.1 x.2.1 x.2.2.1 N) x.1 x.2.1 x.2.2.1 := by kernel_rfl
 exact (congr (congrArg (fun r0 r1 => Q95.e N r0 r1 x.1 x.2.1 x.2.2.1) e0) e1).trans (h'.symm.trans h)
def Q106.as : List MK := [.o (.own 41 (.prod tI (.prod tI tI))) true, .d false tI, .d false tI, .d false tI, .f 66]
def Q106.rs : List (Bool × HT) := []
def Q106.lc : List AC := [.own 0]
def Q106.D (N : Nat) : DFn := ⟨Q106.as, Q106.rs, LMv, fun x => Q106 N x.1 x.2.1 x.2.2.1 x.2.2.2.1, fun r o => o.1, fun b => (), fun b => (b, ()), none⟩
theorem Q106.fit (N : Nat) : (Q106.D N).Fit := ⟨fun _ _ => rfl, fun _ _ => rfl, by kernel_rfl, (fun _ _ h => nomatch h), by kernel_rfl⟩
noncomputable def Q106.G (N : Nat) : Gam := gamOf [(66, Q66.D N)]
def Q106.A : Nat → Option LoopAnn := fun k => bif Nat.beq k 0 then some ⟨[0, 2, 3, 4, 10], [], [], [], [], 1, false⟩ else none
noncomputable def Q106.fin (N : Nat) : St → Option LMv := resK tb Try.f106.results.toList (decRes (Q106.D N) Q106.lc)
noncomputable def Q106.k0 : List Item := stackAt [.r, .b] (bodyOf Try.f106) []
def Q106.st0 (data : LMv) (lo hi first root : Int) (data2 : LMv) : St := ⟨[.one (.own 0), .one .any, .one (.int .i64 hi), .one (.int .i64 first), .one (.fn 66)] ++ List.replicate 5 (.one .any) ++ [.one (.int .i64 root)] ++ List.replicate 71 (.one .any), [.row 41 (.prod tI (.prod tI tI)) data2]⟩
theorem Q106.step0 (N : Nat) (rec : List Item → St → Option LMv) (data : LMv) (lo hi first root : Int) (data2 : LMv) : seg tb (Q106.G N) Q106.A 1 rec (Q106.fin N) segFuel (loopBody Q106.k0) (Q106.st0 data lo hi first root data2) = Q106.s0 N data lo hi first (fun root data2 => rec Q106.k0 (Q106.st0 data lo hi first root data2)) root data2 := by kernel_rfl
theorem Q106.entry (N : Nat) (rec : List Item → St → Option LMv) (x : (argH Q106.as).den) : seg tb (Q106.G N) Q106.A 1 rec (Q106.fin N) segFuel [.code (bodyOf Try.f106)] (initSt Try.f106 (encArgs Q106.as x) (encMem Q106.as x)) = Q106.e N (fun root data2 => rec Q106.k0 (Q106.st0 x.1 x.2.1 x.2.2.1 x.2.2.2.1 root data2)) x.1 x.2.1 x.2.2.1 x.2.2.2.1 := by kernel_rfl
theorem Q106.runs (N : Nat) (data : LMv) (lo hi first : Int) : ∀ n, (∀ (root : Int) (data2 : LMv), run tb (Q106.G N) Q106.A 1 (Q106.fin N) n Q106.k0 (Q106.st0 data lo hi first root data2) = Q106.l0 N data lo hi first n root data2)
 | 0 => fun _ _ => rfl
 | n + 1 => by
  have h0 := Q106.runs N data lo hi first n
  have e0 : (fun (root : Int) (data2 : LMv) => run tb (Q106.G N) Q106.A 1 (Q106.fin N) n Q106.k0 (Q106.st0 data lo hi first root data2)) = Q106.l0 N data lo hi first n := by funext root data2; exact h0 root data2
  have g0 : (∀ (root : Int) (data2 : LMv), run tb (Q106.G N) Q106.A 1 (Q106.fin N) (n + 1) Q106.k0 (Q106.st0 data lo hi first root data2) = Q106.l0 N data lo hi first (n + 1) root data2) := by
   intro root data2
   exact (run_succ (by kernel_rfl)).trans ((Q106.step0 N _ data lo hi first root data2).trans ((congrArg (fun r0 => Q106.s0 N data lo hi first r0 root data2) e0).trans (Q106.l0_s N data lo hi first n root data2).symm))
  exact g0
theorem Q106.ok (N : Nat) : FnOk Try.prog 106 (Q106.D N) := by
 refine FnOk_of tb_ok (Checked.mixed Try.checked) ⟨Try.f106, Try.func106, by kernel_rfl, by kernel_rfl, fun x y h => ⟨Q106.G N, Q106.A, N, gamOf_ok (by simp only [List.forall_mem_cons, List.not_mem_nil, false_implies, implies_true, and_true]; exact ⟨Q66.ok N, Q66.fit N⟩), ?_⟩⟩ (Q106.fit N)
 rw [absFn_n (n0 := 1) rfl (by kernel_rfl)]
 refine (Q106.entry N (run tb (Q106.G N) Q106.A 1 (Q106.fin N) N) x).trans ?_
 have e0 : (fun (root : Int) (data2 : LMv) => run tb (Q106.G N) Q106.A 1 (Q106.fin N) N Q106.k0 (Q106.st0 x.1 x.2.1 x.2.2.1 x.2.2.2.1 root data2)) = Q106.l0 N x.1 x.2.1 x.2.2.1 x.2.2.2.1 N := by funext root data2; exact (Q106.runs N x.1 x.2.1 x.2.2.1 x.2.2.2.1 N) root data2
 have h' : (Q106.D N).f x = Q106.e N (Q106.l0 N x.1 x.2.1 x.2.2.1 x.2.2.2.1 N) x.1 x.2.1 x.2.2.1 x.2.2.2.1 := by kernel_rfl
 exact (congrArg (fun r0 => Q106.e N r0 x.1 x.2.1 x.2.2.1 x.2.2.2.1) e0).trans (h'.symm.trans h)
def Q96.as : List MK := [.o (.own 41 (.prod tI (.prod tI tI))) true, .d false tI, .d false tI, .f 66]
def Q96.rs : List (Bool × HT) := []
def Q96.lc : List AC := [.own 0]
def Q96.D (N : Nat) : DFn := ⟨Q96.as, Q96.rs, LMv, fun x => Q96 N x.1 x.2.1 x.2.2.1, fun r o => o.1, fun b => (), fun b => (b, ()), none⟩
theorem Q96.fit (N : Nat) : (Q96.D N).Fit := ⟨fun _ _ => rfl, fun _ _ => rfl, by kernel_rfl, (fun _ _ h => nomatch h), by kernel_rfl⟩
noncomputable def Q96.G (N : Nat) : Gam := gamOf [(106, Q106.D N)]
def Q96.A : Nat → Option LoopAnn := fun k => bif Nat.beq k 0 then some ⟨[0, 3, 8, 9, 10, 11], [], [], [], [], 1, false⟩ else bif Nat.beq k 2 then some ⟨[0, 3, 8, 9, 12], [], [], [], [], 1, false⟩ else none
noncomputable def Q96.fin (N : Nat) : St → Option LMv := resK tb Try.f96.results.toList (decRes (Q96.D N) Q96.lc)
noncomputable def Q96.k0 : List Item := stackAt [.r, .r, .r, .l, .r, .b] (bodyOf Try.f96) []
def Q96.st0 (data : LMv) (a_ b_ i_ : Int) (data2 : LMv) : St := ⟨[.one (.own 0), .one .any, .one .any, .one (.fn 66)] ++ List.replicate 4 (.one .any) ++ [.one (.int .i64 a_), .one (.int .i64 0), .one (.int .i64 (w64 (b_ - a_))), .one (.int .i64 i_)] ++ List.replicate 48 (.one .any), [.row 41 (.prod tI (.prod tI tI)) data2]⟩
noncomputable def Q96.k1 : List Item := stackAt [.r, .r, .r, .r, .r, .b] (bodyOf Try.f96) []
def Q96.st1 (data : LMv) (a_ b_ i_ : Int) (data2 : LMv) : St := ⟨[.one (.own 0), .one .any, .one .any, .one (.fn 66)] ++ List.replicate 4 (.one .any) ++ [.one (.int .i64 a_), .one (.int .i64 0), .one .any, .one .any, .one (.int .i64 i_)] ++ List.replicate 47 (.one .any), [.row 41 (.prod tI (.prod tI tI)) data2]⟩
theorem Q96.step0 (N : Nat) (rec : List Item → St → Option LMv) (data : LMv) (a_ b_ i_ : Int) (data2 : LMv) : seg tb (Q96.G N) Q96.A 1 rec (Q96.fin N) segFuel (loopBody Q96.k0) (Q96.st0 data a_ b_ i_ data2) = Q96.s0 N data a_ b_ (fun i_ data2 => rec Q96.k0 (Q96.st0 data a_ b_ i_ data2)) (fun i_ data2 => rec Q96.k1 (Q96.st1 data a_ b_ i_ data2)) i_ data2 := by kernel_rfl
theorem Q96.step1 (N : Nat) (rec : List Item → St → Option LMv) (data : LMv) (a_ b_ i_ : Int) (data2 : LMv) : seg tb (Q96.G N) Q96.A 1 rec (Q96.fin N) segFuel (loopBody Q96.k1) (Q96.st1 data a_ b_ i_ data2) = Q96.s1 N data a_ b_ (fun i_ data2 => rec Q96.k0 (Q96.st0 data a_ b_ i_ data2)) (fun i_ data2 => rec Q96.k1 (Q96.st1 data a_ b_ i_ data2)) i_ data2 := by kernel_rfl
theorem Q96.entry (N : Nat) (rec : List Item → St → Option LMv) (x : (argH Q96.as).den) : seg tb (Q96.G N) Q96.A 1 rec (Q96.fin N) segFuel [.code (bodyOf Try.f96)] (initSt Try.f96 (encArgs Q96.as x) (encMem Q96.as x)) = Q96.e N (fun i_ data2 => rec Q96.k0 (Q96.st0 x.1 x.2.1 x.2.2.1 i_ data2)) (fun i_ data2 => rec Q96.k1 (Q96.st1 x.1 x.2.1 x.2.2.1 i_ data2)) x.1 x.2.1 x.2.2.1 := by kernel_rfl
theorem Q96.runs (N : Nat) (data : LMv) (a_ b_ : Int) : ∀ n, (∀ (i_ : Int) (data2 : LMv), run tb (Q96.G N) Q96.A 1 (Q96.fin N) n Q96.k0 (Q96.st0 data a_ b_ i_ data2) = Q96.l0 N data a_ b_ n i_ data2) ∧ (∀ (i_ : Int) (data2 : LMv), run tb (Q96.G N) Q96.A 1 (Q96.fin N) n Q96.k1 (Q96.st1 data a_ b_ i_ data2) = Q96.l1 N data a_ b_ n i_ data2)
 | 0 => ⟨fun _ _ => rfl, fun _ _ => rfl⟩
 | n + 1 => by
  obtain ⟨h0, h1⟩ := Q96.runs N data a_ b_ n
  have e0 : (fun (i_ : Int) (data2 : LMv) => run tb (Q96.G N) Q96.A 1 (Q96.fin N) n Q96.k0 (Q96.st0 data a_ b_ i_ data2)) = Q96.l0 N data a_ b_ n := by funext i_ data2; exact h0 i_ data2
  have e1 : (fun (i_ : Int) (data2 : LMv) => run tb (Q96.G N) Q96.A 1 (Q96.fin N) n Q96.k1 (Q96.st1 data a_ b_ i_ data2)) = Q96.l1 N data a_ b_ n := by funext i_ data2; exact h1 i_ data2
  have g0 : (∀ (i_ : Int) (data2 : LMv), run tb (Q96.G N) Q96.A 1 (Q96.fin N) (n + 1) Q96.k0 (Q96.st0 data a_ b_ i_ data2) = Q96.l0 N data a_ b_ (n + 1) i_ data2) := by
   intro i_ data2
   exact (run_succ (by kernel_rfl)).trans ((Q96.step0 N _ data a_ b_ i_ data2).trans ((congr (congrArg (fun r0 r1 => Q96.s0 N data a_ b_ r0 r1 i_ data2) e0) e1).trans (Q96.l0_s N data a_ b_ n i_ data2).symm))
  have g1 : (∀ (i_ : Int) (data2 : LMv), run tb (Q96.G N) Q96.A 1 (Q96.fin N) (n + 1) Q96.k1 (Q96.st1 data a_ b_ i_ data2) = Q96.l1 N data a_ b_ (n + 1) i_ data2) := by
   intro i_ data2
   exact (run_succ (by kernel_rfl)).trans ((Q96.step1 N _ data a_ b_ i_ data2).trans ((congr (congrArg (fun r0 r1 => Q96.s1 N data a_ b_ r0 r1 i_ data2) e0) e1).trans (Q96.l1_s N data a_ b_ n i_ data2).symm))
  exact ⟨g0, g1⟩
theorem Q96.ok (N : Nat) : FnOk Try.prog 96 (Q96.D N) := by
 refine FnOk_of tb_ok (Checked.mixed Try.checked) ⟨Try.f96, Try.func96, by kernel_rfl, by kernel_rfl, fun x y h => ⟨Q96.G N, Q96.A, N, gamOf_ok (by simp only [List.forall_mem_cons, List.not_mem_nil, false_implies, implies_true, and_true]; exact ⟨Q106.ok N, Q106.fit N⟩), ?_⟩⟩ (Q96.fit N)
 rw [absFn_n (n0 := 1) rfl (by kernel_rfl)]
 refine (Q96.entry N (run tb (Q96.G N) Q96.A 1 (Q96.fin N) N) x).trans ?_
 have e0 : (fun (i_ : Int) (data2 : LMv) => run tb (Q96.G N) Q96.A 1 (Q96.fin N) N Q96.k0 (Q96.st0 x.1 x.2.1 x.2.2.1 i_ data2)) = Q96.l0 N x.1 x.2.1 x.2.2.1 N := by funext i_ data2; exact (Q96.runs N x.1 x.2.1 x.2.2.1 N).1 i_ data2
 have e1 : (fun (i_ : Int) (data2 : LMv) => run tb (Q96.G N) Q96.A 1 (Q96.fin N) N Q96.k1 (Q96.st1 x.1 x.2.1 x.2.2.1 i_ data2)) = Q96.l1 N x.1 x.2.1 x.2.2.1 N := by funext i_ data2; exact (Q96.runs N x.1 x.2.1 x.2.2.1 N).2 i_ data2
 have h' : (Q96.D N).f x = Q96.e N (Q96.l0 N x.1 x.2.1 x.2.2.1 N) (Q96.l1 N x.1 x.2.1 x.2.2.1 N) x.1 x.2.1 x.2.2.1 := by kernel_rfl
 exact (congr (congrArg (fun r0 r1 => Q96.e N r0 r1 x.1 x.2.1 x.2.2.1) e0) e1).trans (h'.symm.trans h)
def Q111.as : List MK := [.d false (.slice 41 (.prod tI (.prod tI tI))), .d false tI, .d false tI, .o (.ptr 3 (.d tI)) true, .f 66]
def Q111.rs : List (Bool × HT) := [(false, (.d tI)), (false, (.d tI))]
def Q111.lc : List AC := [.ptr 0 0]
def Q111.D (N : Nat) : DFn := ⟨Q111.as, Q111.rs, (Int × Int × Int), fun x => Q111 N x.1 x.2.1 x.2.2.1 x.2.2.2.1, fun r o => (r.1, r.2.1, o.1), fun b => (b.1, (b.2.1, ())), fun b => (b.2.2, ()), none⟩
theorem Q111.fit (N : Nat) : (Q111.D N).Fit := ⟨fun _ _ => rfl, fun _ _ => rfl, by kernel_rfl, (fun _ _ h => nomatch h), by kernel_rfl⟩
noncomputable def Q111.G (N : Nat) : Gam := gamOf [(66, Q66.D N)]
def Q111.A : Nat → Option LoopAnn := fun _ => none
noncomputable def Q111.fin (N : Nat) : St → Option (Int × Int × Int) := resK tb Try.f111.results.toList (decRes (Q111.D N) Q111.lc)
theorem Q111.entry (N : Nat) (rec : List Item → St → Option (Int × Int × Int)) (x : (argH Q111.as).den) : seg tb (Q111.G N) Q111.A 1 rec (Q111.fin N) segFuel [.code (bodyOf Try.f111)] (initSt Try.f111 (encArgs Q111.as x) (encMem Q111.as x)) = Q111.e N x.1 x.2.1 x.2.2.1 x.2.2.2.1 := by kernel_rfl
theorem Q111.ok (N : Nat) : FnOk Try.prog 111 (Q111.D N) := by
 refine FnOk_of tb_ok (Checked.mixed Try.checked) ⟨Try.f111, Try.func111, by kernel_rfl, by kernel_rfl, fun x y h => ⟨Q111.G N, Q111.A, N, gamOf_ok (by simp only [List.forall_mem_cons, List.not_mem_nil, false_implies, implies_true, and_true]; exact ⟨Q66.ok N, Q66.fit N⟩), ?_⟩⟩ (Q111.fit N)
 rw [absFn_n (n0 := 1) rfl (by kernel_rfl)]
 exact (Q111.entry N _ x).trans h
def Q110.as : List MK := [.d false (.slice 41 (.prod tI (.prod tI tI))), .d false tI, .d false tI, .d false tI, .o (.ptr 3 (.d tI)) true, .f 66]
def Q110.rs : List (Bool × HT) := [(false, (.d tI))]
def Q110.lc : List AC := [.ptr 0 0]
def Q110.D (N : Nat) : DFn := ⟨Q110.as, Q110.rs, (Int × Int), fun x => Q110 N x.1 x.2.1 x.2.2.1 x.2.2.2.1 x.2.2.2.2.1, fun r o => (r.1, o.1), fun b => (b.1, ()), fun b => (b.2, ()), none⟩
theorem Q110.fit (N : Nat) : (Q110.D N).Fit := ⟨fun _ _ => rfl, fun _ _ => rfl, by kernel_rfl, (fun _ _ h => nomatch h), by kernel_rfl⟩
noncomputable def Q110.G (N : Nat) : Gam := gamOf [(111, Q111.D N)]
def Q110.A : Nat → Option LoopAnn := fun _ => none
noncomputable def Q110.fin (N : Nat) : St → Option (Int × Int) := resK tb Try.f110.results.toList (decRes (Q110.D N) Q110.lc)
theorem Q110.entry (N : Nat) (rec : List Item → St → Option (Int × Int)) (x : (argH Q110.as).den) : seg tb (Q110.G N) Q110.A 1 rec (Q110.fin N) segFuel [.code (bodyOf Try.f110)] (initSt Try.f110 (encArgs Q110.as x) (encMem Q110.as x)) = Q110.e N x.1 x.2.1 x.2.2.1 x.2.2.2.1 x.2.2.2.2.1 := by kernel_rfl
theorem Q110.ok (N : Nat) : FnOk Try.prog 110 (Q110.D N) := by
 refine FnOk_of tb_ok (Checked.mixed Try.checked) ⟨Try.f110, Try.func110, by kernel_rfl, by kernel_rfl, fun x y h => ⟨Q110.G N, Q110.A, N, gamOf_ok (by simp only [List.forall_mem_cons, List.not_mem_nil, false_implies, implies_true, and_true]; exact ⟨Q111.ok N, Q111.fit N⟩), ?_⟩⟩ (Q110.fit N)
 rw [absFn_n (n0 := 1) rfl (by kernel_rfl)]
 exact (Q110.entry N _ x).trans h
def Q109.as : List MK := [.d false (.slice 41 (.prod tI (.prod tI tI))), .d false tI, .o (.ptr 3 (.d tI)) true, .f 66]
def Q109.rs : List (Bool × HT) := [(false, (.d tI))]
def Q109.lc : List AC := [.ptr 0 0]
def Q109.D (N : Nat) : DFn := ⟨Q109.as, Q109.rs, (Int × Int), fun x => Q109 N x.1 x.2.1 x.2.2.1, fun r o => (r.1, o.1), fun b => (b.1, ()), fun b => (b.2, ()), none⟩
theorem Q109.fit (N : Nat) : (Q109.D N).Fit := ⟨fun _ _ => rfl, fun _ _ => rfl, by kernel_rfl, (fun _ _ h => nomatch h), by kernel_rfl⟩
noncomputable def Q109.G (N : Nat) : Gam := gamOf [(110, Q110.D N)]
def Q109.A : Nat → Option LoopAnn := fun _ => none
noncomputable def Q109.fin (N : Nat) : St → Option (Int × Int) := resK tb Try.f109.results.toList (decRes (Q109.D N) Q109.lc)
theorem Q109.entry (N : Nat) (rec : List Item → St → Option (Int × Int)) (x : (argH Q109.as).den) : seg tb (Q109.G N) Q109.A 1 rec (Q109.fin N) segFuel [.code (bodyOf Try.f109)] (initSt Try.f109 (encArgs Q109.as x) (encMem Q109.as x)) = Q109.e N x.1 x.2.1 x.2.2.1 := by kernel_rfl
theorem Q109.ok (N : Nat) : FnOk Try.prog 109 (Q109.D N) := by
 refine FnOk_of tb_ok (Checked.mixed Try.checked) ⟨Try.f109, Try.func109, by kernel_rfl, by kernel_rfl, fun x y h => ⟨Q109.G N, Q109.A, N, gamOf_ok (by simp only [List.forall_mem_cons, List.not_mem_nil, false_implies, implies_true, and_true]; exact ⟨Q110.ok N, Q110.fit N⟩), ?_⟩⟩ (Q109.fit N)
 rw [absFn_n (n0 := 1) rfl (by kernel_rfl)]
 exact (Q109.entry N _ x).trans h
end Go.Proofs.Ytpielijehhhobaa.Am
