/- Plain: words for 'a result there is, of which this is true'. -/
import Derived.Test.YtpielijehhhobaaAm16
set_option linter.unusedVariables false
set_option linter.unusedSimpArgs false
namespace Go.Proofs.Ytpielijehhhobaa.Am
open Go
abbrev WayT := Int × Int × Int × Int
abbrev PieceT := Int × Int × Int × List WayT
abbrev EndT := Int × Int × Int × Bool
abbrev RulesT := ByteArray × (Int × (Int × (List PieceT × (List Int × (Bool × (Bool × (List EndT × (Int × (Int × Int)))))))))
abbrev PosT := List Int × ((List Int × List Int) × (Int × Int))
abbrev MvT := Int × (Int × Int)
abbrev z0 : MvT := ((0 : Int), ((0 : Int), (0 : Int)))
abbrev zW : WayT := ((0 : Int), ((0 : Int), ((0 : Int), (0 : Int))))
abbrev zP : PieceT := ((0 : Int), ((0 : Int), ((0 : Int), ([] : (List (Int × (Int × (Int × Int))))))))
abbrev zE : EndT := ((0 : Int), ((0 : Int), ((0 : Int), false)))
def Ret {β : Type} (x : Option β) (Q : β → Prop) : Prop := ∃ y, x = some y ∧ Q y
theorem Ret.bif {β : Type} {Q : β → Prop} {c : Bool} {x y : Option β} (h1 : c = true → Ret x Q) (h2 : c = false → Ret y Q) : Ret (bif c then x else y) Q := by
 cases c
 ·exact h2 rfl
 ·exact h1 rfl
theorem Ret.bnd {β γ : Type} {Q : γ → Prop} {Q' : β → Prop} {x : Option β} {f : β → Option γ} (h1 : Ret x Q') (h2 : ∀ y, Q' y → Ret (f y) Q) : Ret (x.bind f) Q := by
 obtain ⟨y, rfl, hy⟩ := h1
 exact h2 y hy
theorem Ret.chk {β : Type} {Q : β → Prop} {c : Bool} {x : Option β} (h1 : c = true) (h2 : Ret x Q) : Ret (chk c x) Q := by
 subst h1; exact h2
theorem Ret.ret {β : Type} {Q : β → Prop} {y : β} (h : Q y) : Ret (some y) Q := ⟨y, rfl, h⟩
theorem Ret.mono {β : Type} {Q Q' : β → Prop} {x : Option β} (h : Ret x Q) (hQ : ∀ y, Q y → Q' y) : Ret x Q' := by
 obtain ⟨y, rfl, hy⟩ := h
 exact ⟨y, rfl, hQ y hy⟩
theorem Ret.of_eq {β : Type} {Q : β → Prop} {x : Option β} {y : β} (h : x = some y) (hQ : Q y) : Ret x Q := ⟨y, h, hQ⟩
theorem chk_idx {R : Type} {i n : Int} {x : Option R} (h1 : 0 ≤ i) (h2 : i < n) : chk (leI 0 i && ltI i n) x = x := by
 rw [leI_t h1, ltI_t h2]; rfl
theorem chk_idx' {R : Type} {i n : Int} {x : Option R} (h1 : 0 ≤ i) (h2 : i ≤ n) : chk (leI 0 i && leI i n) x = x := by
 rw [leI_t h1, leI_t h2]; rfl
theorem chk_t1 {R : Type} {i n : Int} {x : Option R} (h1 : 0 ≤ i) (h2 : i ≤ n) : chk (true && (leI 0 i && leI i n)) x = x := by
 rw [leI_t h1, leI_t h2]; rfl
theorem chk_cap {R : Type} {k n : Nat} {x : Option R} (h : n * k ≤ 140737488355328) : chk (capOk k n) x = x := by
 unfold capOk; rw [decide_eq_true h]; rfl
theorem ltI_iff {a b : Int} : ltI a b = true ↔ a < b := by simp [ltI]
theorem ltI_iff' {a b : Int} : ltI a b = false ↔ b ≤ a := by simp [ltI]
theorem leI_iff {a b : Int} : leI a b = true ↔ a ≤ b := by simp [leI]
theorem leI_iff' {a b : Int} : leI a b = false ↔ b < a := by simp [leI]
theorem eqI_iff {a b : Int} : eqI a b = true ↔ a = b := by simp [eqI]
theorem eqI_iff' {a b : Int} : eqI a b = false ↔ a ≠ b := by simp [eqI]
theorem not_t {b : Bool} : (!b) = true ↔ b = false := by cases b <;> simp
theorem not_f {b : Bool} : (!b) = false ↔ b = true := by cases b <;> simp
theorem forall_drop {α : Type} {l : List α} {j : Nat} (hj : j < l.length) {P : α → Prop} : (∀ x ∈ l.drop j, P x) ↔ P l[j] ∧ ∀ x ∈ l.drop (j + 1), P x := by
 rw [List.drop_eq_getElem_cons hj, List.forall_mem_cons]
theorem forall_end {α : Type} {l : List α} {j : Nat} (hj : l.length ≤ j) {P : α → Prop} : (∀ x ∈ l.drop j, P x) ↔ True := by
 rw [List.drop_of_length_le hj]; simp
theorem nxt {n : Nat} (h : 0 < n) : ∃ m, n = m + 1 := ⟨n - 1, by omega⟩
end Go.Proofs.Ytpielijehhhobaa.Am
