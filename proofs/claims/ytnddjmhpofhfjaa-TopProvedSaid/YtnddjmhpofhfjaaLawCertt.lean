/- PRINTED by mono.py: more fuel changes no result. -/
import Derived.Test.YtnddjmhpofhfjaaLawAlongt
import Derived.Test.YtnddjmhpofhfjaaFnt1
import Derived.Test.YtnddjmhpofhfjaaLawCheckt
import Derived.Test.YtnddjmhpofhfjaaLawDoEqt
set_option linter.unusedVariables false
set_option linter.unusedSimpArgs false
namespace Go.Proofs.Ytnddjmhpofhfjaa.Am
open Go
def Le {α : Type} (x y : Option α) : Prop := ∀ v, x = some v → y = some v
theorem Le.refl {α : Type} (x : Option α) : Le x x := fun _ h => h
theorem Le.of_none {α : Type} {x y : Option α} (h : x = none) : Le x y := fun v h2 => by rw [h] at h2; cases h2
theorem Le.chk {α : Type} {c : Bool} {x y : Option α} (h : Le x y) : Le (chk c x) (chk c y) := by
 cases c
 ·exact Le.refl _
 ·exact h
theorem Le.bif {α : Type} {c : Bool} {x y a b : Option α} (h : Le x y) (h2 : Le a b) : Le (bif c then x else a) (bif c then y else b) := by
 cases c
 ·exact h2
 ·exact h
theorem Le.bnd {α β : Type} {x y : Option α} {f g : α → Option β} (h : Le x y) (h2 : ∀ v, Le (f v) (g v)) : Le (x.bind f) (y.bind g) := by
 intro v hv
 cases hx : x with
 | none => rw [hx] at hv; cases hv
 | some u => rw [hx, ob] at hv; rw [h u hx, ob]; exact h2 u v hv
theorem Q75.e_m {N N' : Nat} (hN : N ≤ N')  (c_ : Int) : Le (Q75.e N  c_) (Q75.e N'  c_) := by unfold Q75.e; with_reducible (repeat' first | refine Le.chk ?_ | refine Le.bif ?_ ?_ | refine Le.bnd ?_ (fun _ => ?_) | exact Le.refl _ | dsimp only)
theorem Q75_m {N N' : Nat} (hN : N ≤ N') (c_ : Int) : Le (Q75 N c_) (Q75 N' c_) := Q75.e_m hN  c_
theorem Q82.e_m {N N' : Nat} (hN : N ≤ N')  (r_ : RulesT) (player : Int) (square : Int) : Le (Q82.e N  r_ player square) (Q82.e N'  r_ player square) := by unfold Q82.e; with_reducible (repeat' first | refine Le.chk ?_ | refine Le.bif ?_ ?_ | refine Le.bnd ?_ (fun _ => ?_) | exact Le.refl _ | dsimp only)
theorem Q82_m {N N' : Nat} (hN : N ≤ N') (r_ : RulesT) (player : Int) (square : Int) : Le (Q82 N r_ player square) (Q82 N' r_ player square) := Q82.e_m hN  r_ player square
theorem Q55.e_m {N N' : Nat} (hN : N ≤ N')  (c_ : Int) : Le (Q55.e N  c_) (Q55.e N'  c_) := by unfold Q55.e; with_reducible (repeat' first | refine Le.chk ?_ | refine Le.bif ?_ ?_ | refine Le.bnd ?_ (fun _ => ?_) | exact Le.refl _ | dsimp only)
theorem Q55_m {N N' : Nat} (hN : N ≤ N') (c_ : Int) : Le (Q55 N c_) (Q55 N' c_) := Q55.e_m hN  c_
theorem Q103.e_m {N N' : Nat} (hN : N ≤ N')  (x_ : Int) : Le (Q103.e N  x_) (Q103.e N'  x_) := by unfold Q103.e; with_reducible (repeat' first | refine Le.chk ?_ | refine Le.bif ?_ ?_ | refine Le.bnd ?_ (fun _ => ?_) | exact Le.refl _ | dsimp only)
theorem Q103_m {N N' : Nat} (hN : N ≤ N') (x_ : Int) : Le (Q103 N x_) (Q103 N' x_) := Q103.e_m hN  x_
theorem Q90.e_m {N N' : Nat} (hN : N ≤ N')  (x_ : Int) : Le (Q90.e N  x_) (Q90.e N'  x_) := by unfold Q90.e; with_reducible (repeat' first | refine Le.chk ?_ | refine Le.bif ?_ ?_ | refine Le.bnd ?_ (fun _ => ?_) | apply Q103_m hN | exact Le.refl _ | dsimp only)
theorem Q90_m {N N' : Nat} (hN : N ≤ N') (x_ : Int) : Le (Q90 N x_) (Q90 N' x_) := Q90.e_m hN  x_
theorem Q104.e_m {N N' : Nat} (hN : N ≤ N')  (x_ : Int) : Le (Q104.e N  x_) (Q104.e N'  x_) := by unfold Q104.e; with_reducible (repeat' first | refine Le.chk ?_ | refine Le.bif ?_ ?_ | refine Le.bnd ?_ (fun _ => ?_) | exact Le.refl _ | dsimp only)
theorem Q104_m {N N' : Nat} (hN : N ≤ N') (x_ : Int) : Le (Q104 N x_) (Q104 N' x_) := Q104.e_m hN  x_
theorem Q92.e_m {N N' : Nat} (hN : N ≤ N')  (x_ : Int) (y_ : Int) : Le (Q92.e N  x_ y_) (Q92.e N'  x_ y_) := by unfold Q92.e; with_reducible (repeat' first | refine Le.chk ?_ | refine Le.bif ?_ ?_ | refine Le.bnd ?_ (fun _ => ?_) | apply Q104_m hN | exact Le.refl _ | dsimp only)
theorem Q92_m {N N' : Nat} (hN : N ≤ N') (x_ : Int) (y_ : Int) : Le (Q92 N x_ y_) (Q92 N' x_ y_) := Q92.e_m hN  x_ y_
theorem Q91.e_m {N N' : Nat} (hN : N ≤ N') {r0 r0' : Int → Option Int} (h0 : ∀ a0, Le (r0 a0) (r0' a0)) (vals : (List Int)) : Le (Q91.e N r0 vals) (Q91.e N' r0' vals) := by unfold Q91.e; with_reducible (repeat' first | refine Le.chk ?_ | refine Le.bif ?_ ?_ | refine Le.bnd ?_ (fun _ => ?_) | apply h0 | exact Le.refl _ | dsimp only)
theorem Q91.s0_m {N N' : Nat} (hN : N ≤ N') (vals : (List Int)) {r0 r0' : Int → Option Int} (h0 : ∀ a0, Le (r0 a0) (r0' a0)) (t8_ : Int) : Le (Q91.s0 N vals r0 t8_) (Q91.s0 N' vals r0' t8_) := by unfold Q91.s0; with_reducible (repeat' first | refine Le.chk ?_ | refine Le.bif ?_ ?_ | refine Le.bnd ?_ (fun _ => ?_) | apply h0 | exact Le.refl _ | dsimp only)
theorem Q91.l_m {N N' : Nat} (hN : N ≤ N') (vals : (List Int)) : ∀ n n' : Nat, n ≤ n' → (∀ a0, Le (Q91.l0 N vals n a0) (Q91.l0 N' vals n' a0))
 | 0, _, _ => fun _ => Le.of_none rfl
 | n + 1, 0, h => absurd h (by omega)
 | n + 1, n' + 1, h => by
  have ih := Q91.l_m hN vals n n' (by omega)
  have g0 : ∀ a0, Le (Q91.l0 N vals (n + 1) a0) (Q91.l0 N' vals (n' + 1) a0) := fun a0 => by rw [Q91.l0_s, Q91.l0_s]; exact Q91.s0_m hN vals (ih) a0
  exact g0
theorem Q91_m {N N' : Nat} (hN : N ≤ N') (vals : (List Int)) : Le (Q91 N vals) (Q91 N' vals) := Q91.e_m hN (fun a0 => (Q91.l_m hN vals N N' hN) a0) vals
theorem Q78.e_m {N N' : Nat} (hN : N ≤ N')  (a_ : MvT) (b_ : MvT) : Le (Q78.e N  a_ b_) (Q78.e N'  a_ b_) := by unfold Q78.e; with_reducible (repeat' first | refine Le.chk ?_ | refine Le.bif ?_ ?_ | refine Le.bnd ?_ (fun _ => ?_) | apply Q92_m hN | apply Q91_m hN | exact Le.refl _ | dsimp only)
theorem Q78_m {N N' : Nat} (hN : N ≤ N') (a_ : MvT) (b_ : MvT) : Le (Q78 N a_ b_) (Q78 N' a_ b_) := Q78.e_m hN  a_ b_
theorem Q94.e_m {N N' : Nat} (hN : N ≤ N') {r0 r0' : Int → (List MvT) → Option (List MvT)} (h0 : ∀ a0 a1, Le (r0 a0 a1) (r0' a0 a1)) {r1 r1' : Int → Int → (List MvT) → Option (List MvT)} (h1 : ∀ a0 a1 a2, Le (r1 a0 a1 a2) (r1' a0 a1 a2)) (data : (List MvT)) (a_ : Int) (b_ : Int) : Le (Q94.e N r0 r1 data a_ b_) (Q94.e N' r0' r1' data a_ b_) := by unfold Q94.e; with_reducible (repeat' first | refine Le.chk ?_ | refine Le.bif ?_ ?_ | refine Le.bnd ?_ (fun _ => ?_) | apply h0 | apply h1 | apply Q78_m hN | exact Le.refl _ | dsimp only)
theorem Q94.s0_m {N N' : Nat} (hN : N ≤ N') (data : (List MvT)) (a_ : Int) (b_ : Int) {r0 r0' : Int → (List MvT) → Option (List MvT)} (h0 : ∀ a0 a1, Le (r0 a0 a1) (r0' a0 a1)) {r1 r1' : Int → Int → (List MvT) → Option (List MvT)} (h1 : ∀ a0 a1 a2, Le (r1 a0 a1 a2) (r1' a0 a1 a2)) (i_ : Int) (data2 : (List MvT)) : Le (Q94.s0 N data a_ b_ r0 r1 i_ data2) (Q94.s0 N' data a_ b_ r0' r1' i_ data2) := by unfold Q94.s0; with_reducible (repeat' first | refine Le.chk ?_ | refine Le.bif ?_ ?_ | refine Le.bnd ?_ (fun _ => ?_) | apply h0 | apply h1 | apply Q78_m hN | exact Le.refl _ | dsimp only)
theorem Q94.s1_m {N N' : Nat} (hN : N ≤ N') (data : (List MvT)) (a_ : Int) (b_ : Int) {r0 r0' : Int → (List MvT) → Option (List MvT)} (h0 : ∀ a0 a1, Le (r0 a0 a1) (r0' a0 a1)) {r1 r1' : Int → Int → (List MvT) → Option (List MvT)} (h1 : ∀ a0 a1 a2, Le (r1 a0 a1 a2) (r1' a0 a1 a2)) (i_ : Int) (j_ : Int) (data2 : (List MvT)) : Le (Q94.s1 N data a_ b_ r0 r1 i_ j_ data2) (Q94.s1 N' data a_ b_ r0' r1' i_ j_ data2) := by unfold Q94.s1; with_reducible (repeat' first | refine Le.chk ?_ | refine Le.bif ?_ ?_ | refine Le.bnd ?_ (fun _ => ?_) | apply h0 | apply h1 | apply Q78_m hN | exact Le.refl _ | dsimp only)
theorem Q94.l_m {N N' : Nat} (hN : N ≤ N') (data : (List MvT)) (a_ : Int) (b_ : Int) : ∀ n n' : Nat, n ≤ n' → (∀ a0 a1, Le (Q94.l0 N data a_ b_ n a0 a1) (Q94.l0 N' data a_ b_ n' a0 a1)) ∧ (∀ a0 a1 a2, Le (Q94.l1 N data a_ b_ n a0 a1 a2) (Q94.l1 N' data a_ b_ n' a0 a1 a2))
 | 0, _, _ => ⟨fun _ _ => Le.of_none rfl, fun _ _ _ => Le.of_none rfl⟩
 | n + 1, 0, h => absurd h (by omega)
 | n + 1, n' + 1, h => by
  have ih := Q94.l_m hN data a_ b_ n n' (by omega)
  have g0 : ∀ a0 a1, Le (Q94.l0 N data a_ b_ (n + 1) a0 a1) (Q94.l0 N' data a_ b_ (n' + 1) a0 a1) := fun a0 a1 => by rw [Q94.l0_s, Q94.l0_s]; exact Q94.s0_m hN data a_ b_ (ih.1) (ih.2) a0 a1
  have g1 : ∀ a0 a1 a2, Le (Q94.l1 N data a_ b_ (n + 1) a0 a1 a2) (Q94.l1 N' data a_ b_ (n' + 1) a0 a1 a2) := fun a0 a1 a2 => by rw [Q94.l1_s, Q94.l1_s]; exact Q94.s1_m hN data a_ b_ (ih.1) (ih.2) a0 a1 a2
  exact ⟨g0, g1⟩
theorem Q94_m {N N' : Nat} (hN : N ≤ N') (data : (List MvT)) (a_ : Int) (b_ : Int) : Le (Q94 N data a_ b_) (Q94 N' data a_ b_) := Q94.e_m hN (fun a0 a1 => (Q94.l_m hN data a_ b_ N N' hN).1 a0 a1) (fun a0 a1 a2 => (Q94.l_m hN data a_ b_ N N' hN).2 a0 a1 a2) data a_ b_
theorem Q105.e_m {N N' : Nat} (hN : N ≤ N') {r0 r0' : Int → (List MvT) → Option (List MvT)} (h0 : ∀ a0 a1, Le (r0 a0 a1) (r0' a0 a1)) (data : (List MvT)) (lo : Int) (hi : Int) (first : Int) : Le (Q105.e N r0 data lo hi first) (Q105.e N' r0' data lo hi first) := by unfold Q105.e; with_reducible (repeat' first | refine Le.chk ?_ | refine Le.bif ?_ ?_ | refine Le.bnd ?_ (fun _ => ?_) | apply h0 | apply Q78_m hN | exact Le.refl _ | dsimp only)
theorem Q105.s0_m {N N' : Nat} (hN : N ≤ N') (data : (List MvT)) (lo : Int) (hi : Int) (first : Int) {r0 r0' : Int → (List MvT) → Option (List MvT)} (h0 : ∀ a0 a1, Le (r0 a0 a1) (r0' a0 a1)) (root : Int) (data2 : (List MvT)) : Le (Q105.s0 N data lo hi first r0 root data2) (Q105.s0 N' data lo hi first r0' root data2) := by unfold Q105.s0; with_reducible (repeat' first | refine Le.chk ?_ | refine Le.bif ?_ ?_ | refine Le.bnd ?_ (fun _ => ?_) | apply h0 | apply Q78_m hN | exact Le.refl _ | dsimp only)
theorem Q105.l_m {N N' : Nat} (hN : N ≤ N') (data : (List MvT)) (lo : Int) (hi : Int) (first : Int) : ∀ n n' : Nat, n ≤ n' → (∀ a0 a1, Le (Q105.l0 N data lo hi first n a0 a1) (Q105.l0 N' data lo hi first n' a0 a1))
 | 0, _, _ => fun _ _ => Le.of_none rfl
 | n + 1, 0, h => absurd h (by omega)
 | n + 1, n' + 1, h => by
  have ih := Q105.l_m hN data lo hi first n n' (by omega)
  have g0 : ∀ a0 a1, Le (Q105.l0 N data lo hi first (n + 1) a0 a1) (Q105.l0 N' data lo hi first (n' + 1) a0 a1) := fun a0 a1 => by rw [Q105.l0_s, Q105.l0_s]; exact Q105.s0_m hN data lo hi first (ih) a0 a1
  exact g0
theorem Q105_m {N N' : Nat} (hN : N ≤ N') (data : (List MvT)) (lo : Int) (hi : Int) (first : Int) : Le (Q105 N data lo hi first) (Q105 N' data lo hi first) := Q105.e_m hN (fun a0 a1 => (Q105.l_m hN data lo hi first N N' hN) a0 a1) data lo hi first
theorem Q95.e_m {N N' : Nat} (hN : N ≤ N') {r0 r0' : Int → (List MvT) → Option (List MvT)} (h0 : ∀ a0 a1, Le (r0 a0 a1) (r0' a0 a1)) {r1 r1' : Int → (List MvT) → Option (List MvT)} (h1 : ∀ a0 a1, Le (r1 a0 a1) (r1' a0 a1)) (data : (List MvT)) (a_ : Int) (b_ : Int) : Le (Q95.e N r0 r1 data a_ b_) (Q95.e N' r0' r1' data a_ b_) := by unfold Q95.e; with_reducible (repeat' first | refine Le.chk ?_ | refine Le.bif ?_ ?_ | refine Le.bnd ?_ (fun _ => ?_) | apply h0 | apply h1 | apply Q105_m hN | exact Le.refl _ | dsimp only)
theorem Q95.s0_m {N N' : Nat} (hN : N ≤ N') (data : (List MvT)) (a_ : Int) (b_ : Int) {r0 r0' : Int → (List MvT) → Option (List MvT)} (h0 : ∀ a0 a1, Le (r0 a0 a1) (r0' a0 a1)) {r1 r1' : Int → (List MvT) → Option (List MvT)} (h1 : ∀ a0 a1, Le (r1 a0 a1) (r1' a0 a1)) (i_ : Int) (data2 : (List MvT)) : Le (Q95.s0 N data a_ b_ r0 r1 i_ data2) (Q95.s0 N' data a_ b_ r0' r1' i_ data2) := by unfold Q95.s0; with_reducible (repeat' first | refine Le.chk ?_ | refine Le.bif ?_ ?_ | refine Le.bnd ?_ (fun _ => ?_) | apply h0 | apply h1 | apply Q105_m hN | exact Le.refl _ | dsimp only)
theorem Q95.s1_m {N N' : Nat} (hN : N ≤ N') (data : (List MvT)) (a_ : Int) (b_ : Int) {r0 r0' : Int → (List MvT) → Option (List MvT)} (h0 : ∀ a0 a1, Le (r0 a0 a1) (r0' a0 a1)) {r1 r1' : Int → (List MvT) → Option (List MvT)} (h1 : ∀ a0 a1, Le (r1 a0 a1) (r1' a0 a1)) (i_ : Int) (data2 : (List MvT)) : Le (Q95.s1 N data a_ b_ r0 r1 i_ data2) (Q95.s1 N' data a_ b_ r0' r1' i_ data2) := by unfold Q95.s1; with_reducible (repeat' first | refine Le.chk ?_ | refine Le.bif ?_ ?_ | refine Le.bnd ?_ (fun _ => ?_) | apply h0 | apply h1 | apply Q105_m hN | exact Le.refl _ | dsimp only)
theorem Q95.l_m {N N' : Nat} (hN : N ≤ N') (data : (List MvT)) (a_ : Int) (b_ : Int) : ∀ n n' : Nat, n ≤ n' → (∀ a0 a1, Le (Q95.l0 N data a_ b_ n a0 a1) (Q95.l0 N' data a_ b_ n' a0 a1)) ∧ (∀ a0 a1, Le (Q95.l1 N data a_ b_ n a0 a1) (Q95.l1 N' data a_ b_ n' a0 a1))
 | 0, _, _ => ⟨fun _ _ => Le.of_none rfl, fun _ _ => Le.of_none rfl⟩
 | n + 1, 0, h => absurd h (by omega)
 | n + 1, n' + 1, h => by
  have ih := Q95.l_m hN data a_ b_ n n' (by omega)
  have g0 : ∀ a0 a1, Le (Q95.l0 N data a_ b_ (n + 1) a0 a1) (Q95.l0 N' data a_ b_ (n' + 1) a0 a1) := fun a0 a1 => by rw [Q95.l0_s, Q95.l0_s]; exact Q95.s0_m hN data a_ b_ (ih.1) (ih.2) a0 a1
  have g1 : ∀ a0 a1, Le (Q95.l1 N data a_ b_ (n + 1) a0 a1) (Q95.l1 N' data a_ b_ (n' + 1) a0 a1) := fun a0 a1 => by rw [Q95.l1_s, Q95.l1_s]; exact Q95.s1_m hN data a_ b_ (ih.1) (ih.2) a0 a1
  exact ⟨g0, g1⟩
theorem Q95_m {N N' : Nat} (hN : N ≤ N') (data : (List MvT)) (a_ : Int) (b_ : Int) : Le (Q95 N data a_ b_) (Q95 N' data a_ b_) := Q95.e_m hN (fun a0 a1 => (Q95.l_m hN data a_ b_ N N' hN).1 a0 a1) (fun a0 a1 => (Q95.l_m hN data a_ b_ N N' hN).2 a0 a1) data a_ b_
theorem Q110.e_m {N N' : Nat} (hN : N ≤ N')  (data : (List MvT)) (a_ : Int) (b_ : Int) (swaps : Int) : Le (Q110.e N  data a_ b_ swaps) (Q110.e N'  data a_ b_ swaps) := by unfold Q110.e; with_reducible (repeat' first | refine Le.chk ?_ | refine Le.bif ?_ ?_ | refine Le.bnd ?_ (fun _ => ?_) | apply Q78_m hN | exact Le.refl _ | dsimp only)
theorem Q110_m {N N' : Nat} (hN : N ≤ N') (data : (List MvT)) (a_ : Int) (b_ : Int) (swaps : Int) : Le (Q110 N data a_ b_ swaps) (Q110 N' data a_ b_ swaps) := Q110.e_m hN  data a_ b_ swaps
theorem Q109.e_m {N N' : Nat} (hN : N ≤ N')  (data : (List MvT)) (a_ : Int) (b_ : Int) (c_ : Int) (swaps : Int) : Le (Q109.e N  data a_ b_ c_ swaps) (Q109.e N'  data a_ b_ c_ swaps) := by unfold Q109.e; with_reducible (repeat' first | refine Le.chk ?_ | refine Le.bif ?_ ?_ | refine Le.bnd ?_ (fun _ => ?_) | apply Q110_m hN | exact Le.refl _ | dsimp only)
theorem Q109_m {N N' : Nat} (hN : N ≤ N') (data : (List MvT)) (a_ : Int) (b_ : Int) (c_ : Int) (swaps : Int) : Le (Q109 N data a_ b_ c_ swaps) (Q109 N' data a_ b_ c_ swaps) := Q109.e_m hN  data a_ b_ c_ swaps
theorem Q108.e_m {N N' : Nat} (hN : N ≤ N')  (data : (List MvT)) (a_ : Int) (swaps : Int) : Le (Q108.e N  data a_ swaps) (Q108.e N'  data a_ swaps) := by unfold Q108.e; with_reducible (repeat' first | refine Le.chk ?_ | refine Le.bif ?_ ?_ | refine Le.bnd ?_ (fun _ => ?_) | apply Q109_m hN | exact Le.refl _ | dsimp only)
theorem Q108_m {N N' : Nat} (hN : N ≤ N') (data : (List MvT)) (a_ : Int) (swaps : Int) : Le (Q108 N data a_ swaps) (Q108 N' data a_ swaps) := Q108.e_m hN  data a_ swaps
theorem Q97.e_m {N N' : Nat} (hN : N ≤ N')  (data : (List MvT)) (a_ : Int) (b_ : Int) : Le (Q97.e N  data a_ b_) (Q97.e N'  data a_ b_) := by unfold Q97.e; with_reducible (repeat' first | refine Le.chk ?_ | refine Le.bif ?_ ?_ | refine Le.bnd ?_ (fun _ => ?_) | apply Q108_m hN | apply Q109_m hN | exact Le.refl _ | dsimp only)
theorem Q97_m {N N' : Nat} (hN : N ≤ N') (data : (List MvT)) (a_ : Int) (b_ : Int) : Le (Q97 N data a_ b_) (Q97 N' data a_ b_) := Q97.e_m hN  data a_ b_
theorem Q98.e_m {N N' : Nat} (hN : N ≤ N') {r0 r0' : Int → Int → (List MvT) → Option (List MvT)} (h0 : ∀ a0 a1 a2, Le (r0 a0 a1 a2) (r0' a0 a1 a2)) (data : (List MvT)) (a_ : Int) (b_ : Int) : Le (Q98.e N r0 data a_ b_) (Q98.e N' r0' data a_ b_) := by unfold Q98.e; with_reducible (repeat' first | refine Le.chk ?_ | refine Le.bif ?_ ?_ | refine Le.bnd ?_ (fun _ => ?_) | apply h0 | exact Le.refl _ | dsimp only)
theorem Q98.s0_m {N N' : Nat} (hN : N ≤ N') (data : (List MvT)) (a_ : Int) (b_ : Int) {r0 r0' : Int → Int → (List MvT) → Option (List MvT)} (h0 : ∀ a0 a1 a2, Le (r0 a0 a1 a2) (r0' a0 a1 a2)) (i_ : Int) (j_ : Int) (data2 : (List MvT)) : Le (Q98.s0 N data a_ b_ r0 i_ j_ data2) (Q98.s0 N' data a_ b_ r0' i_ j_ data2) := by unfold Q98.s0; with_reducible (repeat' first | refine Le.chk ?_ | refine Le.bif ?_ ?_ | refine Le.bnd ?_ (fun _ => ?_) | apply h0 | exact Le.refl _ | dsimp only)
theorem Q98.l_m {N N' : Nat} (hN : N ≤ N') (data : (List MvT)) (a_ : Int) (b_ : Int) : ∀ n n' : Nat, n ≤ n' → (∀ a0 a1 a2, Le (Q98.l0 N data a_ b_ n a0 a1 a2) (Q98.l0 N' data a_ b_ n' a0 a1 a2))
 | 0, _, _ => fun _ _ _ => Le.of_none rfl
 | n + 1, 0, h => absurd h (by omega)
 | n + 1, n' + 1, h => by
  have ih := Q98.l_m hN data a_ b_ n n' (by omega)
  have g0 : ∀ a0 a1 a2, Le (Q98.l0 N data a_ b_ (n + 1) a0 a1 a2) (Q98.l0 N' data a_ b_ (n' + 1) a0 a1 a2) := fun a0 a1 a2 => by rw [Q98.l0_s, Q98.l0_s]; exact Q98.s0_m hN data a_ b_ (ih) a0 a1 a2
  exact g0
theorem Q98_m {N N' : Nat} (hN : N ≤ N') (data : (List MvT)) (a_ : Int) (b_ : Int) : Le (Q98 N data a_ b_) (Q98 N' data a_ b_) := Q98.e_m hN (fun a0 a1 a2 => (Q98.l_m hN data a_ b_ N N' hN) a0 a1 a2) data a_ b_
theorem Q99.e_m {N N' : Nat} (hN : N ≤ N') {r0 r0' : Int → Int → (List MvT) → Option (Bool × (List MvT))} (h0 : ∀ a0 a1 a2, Le (r0 a0 a1 a2) (r0' a0 a1 a2)) {r1 r1' : Int → Int → (List MvT) → Option (Bool × (List MvT))} (h1 : ∀ a0 a1 a2, Le (r1 a0 a1 a2) (r1' a0 a1 a2)) {r2 r2' : Int → Int → Int → (List MvT) → Option (Bool × (List MvT))} (h2 : ∀ a0 a1 a2 a3, Le (r2 a0 a1 a2 a3) (r2' a0 a1 a2 a3)) {r3 r3' : Int → Int → Int → (List MvT) → Option (Bool × (List MvT))} (h3 : ∀ a0 a1 a2 a3, Le (r3 a0 a1 a2 a3) (r3' a0 a1 a2 a3)) (data : (List MvT)) (a_ : Int) (b_ : Int) : Le (Q99.e N r0 r1 r2 r3 data a_ b_) (Q99.e N' r0' r1' r2' r3' data a_ b_) := by unfold Q99.e; with_reducible (repeat' first | refine Le.chk ?_ | refine Le.bif ?_ ?_ | refine Le.bnd ?_ (fun _ => ?_) | apply h0 | apply h1 | apply h2 | apply h3 | apply Q78_m hN | exact Le.refl _ | dsimp only)
theorem Q99.s0_m {N N' : Nat} (hN : N ≤ N') (data : (List MvT)) (a_ : Int) (b_ : Int) {r0 r0' : Int → Int → (List MvT) → Option (Bool × (List MvT))} (h0 : ∀ a0 a1 a2, Le (r0 a0 a1 a2) (r0' a0 a1 a2)) {r1 r1' : Int → Int → (List MvT) → Option (Bool × (List MvT))} (h1 : ∀ a0 a1 a2, Le (r1 a0 a1 a2) (r1' a0 a1 a2)) {r2 r2' : Int → Int → Int → (List MvT) → Option (Bool × (List MvT))} (h2 : ∀ a0 a1 a2 a3, Le (r2 a0 a1 a2 a3) (r2' a0 a1 a2 a3)) {r3 r3' : Int → Int → Int → (List MvT) → Option (Bool × (List MvT))} (h3 : ∀ a0 a1 a2 a3, Le (r3 a0 a1 a2 a3) (r3' a0 a1 a2 a3)) (i_ : Int) (j_ : Int) (data2 : (List MvT)) : Le (Q99.s0 N data a_ b_ r0 r1 r2 r3 i_ j_ data2) (Q99.s0 N' data a_ b_ r0' r1' r2' r3' i_ j_ data2) := by unfold Q99.s0; with_reducible (repeat' first | refine Le.chk ?_ | refine Le.bif ?_ ?_ | refine Le.bnd ?_ (fun _ => ?_) | apply h0 | apply h1 | apply h2 | apply h3 | apply Q78_m hN | exact Le.refl _ | dsimp only)
theorem Q99.s1_m {N N' : Nat} (hN : N ≤ N') (data : (List MvT)) (a_ : Int) (b_ : Int) {r0 r0' : Int → Int → (List MvT) → Option (Bool × (List MvT))} (h0 : ∀ a0 a1 a2, Le (r0 a0 a1 a2) (r0' a0 a1 a2)) {r1 r1' : Int → Int → (List MvT) → Option (Bool × (List MvT))} (h1 : ∀ a0 a1 a2, Le (r1 a0 a1 a2) (r1' a0 a1 a2)) {r2 r2' : Int → Int → Int → (List MvT) → Option (Bool × (List MvT))} (h2 : ∀ a0 a1 a2 a3, Le (r2 a0 a1 a2 a3) (r2' a0 a1 a2 a3)) {r3 r3' : Int → Int → Int → (List MvT) → Option (Bool × (List MvT))} (h3 : ∀ a0 a1 a2 a3, Le (r3 a0 a1 a2 a3) (r3' a0 a1 a2 a3)) (i_ : Int) (j_ : Int) (data2 : (List MvT)) : Le (Q99.s1 N data a_ b_ r0 r1 r2 r3 i_ j_ data2) (Q99.s1 N' data a_ b_ r0' r1' r2' r3' i_ j_ data2) := by unfold Q99.s1; with_reducible (repeat' first | refine Le.chk ?_ | refine Le.bif ?_ ?_ | refine Le.bnd ?_ (fun _ => ?_) | apply h0 | apply h1 | apply h2 | apply h3 | apply Q78_m hN | exact Le.refl _ | dsimp only)
theorem Q99.s2_m {N N' : Nat} (hN : N ≤ N') (data : (List MvT)) (a_ : Int) (b_ : Int) {r0 r0' : Int → Int → (List MvT) → Option (Bool × (List MvT))} (h0 : ∀ a0 a1 a2, Le (r0 a0 a1 a2) (r0' a0 a1 a2)) {r1 r1' : Int → Int → (List MvT) → Option (Bool × (List MvT))} (h1 : ∀ a0 a1 a2, Le (r1 a0 a1 a2) (r1' a0 a1 a2)) {r2 r2' : Int → Int → Int → (List MvT) → Option (Bool × (List MvT))} (h2 : ∀ a0 a1 a2 a3, Le (r2 a0 a1 a2 a3) (r2' a0 a1 a2 a3)) {r3 r3' : Int → Int → Int → (List MvT) → Option (Bool × (List MvT))} (h3 : ∀ a0 a1 a2 a3, Le (r3 a0 a1 a2 a3) (r3' a0 a1 a2 a3)) (i_ : Int) (j_ : Int) (j_2 : Int) (data2 : (List MvT)) : Le (Q99.s2 N data a_ b_ r0 r1 r2 r3 i_ j_ j_2 data2) (Q99.s2 N' data a_ b_ r0' r1' r2' r3' i_ j_ j_2 data2) := by unfold Q99.s2; with_reducible (repeat' first | refine Le.chk ?_ | refine Le.bif ?_ ?_ | refine Le.bnd ?_ (fun _ => ?_) | apply h0 | apply h1 | apply h2 | apply h3 | apply Q78_m hN | exact Le.refl _ | dsimp only)
theorem Q99.s3_m {N N' : Nat} (hN : N ≤ N') (data : (List MvT)) (a_ : Int) (b_ : Int) {r0 r0' : Int → Int → (List MvT) → Option (Bool × (List MvT))} (h0 : ∀ a0 a1 a2, Le (r0 a0 a1 a2) (r0' a0 a1 a2)) {r1 r1' : Int → Int → (List MvT) → Option (Bool × (List MvT))} (h1 : ∀ a0 a1 a2, Le (r1 a0 a1 a2) (r1' a0 a1 a2)) {r2 r2' : Int → Int → Int → (List MvT) → Option (Bool × (List MvT))} (h2 : ∀ a0 a1 a2 a3, Le (r2 a0 a1 a2 a3) (r2' a0 a1 a2 a3)) {r3 r3' : Int → Int → Int → (List MvT) → Option (Bool × (List MvT))} (h3 : ∀ a0 a1 a2 a3, Le (r3 a0 a1 a2 a3) (r3' a0 a1 a2 a3)) (i_ : Int) (j_ : Int) (j_2 : Int) (data2 : (List MvT)) : Le (Q99.s3 N data a_ b_ r0 r1 r2 r3 i_ j_ j_2 data2) (Q99.s3 N' data a_ b_ r0' r1' r2' r3' i_ j_ j_2 data2) := by unfold Q99.s3; with_reducible (repeat' first | refine Le.chk ?_ | refine Le.bif ?_ ?_ | refine Le.bnd ?_ (fun _ => ?_) | apply h0 | apply h1 | apply h2 | apply h3 | apply Q78_m hN | exact Le.refl _ | dsimp only)
theorem Q99.l_m {N N' : Nat} (hN : N ≤ N') (data : (List MvT)) (a_ : Int) (b_ : Int) : ∀ n n' : Nat, n ≤ n' → (∀ a0 a1 a2, Le (Q99.l0 N data a_ b_ n a0 a1 a2) (Q99.l0 N' data a_ b_ n' a0 a1 a2)) ∧ (∀ a0 a1 a2, Le (Q99.l1 N data a_ b_ n a0 a1 a2) (Q99.l1 N' data a_ b_ n' a0 a1 a2)) ∧ (∀ a0 a1 a2 a3, Le (Q99.l2 N data a_ b_ n a0 a1 a2 a3) (Q99.l2 N' data a_ b_ n' a0 a1 a2 a3)) ∧ (∀ a0 a1 a2 a3, Le (Q99.l3 N data a_ b_ n a0 a1 a2 a3) (Q99.l3 N' data a_ b_ n' a0 a1 a2 a3))
 | 0, _, _ => ⟨fun _ _ _ => Le.of_none rfl, fun _ _ _ => Le.of_none rfl, fun _ _ _ _ => Le.of_none rfl, fun _ _ _ _ => Le.of_none rfl⟩
 | n + 1, 0, h => absurd h (by omega)
 | n + 1, n' + 1, h => by
  have ih := Q99.l_m hN data a_ b_ n n' (by omega)
  have g0 : ∀ a0 a1 a2, Le (Q99.l0 N data a_ b_ (n + 1) a0 a1 a2) (Q99.l0 N' data a_ b_ (n' + 1) a0 a1 a2) := fun a0 a1 a2 => by rw [Q99.l0_s, Q99.l0_s]; exact Q99.s0_m hN data a_ b_ (ih.1) (ih.2.1) (ih.2.2.1) (ih.2.2.2) a0 a1 a2
  have g1 : ∀ a0 a1 a2, Le (Q99.l1 N data a_ b_ (n + 1) a0 a1 a2) (Q99.l1 N' data a_ b_ (n' + 1) a0 a1 a2) := fun a0 a1 a2 => by rw [Q99.l1_s, Q99.l1_s]; exact Q99.s1_m hN data a_ b_ (ih.1) (ih.2.1) (ih.2.2.1) (ih.2.2.2) a0 a1 a2
  have g2 : ∀ a0 a1 a2 a3, Le (Q99.l2 N data a_ b_ (n + 1) a0 a1 a2 a3) (Q99.l2 N' data a_ b_ (n' + 1) a0 a1 a2 a3) := fun a0 a1 a2 a3 => by rw [Q99.l2_s, Q99.l2_s]; exact Q99.s2_m hN data a_ b_ (ih.1) (ih.2.1) (ih.2.2.1) (ih.2.2.2) a0 a1 a2 a3
  have g3 : ∀ a0 a1 a2 a3, Le (Q99.l3 N data a_ b_ (n + 1) a0 a1 a2 a3) (Q99.l3 N' data a_ b_ (n' + 1) a0 a1 a2 a3) := fun a0 a1 a2 a3 => by rw [Q99.l3_s, Q99.l3_s]; exact Q99.s3_m hN data a_ b_ (ih.1) (ih.2.1) (ih.2.2.1) (ih.2.2.2) a0 a1 a2 a3
  exact ⟨g0, g1, g2, g3⟩
theorem Q99_m {N N' : Nat} (hN : N ≤ N') (data : (List MvT)) (a_ : Int) (b_ : Int) : Le (Q99 N data a_ b_) (Q99 N' data a_ b_) := Q99.e_m hN (fun a0 a1 a2 => (Q99.l_m hN data a_ b_ N N' hN).1 a0 a1 a2) (fun a0 a1 a2 => (Q99.l_m hN data a_ b_ N N' hN).2.1 a0 a1 a2) (fun a0 a1 a2 a3 => (Q99.l_m hN data a_ b_ N N' hN).2.2.1 a0 a1 a2 a3) (fun a0 a1 a2 a3 => (Q99.l_m hN data a_ b_ N N' hN).2.2.2 a0 a1 a2 a3) data a_ b_
theorem Q100.e_m {N N' : Nat} (hN : N ≤ N') {r0 r0' : Int → Int → (List MvT) → Option (Int × (List MvT))} (h0 : ∀ a0 a1 a2, Le (r0 a0 a1 a2) (r0' a0 a1 a2)) {r1 r1' : Int → Int → (List MvT) → Option (Int × (List MvT))} (h1 : ∀ a0 a1 a2, Le (r1 a0 a1 a2) (r1' a0 a1 a2)) {r2 r2' : Int → Int → (List MvT) → Option (Int × (List MvT))} (h2 : ∀ a0 a1 a2, Le (r2 a0 a1 a2) (r2' a0 a1 a2)) (data : (List MvT)) (a_ : Int) (b_ : Int) (pivot : Int) : Le (Q100.e N r0 r1 r2 data a_ b_ pivot) (Q100.e N' r0' r1' r2' data a_ b_ pivot) := by unfold Q100.e; with_reducible (repeat' first | refine Le.chk ?_ | refine Le.bif ?_ ?_ | refine Le.bnd ?_ (fun _ => ?_) | apply h0 | apply h1 | apply h2 | apply Q78_m hN | exact Le.refl _ | dsimp only)
theorem Q100.s0_m {N N' : Nat} (hN : N ≤ N') (data : (List MvT)) (a_ : Int) (b_ : Int) (pivot : Int) {r0 r0' : Int → Int → (List MvT) → Option (Int × (List MvT))} (h0 : ∀ a0 a1 a2, Le (r0 a0 a1 a2) (r0' a0 a1 a2)) {r1 r1' : Int → Int → (List MvT) → Option (Int × (List MvT))} (h1 : ∀ a0 a1 a2, Le (r1 a0 a1 a2) (r1' a0 a1 a2)) {r2 r2' : Int → Int → (List MvT) → Option (Int × (List MvT))} (h2 : ∀ a0 a1 a2, Le (r2 a0 a1 a2) (r2' a0 a1 a2)) (i_ : Int) (j_ : Int) (data2 : (List MvT)) : Le (Q100.s0 N data a_ b_ pivot r0 r1 r2 i_ j_ data2) (Q100.s0 N' data a_ b_ pivot r0' r1' r2' i_ j_ data2) := by unfold Q100.s0; with_reducible (repeat' first | refine Le.chk ?_ | refine Le.bif ?_ ?_ | refine Le.bnd ?_ (fun _ => ?_) | apply h0 | apply h1 | apply h2 | apply Q78_m hN | exact Le.refl _ | dsimp only)
theorem Q100.s1_m {N N' : Nat} (hN : N ≤ N') (data : (List MvT)) (a_ : Int) (b_ : Int) (pivot : Int) {r0 r0' : Int → Int → (List MvT) → Option (Int × (List MvT))} (h0 : ∀ a0 a1 a2, Le (r0 a0 a1 a2) (r0' a0 a1 a2)) {r1 r1' : Int → Int → (List MvT) → Option (Int × (List MvT))} (h1 : ∀ a0 a1 a2, Le (r1 a0 a1 a2) (r1' a0 a1 a2)) {r2 r2' : Int → Int → (List MvT) → Option (Int × (List MvT))} (h2 : ∀ a0 a1 a2, Le (r2 a0 a1 a2) (r2' a0 a1 a2)) (i_ : Int) (j_ : Int) (data2 : (List MvT)) : Le (Q100.s1 N data a_ b_ pivot r0 r1 r2 i_ j_ data2) (Q100.s1 N' data a_ b_ pivot r0' r1' r2' i_ j_ data2) := by unfold Q100.s1; with_reducible (repeat' first | refine Le.chk ?_ | refine Le.bif ?_ ?_ | refine Le.bnd ?_ (fun _ => ?_) | apply h0 | apply h1 | apply h2 | apply Q78_m hN | exact Le.refl _ | dsimp only)
theorem Q100.s2_m {N N' : Nat} (hN : N ≤ N') (data : (List MvT)) (a_ : Int) (b_ : Int) (pivot : Int) {r0 r0' : Int → Int → (List MvT) → Option (Int × (List MvT))} (h0 : ∀ a0 a1 a2, Le (r0 a0 a1 a2) (r0' a0 a1 a2)) {r1 r1' : Int → Int → (List MvT) → Option (Int × (List MvT))} (h1 : ∀ a0 a1 a2, Le (r1 a0 a1 a2) (r1' a0 a1 a2)) {r2 r2' : Int → Int → (List MvT) → Option (Int × (List MvT))} (h2 : ∀ a0 a1 a2, Le (r2 a0 a1 a2) (r2' a0 a1 a2)) (i_ : Int) (j_ : Int) (data2 : (List MvT)) : Le (Q100.s2 N data a_ b_ pivot r0 r1 r2 i_ j_ data2) (Q100.s2 N' data a_ b_ pivot r0' r1' r2' i_ j_ data2) := by unfold Q100.s2; with_reducible (repeat' first | refine Le.chk ?_ | refine Le.bif ?_ ?_ | refine Le.bnd ?_ (fun _ => ?_) | apply h0 | apply h1 | apply h2 | apply Q78_m hN | exact Le.refl _ | dsimp only)
theorem Q100.l_m {N N' : Nat} (hN : N ≤ N') (data : (List MvT)) (a_ : Int) (b_ : Int) (pivot : Int) : ∀ n n' : Nat, n ≤ n' → (∀ a0 a1 a2, Le (Q100.l0 N data a_ b_ pivot n a0 a1 a2) (Q100.l0 N' data a_ b_ pivot n' a0 a1 a2)) ∧ (∀ a0 a1 a2, Le (Q100.l1 N data a_ b_ pivot n a0 a1 a2) (Q100.l1 N' data a_ b_ pivot n' a0 a1 a2)) ∧ (∀ a0 a1 a2, Le (Q100.l2 N data a_ b_ pivot n a0 a1 a2) (Q100.l2 N' data a_ b_ pivot n' a0 a1 a2))
 | 0, _, _ => ⟨fun _ _ _ => Le.of_none rfl, fun _ _ _ => Le.of_none rfl, fun _ _ _ => Le.of_none rfl⟩
 | n + 1, 0, h => absurd h (by omega)
 | n + 1, n' + 1, h => by
  have ih := Q100.l_m hN data a_ b_ pivot n n' (by omega)
  have g0 : ∀ a0 a1 a2, Le (Q100.l0 N data a_ b_ pivot (n + 1) a0 a1 a2) (Q100.l0 N' data a_ b_ pivot (n' + 1) a0 a1 a2) := fun a0 a1 a2 => by rw [Q100.l0_s, Q100.l0_s]; exact Q100.s0_m hN data a_ b_ pivot (ih.1) (ih.2.1) (ih.2.2) a0 a1 a2
  have g1 : ∀ a0 a1 a2, Le (Q100.l1 N data a_ b_ pivot (n + 1) a0 a1 a2) (Q100.l1 N' data a_ b_ pivot (n' + 1) a0 a1 a2) := fun a0 a1 a2 => by rw [Q100.l1_s, Q100.l1_s]; exact Q100.s1_m hN data a_ b_ pivot (ih.1) (ih.2.1) (ih.2.2) a0 a1 a2
  have g2 : ∀ a0 a1 a2, Le (Q100.l2 N data a_ b_ pivot (n + 1) a0 a1 a2) (Q100.l2 N' data a_ b_ pivot (n' + 1) a0 a1 a2) := fun a0 a1 a2 => by rw [Q100.l2_s, Q100.l2_s]; exact Q100.s2_m hN data a_ b_ pivot (ih.1) (ih.2.1) (ih.2.2) a0 a1 a2
  exact ⟨g0, g1, g2⟩
theorem Q100_m {N N' : Nat} (hN : N ≤ N') (data : (List MvT)) (a_ : Int) (b_ : Int) (pivot : Int) : Le (Q100 N data a_ b_ pivot) (Q100 N' data a_ b_ pivot) := Q100.e_m hN (fun a0 a1 a2 => (Q100.l_m hN data a_ b_ pivot N N' hN).1 a0 a1 a2) (fun a0 a1 a2 => (Q100.l_m hN data a_ b_ pivot N N' hN).2.1 a0 a1 a2) (fun a0 a1 a2 => (Q100.l_m hN data a_ b_ pivot N N' hN).2.2 a0 a1 a2) data a_ b_ pivot
theorem Q101.e_m {N N' : Nat} (hN : N ≤ N') {r0 r0' : Int → (List MvT) → Option (Int × Bool × (List MvT))} (h0 : ∀ a0 a1, Le (r0 a0 a1) (r0' a0 a1)) {r1 r1' : Int → Int → (List MvT) → Option (Int × Bool × (List MvT))} (h1 : ∀ a0 a1 a2, Le (r1 a0 a1 a2) (r1' a0 a1 a2)) {r2 r2' : Int → Int → (List MvT) → Option (Int × Bool × (List MvT))} (h2 : ∀ a0 a1 a2, Le (r2 a0 a1 a2) (r2' a0 a1 a2)) {r3 r3' : Int → Int → (List MvT) → Option (Int × Bool × (List MvT))} (h3 : ∀ a0 a1 a2, Le (r3 a0 a1 a2) (r3' a0 a1 a2)) {r4 r4' : Int → Int → (List MvT) → Option (Int × Bool × (List MvT))} (h4 : ∀ a0 a1 a2, Le (r4 a0 a1 a2) (r4' a0 a1 a2)) (data : (List MvT)) (a_ : Int) (b_ : Int) (pivot : Int) : Le (Q101.e N r0 r1 r2 r3 r4 data a_ b_ pivot) (Q101.e N' r0' r1' r2' r3' r4' data a_ b_ pivot) := by unfold Q101.e; with_reducible (repeat' first | refine Le.chk ?_ | refine Le.bif ?_ ?_ | refine Le.bnd ?_ (fun _ => ?_) | apply h0 | apply h1 | apply h2 | apply h3 | apply h4 | apply Q78_m hN | exact Le.refl _ | dsimp only)
theorem Q101.s0_m {N N' : Nat} (hN : N ≤ N') (data : (List MvT)) (a_ : Int) (b_ : Int) (pivot : Int) {r0 r0' : Int → (List MvT) → Option (Int × Bool × (List MvT))} (h0 : ∀ a0 a1, Le (r0 a0 a1) (r0' a0 a1)) {r1 r1' : Int → Int → (List MvT) → Option (Int × Bool × (List MvT))} (h1 : ∀ a0 a1 a2, Le (r1 a0 a1 a2) (r1' a0 a1 a2)) {r2 r2' : Int → Int → (List MvT) → Option (Int × Bool × (List MvT))} (h2 : ∀ a0 a1 a2, Le (r2 a0 a1 a2) (r2' a0 a1 a2)) {r3 r3' : Int → Int → (List MvT) → Option (Int × Bool × (List MvT))} (h3 : ∀ a0 a1 a2, Le (r3 a0 a1 a2) (r3' a0 a1 a2)) {r4 r4' : Int → Int → (List MvT) → Option (Int × Bool × (List MvT))} (h4 : ∀ a0 a1 a2, Le (r4 a0 a1 a2) (r4' a0 a1 a2)) (i_ : Int) (data2 : (List MvT)) : Le (Q101.s0 N data a_ b_ pivot r0 r1 r2 r3 r4 i_ data2) (Q101.s0 N' data a_ b_ pivot r0' r1' r2' r3' r4' i_ data2) := by unfold Q101.s0; with_reducible (repeat' first | refine Le.chk ?_ | refine Le.bif ?_ ?_ | refine Le.bnd ?_ (fun _ => ?_) | apply h0 | apply h1 | apply h2 | apply h3 | apply h4 | apply Q78_m hN | exact Le.refl _ | dsimp only)
theorem Q101.s1_m {N N' : Nat} (hN : N ≤ N') (data : (List MvT)) (a_ : Int) (b_ : Int) (pivot : Int) {r0 r0' : Int → (List MvT) → Option (Int × Bool × (List MvT))} (h0 : ∀ a0 a1, Le (r0 a0 a1) (r0' a0 a1)) {r1 r1' : Int → Int → (List MvT) → Option (Int × Bool × (List MvT))} (h1 : ∀ a0 a1 a2, Le (r1 a0 a1 a2) (r1' a0 a1 a2)) {r2 r2' : Int → Int → (List MvT) → Option (Int × Bool × (List MvT))} (h2 : ∀ a0 a1 a2, Le (r2 a0 a1 a2) (r2' a0 a1 a2)) {r3 r3' : Int → Int → (List MvT) → Option (Int × Bool × (List MvT))} (h3 : ∀ a0 a1 a2, Le (r3 a0 a1 a2) (r3' a0 a1 a2)) {r4 r4' : Int → Int → (List MvT) → Option (Int × Bool × (List MvT))} (h4 : ∀ a0 a1 a2, Le (r4 a0 a1 a2) (r4' a0 a1 a2)) (i_ : Int) (j_ : Int) (data2 : (List MvT)) : Le (Q101.s1 N data a_ b_ pivot r0 r1 r2 r3 r4 i_ j_ data2) (Q101.s1 N' data a_ b_ pivot r0' r1' r2' r3' r4' i_ j_ data2) := by unfold Q101.s1; with_reducible (repeat' first | refine Le.chk ?_ | refine Le.bif ?_ ?_ | refine Le.bnd ?_ (fun _ => ?_) | apply h0 | apply h1 | apply h2 | apply h3 | apply h4 | apply Q78_m hN | exact Le.refl _ | dsimp only)
theorem Q101.s2_m {N N' : Nat} (hN : N ≤ N') (data : (List MvT)) (a_ : Int) (b_ : Int) (pivot : Int) {r0 r0' : Int → (List MvT) → Option (Int × Bool × (List MvT))} (h0 : ∀ a0 a1, Le (r0 a0 a1) (r0' a0 a1)) {r1 r1' : Int → Int → (List MvT) → Option (Int × Bool × (List MvT))} (h1 : ∀ a0 a1 a2, Le (r1 a0 a1 a2) (r1' a0 a1 a2)) {r2 r2' : Int → Int → (List MvT) → Option (Int × Bool × (List MvT))} (h2 : ∀ a0 a1 a2, Le (r2 a0 a1 a2) (r2' a0 a1 a2)) {r3 r3' : Int → Int → (List MvT) → Option (Int × Bool × (List MvT))} (h3 : ∀ a0 a1 a2, Le (r3 a0 a1 a2) (r3' a0 a1 a2)) {r4 r4' : Int → Int → (List MvT) → Option (Int × Bool × (List MvT))} (h4 : ∀ a0 a1 a2, Le (r4 a0 a1 a2) (r4' a0 a1 a2)) (i_ : Int) (j_ : Int) (data2 : (List MvT)) : Le (Q101.s2 N data a_ b_ pivot r0 r1 r2 r3 r4 i_ j_ data2) (Q101.s2 N' data a_ b_ pivot r0' r1' r2' r3' r4' i_ j_ data2) := by unfold Q101.s2; with_reducible (repeat' first | refine Le.chk ?_ | refine Le.bif ?_ ?_ | refine Le.bnd ?_ (fun _ => ?_) | apply h0 | apply h1 | apply h2 | apply h3 | apply h4 | apply Q78_m hN | exact Le.refl _ | dsimp only)
theorem Q101.s3_m {N N' : Nat} (hN : N ≤ N') (data : (List MvT)) (a_ : Int) (b_ : Int) (pivot : Int) {r0 r0' : Int → (List MvT) → Option (Int × Bool × (List MvT))} (h0 : ∀ a0 a1, Le (r0 a0 a1) (r0' a0 a1)) {r1 r1' : Int → Int → (List MvT) → Option (Int × Bool × (List MvT))} (h1 : ∀ a0 a1 a2, Le (r1 a0 a1 a2) (r1' a0 a1 a2)) {r2 r2' : Int → Int → (List MvT) → Option (Int × Bool × (List MvT))} (h2 : ∀ a0 a1 a2, Le (r2 a0 a1 a2) (r2' a0 a1 a2)) {r3 r3' : Int → Int → (List MvT) → Option (Int × Bool × (List MvT))} (h3 : ∀ a0 a1 a2, Le (r3 a0 a1 a2) (r3' a0 a1 a2)) {r4 r4' : Int → Int → (List MvT) → Option (Int × Bool × (List MvT))} (h4 : ∀ a0 a1 a2, Le (r4 a0 a1 a2) (r4' a0 a1 a2)) (i_ : Int) (j_ : Int) (data2 : (List MvT)) : Le (Q101.s3 N data a_ b_ pivot r0 r1 r2 r3 r4 i_ j_ data2) (Q101.s3 N' data a_ b_ pivot r0' r1' r2' r3' r4' i_ j_ data2) := by unfold Q101.s3; with_reducible (repeat' first | refine Le.chk ?_ | refine Le.bif ?_ ?_ | refine Le.bnd ?_ (fun _ => ?_) | apply h0 | apply h1 | apply h2 | apply h3 | apply h4 | apply Q78_m hN | exact Le.refl _ | dsimp only)
theorem Q101.s4_m {N N' : Nat} (hN : N ≤ N') (data : (List MvT)) (a_ : Int) (b_ : Int) (pivot : Int) {r0 r0' : Int → (List MvT) → Option (Int × Bool × (List MvT))} (h0 : ∀ a0 a1, Le (r0 a0 a1) (r0' a0 a1)) {r1 r1' : Int → Int → (List MvT) → Option (Int × Bool × (List MvT))} (h1 : ∀ a0 a1 a2, Le (r1 a0 a1 a2) (r1' a0 a1 a2)) {r2 r2' : Int → Int → (List MvT) → Option (Int × Bool × (List MvT))} (h2 : ∀ a0 a1 a2, Le (r2 a0 a1 a2) (r2' a0 a1 a2)) {r3 r3' : Int → Int → (List MvT) → Option (Int × Bool × (List MvT))} (h3 : ∀ a0 a1 a2, Le (r3 a0 a1 a2) (r3' a0 a1 a2)) {r4 r4' : Int → Int → (List MvT) → Option (Int × Bool × (List MvT))} (h4 : ∀ a0 a1 a2, Le (r4 a0 a1 a2) (r4' a0 a1 a2)) (i_ : Int) (j_ : Int) (data2 : (List MvT)) : Le (Q101.s4 N data a_ b_ pivot r0 r1 r2 r3 r4 i_ j_ data2) (Q101.s4 N' data a_ b_ pivot r0' r1' r2' r3' r4' i_ j_ data2) := by unfold Q101.s4; with_reducible (repeat' first | refine Le.chk ?_ | refine Le.bif ?_ ?_ | refine Le.bnd ?_ (fun _ => ?_) | apply h0 | apply h1 | apply h2 | apply h3 | apply h4 | apply Q78_m hN | exact Le.refl _ | dsimp only)
theorem Q101.l_m {N N' : Nat} (hN : N ≤ N') (data : (List MvT)) (a_ : Int) (b_ : Int) (pivot : Int) : ∀ n n' : Nat, n ≤ n' → (∀ a0 a1, Le (Q101.l0 N data a_ b_ pivot n a0 a1) (Q101.l0 N' data a_ b_ pivot n' a0 a1)) ∧ (∀ a0 a1 a2, Le (Q101.l1 N data a_ b_ pivot n a0 a1 a2) (Q101.l1 N' data a_ b_ pivot n' a0 a1 a2)) ∧ (∀ a0 a1 a2, Le (Q101.l2 N data a_ b_ pivot n a0 a1 a2) (Q101.l2 N' data a_ b_ pivot n' a0 a1 a2)) ∧ (∀ a0 a1 a2, Le (Q101.l3 N data a_ b_ pivot n a0 a1 a2) (Q101.l3 N' data a_ b_ pivot n' a0 a1 a2)) ∧ (∀ a0 a1 a2, Le (Q101.l4 N data a_ b_ pivot n a0 a1 a2) (Q101.l4 N' data a_ b_ pivot n' a0 a1 a2))
 | 0, _, _ => ⟨fun _ _ => Le.of_none rfl, fun _ _ _ => Le.of_none rfl, fun _ _ _ => Le.of_none rfl, fun _ _ _ => Le.of_none rfl, fun _ _ _ => Le.of_none rfl⟩
 | n + 1, 0, h => absurd h (by omega)
 | n + 1, n' + 1, h => by
  have ih := Q101.l_m hN data a_ b_ pivot n n' (by omega)
  have g0 : ∀ a0 a1, Le (Q101.l0 N data a_ b_ pivot (n + 1) a0 a1) (Q101.l0 N' data a_ b_ pivot (n' + 1) a0 a1) := fun a0 a1 => by rw [Q101.l0_s, Q101.l0_s]; exact Q101.s0_m hN data a_ b_ pivot (ih.1) (ih.2.1) (ih.2.2.1) (ih.2.2.2.1) (ih.2.2.2.2) a0 a1
  have g1 : ∀ a0 a1 a2, Le (Q101.l1 N data a_ b_ pivot (n + 1) a0 a1 a2) (Q101.l1 N' data a_ b_ pivot (n' + 1) a0 a1 a2) := fun a0 a1 a2 => by rw [Q101.l1_s, Q101.l1_s]; exact Q101.s1_m hN data a_ b_ pivot (ih.1) (ih.2.1) (ih.2.2.1) (ih.2.2.2.1) (ih.2.2.2.2) a0 a1 a2
  have g2 : ∀ a0 a1 a2, Le (Q101.l2 N data a_ b_ pivot (n + 1) a0 a1 a2) (Q101.l2 N' data a_ b_ pivot (n' + 1) a0 a1 a2) := fun a0 a1 a2 => by rw [Q101.l2_s, Q101.l2_s]; exact Q101.s2_m hN data a_ b_ pivot (ih.1) (ih.2.1) (ih.2.2.1) (ih.2.2.2.1) (ih.2.2.2.2) a0 a1 a2
  have g3 : ∀ a0 a1 a2, Le (Q101.l3 N data a_ b_ pivot (n + 1) a0 a1 a2) (Q101.l3 N' data a_ b_ pivot (n' + 1) a0 a1 a2) := fun a0 a1 a2 => by rw [Q101.l3_s, Q101.l3_s]; exact Q101.s3_m hN data a_ b_ pivot (ih.1) (ih.2.1) (ih.2.2.1) (ih.2.2.2.1) (ih.2.2.2.2) a0 a1 a2
  have g4 : ∀ a0 a1 a2, Le (Q101.l4 N data a_ b_ pivot (n + 1) a0 a1 a2) (Q101.l4 N' data a_ b_ pivot (n' + 1) a0 a1 a2) := fun a0 a1 a2 => by rw [Q101.l4_s, Q101.l4_s]; exact Q101.s4_m hN data a_ b_ pivot (ih.1) (ih.2.1) (ih.2.2.1) (ih.2.2.2.1) (ih.2.2.2.2) a0 a1 a2
  exact ⟨g0, g1, g2, g3, g4⟩
theorem Q101_m {N N' : Nat} (hN : N ≤ N') (data : (List MvT)) (a_ : Int) (b_ : Int) (pivot : Int) : Le (Q101 N data a_ b_ pivot) (Q101 N' data a_ b_ pivot) := Q101.e_m hN (fun a0 a1 => (Q101.l_m hN data a_ b_ pivot N N' hN).1 a0 a1) (fun a0 a1 a2 => (Q101.l_m hN data a_ b_ pivot N N' hN).2.1 a0 a1 a2) (fun a0 a1 a2 => (Q101.l_m hN data a_ b_ pivot N N' hN).2.2.1 a0 a1 a2) (fun a0 a1 a2 => (Q101.l_m hN data a_ b_ pivot N N' hN).2.2.2.1 a0 a1 a2) (fun a0 a1 a2 => (Q101.l_m hN data a_ b_ pivot N N' hN).2.2.2.2 a0 a1 a2) data a_ b_ pivot
theorem Q106.e_m {N N' : Nat} (hN : N ≤ N')  (length : Int) : Le (Q106.e N  length) (Q106.e N'  length) := by unfold Q106.e; with_reducible (repeat' first | refine Le.chk ?_ | refine Le.bif ?_ ?_ | refine Le.bnd ?_ (fun _ => ?_) | apply Q90_m hN | exact Le.refl _ | dsimp only)
theorem Q106_m {N N' : Nat} (hN : N ≤ N') (length : Int) : Le (Q106 N length) (Q106 N' length) := Q106.e_m hN  length
theorem Q107.e_m {N N' : Nat} (hN : N ≤ N')  (r_ : Int) : Le (Q107.e N  r_) (Q107.e N'  r_) := by unfold Q107.e; with_reducible (repeat' first | refine Le.chk ?_ | refine Le.bif ?_ ?_ | refine Le.bnd ?_ (fun _ => ?_) | exact Le.refl _ | dsimp only)
theorem Q107_m {N N' : Nat} (hN : N ≤ N') (r_ : Int) : Le (Q107 N r_) (Q107 N' r_) := Q107.e_m hN  r_
theorem Q96.e_m {N N' : Nat} (hN : N ≤ N') {r0 r0' : Int → Int → (List MvT) → Int → Option (List MvT)} (h0 : ∀ a0 a1 a2 a3, Le (r0 a0 a1 a2 a3) (r0' a0 a1 a2 a3)) (data : (List MvT)) (a_ : Int) (b_ : Int) : Le (Q96.e N r0 data a_ b_) (Q96.e N' r0' data a_ b_) := by unfold Q96.e; with_reducible (repeat' first | refine Le.chk ?_ | refine Le.bif ?_ ?_ | refine Le.bnd ?_ (fun _ => ?_) | apply h0 | apply Q106_m hN | apply Q107_m hN | exact Le.refl _ | dsimp only)
theorem Q96.s0_m {N N' : Nat} (hN : N ≤ N') (data : (List MvT)) (a_ : Int) (b_ : Int) {r0 r0' : Int → Int → (List MvT) → Int → Option (List MvT)} (h0 : ∀ a0 a1 a2 a3, Le (r0 a0 a1 a2 a3) (r0' a0 a1 a2 a3)) (modulus : Int) (idx : Int) (data2 : (List MvT)) (random : Int) : Le (Q96.s0 N data a_ b_ r0 modulus idx data2 random) (Q96.s0 N' data a_ b_ r0' modulus idx data2 random) := by unfold Q96.s0; with_reducible (repeat' first | refine Le.chk ?_ | refine Le.bif ?_ ?_ | refine Le.bnd ?_ (fun _ => ?_) | apply h0 | apply Q106_m hN | apply Q107_m hN | exact Le.refl _ | dsimp only)
theorem Q96.l_m {N N' : Nat} (hN : N ≤ N') (data : (List MvT)) (a_ : Int) (b_ : Int) : ∀ n n' : Nat, n ≤ n' → (∀ a0 a1 a2 a3, Le (Q96.l0 N data a_ b_ n a0 a1 a2 a3) (Q96.l0 N' data a_ b_ n' a0 a1 a2 a3))
 | 0, _, _ => fun _ _ _ _ => Le.of_none rfl
 | n + 1, 0, h => absurd h (by omega)
 | n + 1, n' + 1, h => by
  have ih := Q96.l_m hN data a_ b_ n n' (by omega)
  have g0 : ∀ a0 a1 a2 a3, Le (Q96.l0 N data a_ b_ (n + 1) a0 a1 a2 a3) (Q96.l0 N' data a_ b_ (n' + 1) a0 a1 a2 a3) := fun a0 a1 a2 a3 => by rw [Q96.l0_s, Q96.l0_s]; exact Q96.s0_m hN data a_ b_ (ih) a0 a1 a2 a3
  exact g0
theorem Q96_m {N N' : Nat} (hN : N ≤ N') (data : (List MvT)) (a_ : Int) (b_ : Int) : Le (Q96 N data a_ b_) (Q96 N' data a_ b_) := Q96.e_m hN (fun a0 a1 a2 a3 => (Q96.l_m hN data a_ b_ N N' hN) a0 a1 a2 a3) data a_ b_
theorem Q89.e_m {N N' : Nat} (hN : N ≤ N') {self self' : (List MvT) → Int → Int → Int → Option (List MvT)} (hs : ∀ a0 a1 a2 a3, Le (self a0 a1 a2 a3) (self' a0 a1 a2 a3)) {r0 r0' : Int → Int → Int → Bool → Bool → (List MvT) → Option (List MvT)} (h0 : ∀ a0 a1 a2 a3 a4 a5, Le (r0 a0 a1 a2 a3 a4 a5) (r0' a0 a1 a2 a3 a4 a5)) (data : (List MvT)) (a_ : Int) (b_ : Int) (limit : Int) : Le (Q89.e N self r0 data a_ b_ limit) (Q89.e N' self' r0' data a_ b_ limit) := by unfold Q89.e; with_reducible (repeat' first | refine Le.chk ?_ | refine Le.bif ?_ ?_ | refine Le.bnd ?_ (fun _ => ?_) | apply hs | apply h0 | apply Q94_m hN | apply Q95_m hN | apply Q96_m hN | apply Q97_m hN | apply Q98_m hN | apply Q99_m hN | apply Q78_m hN | apply Q100_m hN | apply Q101_m hN | exact Le.refl _ | dsimp only)
theorem Q89.s0_m {N N' : Nat} (hN : N ≤ N') {self self' : (List MvT) → Int → Int → Int → Option (List MvT)} (hs : ∀ a0 a1 a2 a3, Le (self a0 a1 a2 a3) (self' a0 a1 a2 a3)) (data : (List MvT)) (a_ : Int) (b_ : Int) (limit : Int) {r0 r0' : Int → Int → Int → Bool → Bool → (List MvT) → Option (List MvT)} (h0 : ∀ a0 a1 a2 a3 a4 a5, Le (r0 a0 a1 a2 a3 a4 a5) (r0' a0 a1 a2 a3 a4 a5)) (a_2 : Int) (b_2 : Int) (limit2 : Int) (wasBalanced : Bool) (wasPartitioned : Bool) (data2 : (List MvT)) : Le (Q89.s0 N self data a_ b_ limit r0 a_2 b_2 limit2 wasBalanced wasPartitioned data2) (Q89.s0 N' self' data a_ b_ limit r0' a_2 b_2 limit2 wasBalanced wasPartitioned data2) := by unfold Q89.s0; with_reducible (repeat' first | refine Le.chk ?_ | refine Le.bif ?_ ?_ | refine Le.bnd ?_ (fun _ => ?_) | apply hs | apply h0 | apply Q94_m hN | apply Q95_m hN | apply Q96_m hN | apply Q97_m hN | apply Q98_m hN | apply Q99_m hN | apply Q78_m hN | apply Q100_m hN | apply Q101_m hN | exact Le.refl _ | dsimp only)
theorem Q89.l_m {N N' : Nat} (hN : N ≤ N') {self self' : (List MvT) → Int → Int → Int → Option (List MvT)} (hs : ∀ a0 a1 a2 a3, Le (self a0 a1 a2 a3) (self' a0 a1 a2 a3)) (data : (List MvT)) (a_ : Int) (b_ : Int) (limit : Int) : ∀ n n' : Nat, n ≤ n' → (∀ a0 a1 a2 a3 a4 a5, Le (Q89.l0 N self data a_ b_ limit n a0 a1 a2 a3 a4 a5) (Q89.l0 N' self' data a_ b_ limit n' a0 a1 a2 a3 a4 a5))
 | 0, _, _ => fun _ _ _ _ _ _ => Le.of_none rfl
 | n + 1, 0, h => absurd h (by omega)
 | n + 1, n' + 1, h => by
  have ih := Q89.l_m hN hs data a_ b_ limit n n' (by omega)
  have g0 : ∀ a0 a1 a2 a3 a4 a5, Le (Q89.l0 N self data a_ b_ limit (n + 1) a0 a1 a2 a3 a4 a5) (Q89.l0 N' self' data a_ b_ limit (n' + 1) a0 a1 a2 a3 a4 a5) := fun a0 a1 a2 a3 a4 a5 => by rw [Q89.l0_s, Q89.l0_s]; exact Q89.s0_m hN hs data a_ b_ limit (ih) a0 a1 a2 a3 a4 a5
  exact g0
theorem Q89_f : ∀ N N' : Nat, N ≤ N' → ∀ (data : (List MvT)) (a_ : Int) (b_ : Int) (limit : Int), Le (Q89 N data a_ b_ limit) (Q89 N' data a_ b_ limit)
 | 0, _, _, _, _, _, _ => Le.of_none rfl
 | N + 1, 0, h, _, _, _, _ => absurd h (by omega)
 | N + 1, N' + 1, h, data, a_, b_, limit => by
  have hN : N ≤ N' := by omega
  have hs := Q89_f N N' hN
  rw [Q89_s, Q89_s]
  exact Q89.e_m hN hs (fun a0 a1 a2 a3 a4 a5 => (Q89.l_m hN hs data a_ b_ limit N N' hN) a0 a1 a2 a3 a4 a5) data a_ b_ limit
theorem Q89_m {N N' : Nat} (hN : N ≤ N') (data : (List MvT)) (a_ : Int) (b_ : Int) (limit : Int) : Le (Q89 N data a_ b_ limit) (Q89 N' data a_ b_ limit) := Q89_f N N' hN data a_ b_ limit
theorem Q77.e_m {N N' : Nat} (hN : N ≤ N')  (x_ : (List MvT)) : Le (Q77.e N  x_) (Q77.e N'  x_) := by unfold Q77.e; with_reducible (repeat' first | refine Le.chk ?_ | refine Le.bif ?_ ?_ | refine Le.bnd ?_ (fun _ => ?_) | apply Q90_m hN | apply Q89_m hN | exact Le.refl _ | dsimp only)
theorem Q77_m {N N' : Nat} (hN : N ≤ N') (x_ : (List MvT)) : Le (Q77 N x_) (Q77 N' x_) := Q77.e_m hN  x_
theorem Q79.e_m {N N' : Nat} (hN : N ≤ N') {r0 r0' : Int → Option (List MvT)} (h0 : ∀ a0, Le (r0 a0) (r0' a0)) {r1 r1' : Int → Int → Int → (List MvT) → Option (List MvT)} (h1 : ∀ a0 a1 a2 a3, Le (r1 a0 a1 a2 a3) (r1' a0 a1 a2 a3)) (s_ : (List MvT)) : Le (Q79.e N r0 r1 s_) (Q79.e N' r0' r1' s_) := by unfold Q79.e; with_reducible (repeat' first | refine Le.chk ?_ | refine Le.bif ?_ ?_ | refine Le.bnd ?_ (fun _ => ?_) | apply h0 | apply h1 | exact Le.refl _ | dsimp only)
theorem Q79.s0_m {N N' : Nat} (hN : N ≤ N') (s_ : (List MvT)) {r0 r0' : Int → Option (List MvT)} (h0 : ∀ a0, Le (r0 a0) (r0' a0)) {r1 r1' : Int → Int → Int → (List MvT) → Option (List MvT)} (h1 : ∀ a0 a1 a2 a3, Le (r1 a0 a1 a2 a3) (r1' a0 a1 a2 a3)) (k_ : Int) : Le (Q79.s0 N s_ r0 r1 k_) (Q79.s0 N' s_ r0' r1' k_) := by unfold Q79.s0; with_reducible (repeat' first | refine Le.chk ?_ | refine Le.bif ?_ ?_ | refine Le.bnd ?_ (fun _ => ?_) | apply h0 | apply h1 | exact Le.refl _ | dsimp only)
theorem Q79.s1_m {N N' : Nat} (hN : N ≤ N') (s_ : (List MvT)) {r0 r0' : Int → Option (List MvT)} (h0 : ∀ a0, Le (r0 a0) (r0' a0)) {r1 r1' : Int → Int → Int → (List MvT) → Option (List MvT)} (h1 : ∀ a0 a1 a2 a3, Le (r1 a0 a1 a2 a3) (r1' a0 a1 a2 a3)) (k_ : Int) (s2_ : Int) (k2_ : Int) (s_2 : (List MvT)) : Le (Q79.s1 N s_ r0 r1 k_ s2_ k2_ s_2) (Q79.s1 N' s_ r0' r1' k_ s2_ k2_ s_2) := by unfold Q79.s1; with_reducible (repeat' first | refine Le.chk ?_ | refine Le.bif ?_ ?_ | refine Le.bnd ?_ (fun _ => ?_) | apply h0 | apply h1 | exact Le.refl _ | dsimp only)
theorem Q79.l_m {N N' : Nat} (hN : N ≤ N') (s_ : (List MvT)) : ∀ n n' : Nat, n ≤ n' → (∀ a0, Le (Q79.l0 N s_ n a0) (Q79.l0 N' s_ n' a0)) ∧ (∀ a0 a1 a2 a3, Le (Q79.l1 N s_ n a0 a1 a2 a3) (Q79.l1 N' s_ n' a0 a1 a2 a3))
 | 0, _, _ => ⟨fun _ => Le.of_none rfl, fun _ _ _ _ => Le.of_none rfl⟩
 | n + 1, 0, h => absurd h (by omega)
 | n + 1, n' + 1, h => by
  have ih := Q79.l_m hN s_ n n' (by omega)
  have g0 : ∀ a0, Le (Q79.l0 N s_ (n + 1) a0) (Q79.l0 N' s_ (n' + 1) a0) := fun a0 => by rw [Q79.l0_s, Q79.l0_s]; exact Q79.s0_m hN s_ (ih.1) (ih.2) a0
  have g1 : ∀ a0 a1 a2 a3, Le (Q79.l1 N s_ (n + 1) a0 a1 a2 a3) (Q79.l1 N' s_ (n' + 1) a0 a1 a2 a3) := fun a0 a1 a2 a3 => by rw [Q79.l1_s, Q79.l1_s]; exact Q79.s1_m hN s_ (ih.1) (ih.2) a0 a1 a2 a3
  exact ⟨g0, g1⟩
theorem Q79_m {N N' : Nat} (hN : N ≤ N') (s_ : (List MvT)) : Le (Q79 N s_) (Q79 N' s_) := Q79.e_m hN (fun a0 => (Q79.l_m hN s_ N N' hN).1 a0) (fun a0 a1 a2 a3 => (Q79.l_m hN s_ N N' hN).2 a0 a1 a2 a3) s_
theorem Q88.e_m {N N' : Nat} (hN : N ≤ N')  (r_ : RulesT) (player : Int) (kind : Int) (to : Int) : Le (Q88.e N  r_ player kind to) (Q88.e N'  r_ player kind to) := by unfold Q88.e; with_reducible (repeat' first | refine Le.chk ?_ | refine Le.bif ?_ ?_ | refine Le.bnd ?_ (fun _ => ?_) | apply Q82_m hN | exact Le.refl _ | dsimp only)
theorem Q88_m {N N' : Nat} (hN : N ≤ N') (r_ : RulesT) (player : Int) (kind : Int) (to : Int) : Le (Q88 N r_ player kind to) (Q88 N' r_ player kind to) := Q88.e_m hN  r_ player kind to
theorem Q76.e_m {N N' : Nat} (hN : N ≤ N') {r0 r0' : Int → Int → Int → Int → Int → (List MvT) → Option (List MvT)} (h0 : ∀ a0 a1 a2 a3 a4 a5, Le (r0 a0 a1 a2 a3 a4 a5) (r0' a0 a1 a2 a3 a4 a5)) (out : (List MvT)) (r_ : RulesT) (p_ : PosT) (from_ : Int) (w_ : WayT) : Le (Q76.e N r0 out r_ p_ from_ w_) (Q76.e N' r0' out r_ p_ from_ w_) := by unfold Q76.e; with_reducible (repeat' first | refine Le.chk ?_ | refine Le.bif ?_ ?_ | refine Le.bnd ?_ (fun _ => ?_) | apply h0 | apply Q55_m hN | apply Q75_m hN | apply Q88_m hN | exact Le.refl _ | dsimp only)
theorem Q76.s0_m {N N' : Nat} (hN : N ≤ N') (out : (List MvT)) (r_ : RulesT) (p_ : PosT) (from_ : Int) (w_ : WayT) {r0 r0' : Int → Int → Int → Int → Int → (List MvT) → Option (List MvT)} (h0 : ∀ a0 a1 a2 a3 a4 a5, Le (r0 a0 a1 a2 a3 a4 a5) (r0' a0 a1 a2 a3 a4 a5)) (kind : Int) (dy : Int) (x_ : Int) (y_ : Int) (t40_ : Int) (out2 : (List MvT)) : Le (Q76.s0 N out r_ p_ from_ w_ r0 kind dy x_ y_ t40_ out2) (Q76.s0 N' out r_ p_ from_ w_ r0' kind dy x_ y_ t40_ out2) := by unfold Q76.s0; with_reducible (repeat' first | refine Le.chk ?_ | refine Le.bif ?_ ?_ | refine Le.bnd ?_ (fun _ => ?_) | apply h0 | apply Q55_m hN | apply Q75_m hN | apply Q88_m hN | exact Le.refl _ | dsimp only)
theorem Q76.l_m {N N' : Nat} (hN : N ≤ N') (out : (List MvT)) (r_ : RulesT) (p_ : PosT) (from_ : Int) (w_ : WayT) : ∀ n n' : Nat, n ≤ n' → (∀ a0 a1 a2 a3 a4 a5, Le (Q76.l0 N out r_ p_ from_ w_ n a0 a1 a2 a3 a4 a5) (Q76.l0 N' out r_ p_ from_ w_ n' a0 a1 a2 a3 a4 a5))
 | 0, _, _ => fun _ _ _ _ _ _ => Le.of_none rfl
 | n + 1, 0, h => absurd h (by omega)
 | n + 1, n' + 1, h => by
  have ih := Q76.l_m hN out r_ p_ from_ w_ n n' (by omega)
  have g0 : ∀ a0 a1 a2 a3 a4 a5, Le (Q76.l0 N out r_ p_ from_ w_ (n + 1) a0 a1 a2 a3 a4 a5) (Q76.l0 N' out r_ p_ from_ w_ (n' + 1) a0 a1 a2 a3 a4 a5) := fun a0 a1 a2 a3 a4 a5 => by rw [Q76.l0_s, Q76.l0_s]; exact Q76.s0_m hN out r_ p_ from_ w_ (ih) a0 a1 a2 a3 a4 a5
  exact g0
theorem Q76_m {N N' : Nat} (hN : N ≤ N') (out : (List MvT)) (r_ : RulesT) (p_ : PosT) (from_ : Int) (w_ : WayT) : Le (Q76 N out r_ p_ from_ w_) (Q76 N' out r_ p_ from_ w_) := Q76.e_m hN (fun a0 a1 a2 a3 a4 a5 => (Q76.l_m hN out r_ p_ from_ w_ N N' hN) a0 a1 a2 a3 a4 a5) out r_ p_ from_ w_
theorem Q74.e_m {N N' : Nat} (hN : N ≤ N') {r0 r0' : Int → Option Bool} (h0 : ∀ a0, Le (r0 a0) (r0' a0)) (r_ : RulesT) (p_ : PosT) (s_ : Int) : Le (Q74.e N r0 r_ p_ s_) (Q74.e N' r0' r_ p_ s_) := by unfold Q74.e; with_reducible (repeat' first | refine Le.chk ?_ | refine Le.bif ?_ ?_ | refine Le.bnd ?_ (fun _ => ?_) | apply h0 | exact Le.refl _ | dsimp only)
theorem Q74.s0_m {N N' : Nat} (hN : N ≤ N') (r_ : RulesT) (p_ : PosT) (s_ : Int) {r0 r0' : Int → Option Bool} (h0 : ∀ a0, Le (r0 a0) (r0' a0)) (low : Int) : Le (Q74.s0 N r_ p_ s_ r0 low) (Q74.s0 N' r_ p_ s_ r0' low) := by unfold Q74.s0; with_reducible (repeat' first | refine Le.chk ?_ | refine Le.bif ?_ ?_ | refine Le.bnd ?_ (fun _ => ?_) | apply h0 | exact Le.refl _ | dsimp only)
theorem Q74.l_m {N N' : Nat} (hN : N ≤ N') (r_ : RulesT) (p_ : PosT) (s_ : Int) : ∀ n n' : Nat, n ≤ n' → (∀ a0, Le (Q74.l0 N r_ p_ s_ n a0) (Q74.l0 N' r_ p_ s_ n' a0))
 | 0, _, _ => fun _ => Le.of_none rfl
 | n + 1, 0, h => absurd h (by omega)
 | n + 1, n' + 1, h => by
  have ih := Q74.l_m hN r_ p_ s_ n n' (by omega)
  have g0 : ∀ a0, Le (Q74.l0 N r_ p_ s_ (n + 1) a0) (Q74.l0 N' r_ p_ s_ (n' + 1) a0) := fun a0 => by rw [Q74.l0_s, Q74.l0_s]; exact Q74.s0_m hN r_ p_ s_ (ih) a0
  exact g0
theorem Q74_m {N N' : Nat} (hN : N ≤ N') (r_ : RulesT) (p_ : PosT) (s_ : Int) : Le (Q74 N r_ p_ s_) (Q74 N' r_ p_ s_) := Q74.e_m hN (fun a0 => (Q74.l_m hN r_ p_ s_ N N' hN) a0) r_ p_ s_
theorem Q50.e_m {N N' : Nat} (hN : N ≤ N') {r0 r0' : (List Int) → Int → Int → (List MvT) → Option (List MvT)} (h0 : ∀ a0 a1 a2 a3, Le (r0 a0 a1 a2 a3) (r0' a0 a1 a2 a3)) {r1 r1' : Int → Int → (List Int) → Int → Int → Int → (List MvT) → Option (List MvT)} (h1 : ∀ a0 a1 a2 a3 a4 a5 a6, Le (r1 a0 a1 a2 a3 a4 a5 a6) (r1' a0 a1 a2 a3 a4 a5 a6)) {r2 r2' : Int → (List MvT) → Option (List MvT)} (h2 : ∀ a0 a1, Le (r2 a0 a1) (r2' a0 a1)) {r3 r3' : Int → Int → (List WayT) → Int → Int → (List MvT) → Option (List MvT)} (h3 : ∀ a0 a1 a2 a3 a4 a5, Le (r3 a0 a1 a2 a3 a4 a5) (r3' a0 a1 a2 a3 a4 a5)) (r_ : RulesT) (p_ : PosT) : Le (Q50.e N r0 r1 r2 r3 r_ p_) (Q50.e N' r0' r1' r2' r3' r_ p_) := by unfold Q50.e; with_reducible (repeat' first | refine Le.chk ?_ | refine Le.bif ?_ ?_ | refine Le.bnd ?_ (fun _ => ?_) | apply h0 | apply h1 | apply h2 | apply h3 | apply Q74_m hN | apply Q75_m hN | apply Q55_m hN | apply Q77_m hN | apply Q79_m hN | apply Q76_m hN | exact Le.refl _ | dsimp only)
theorem Q50.s0_m {N N' : Nat} (hN : N ≤ N') (r_ : RulesT) (p_ : PosT) {r0 r0' : (List Int) → Int → Int → (List MvT) → Option (List MvT)} (h0 : ∀ a0 a1 a2 a3, Le (r0 a0 a1 a2 a3) (r0' a0 a1 a2 a3)) {r1 r1' : Int → Int → (List Int) → Int → Int → Int → (List MvT) → Option (List MvT)} (h1 : ∀ a0 a1 a2 a3 a4 a5 a6, Le (r1 a0 a1 a2 a3 a4 a5 a6) (r1' a0 a1 a2 a3 a4 a5 a6)) {r2 r2' : Int → (List MvT) → Option (List MvT)} (h2 : ∀ a0 a1, Le (r2 a0 a1) (r2' a0 a1)) {r3 r3' : Int → Int → (List WayT) → Int → Int → (List MvT) → Option (List MvT)} (h3 : ∀ a0 a1 a2 a3 a4 a5, Le (r3 a0 a1 a2 a3 a4 a5) (r3' a0 a1 a2 a3 a4 a5)) (t17_ : (List Int)) (t18_ : Int) (t19_ : Int) (out : (List MvT)) : Le (Q50.s0 N r_ p_ r0 r1 r2 r3 t17_ t18_ t19_ out) (Q50.s0 N' r_ p_ r0' r1' r2' r3' t17_ t18_ t19_ out) := by unfold Q50.s0; with_reducible (repeat' first | refine Le.chk ?_ | refine Le.bif ?_ ?_ | refine Le.bnd ?_ (fun _ => ?_) | apply h0 | apply h1 | apply h2 | apply h3 | apply Q74_m hN | apply Q75_m hN | apply Q55_m hN | apply Q77_m hN | apply Q79_m hN | apply Q76_m hN | exact Le.refl _ | dsimp only)
theorem Q50.s1_m {N N' : Nat} (hN : N ≤ N') (r_ : RulesT) (p_ : PosT) {r0 r0' : (List Int) → Int → Int → (List MvT) → Option (List MvT)} (h0 : ∀ a0 a1 a2 a3, Le (r0 a0 a1 a2 a3) (r0' a0 a1 a2 a3)) {r1 r1' : Int → Int → (List Int) → Int → Int → Int → (List MvT) → Option (List MvT)} (h1 : ∀ a0 a1 a2 a3 a4 a5 a6, Le (r1 a0 a1 a2 a3 a4 a5 a6) (r1' a0 a1 a2 a3 a4 a5 a6)) {r2 r2' : Int → (List MvT) → Option (List MvT)} (h2 : ∀ a0 a1, Le (r2 a0 a1) (r2' a0 a1)) {r3 r3' : Int → Int → (List WayT) → Int → Int → (List MvT) → Option (List MvT)} (h3 : ∀ a0 a1 a2 a3 a4 a5, Le (r3 a0 a1 a2 a3 a4 a5) (r3' a0 a1 a2 a3 a4 a5)) (t_ : Int) (n_ : Int) (t17_ : (List Int)) (t18_ : Int) (t19_ : Int) (t27_ : Int) (out : (List MvT)) : Le (Q50.s1 N r_ p_ r0 r1 r2 r3 t_ n_ t17_ t18_ t19_ t27_ out) (Q50.s1 N' r_ p_ r0' r1' r2' r3' t_ n_ t17_ t18_ t19_ t27_ out) := by unfold Q50.s1; with_reducible (repeat' first | refine Le.chk ?_ | refine Le.bif ?_ ?_ | refine Le.bnd ?_ (fun _ => ?_) | apply h0 | apply h1 | apply h2 | apply h3 | apply Q74_m hN | apply Q75_m hN | apply Q55_m hN | apply Q77_m hN | apply Q79_m hN | apply Q76_m hN | exact Le.refl _ | dsimp only)
theorem Q50.s2_m {N N' : Nat} (hN : N ≤ N') (r_ : RulesT) (p_ : PosT) {r0 r0' : (List Int) → Int → Int → (List MvT) → Option (List MvT)} (h0 : ∀ a0 a1 a2 a3, Le (r0 a0 a1 a2 a3) (r0' a0 a1 a2 a3)) {r1 r1' : Int → Int → (List Int) → Int → Int → Int → (List MvT) → Option (List MvT)} (h1 : ∀ a0 a1 a2 a3 a4 a5 a6, Le (r1 a0 a1 a2 a3 a4 a5 a6) (r1' a0 a1 a2 a3 a4 a5 a6)) {r2 r2' : Int → (List MvT) → Option (List MvT)} (h2 : ∀ a0 a1, Le (r2 a0 a1) (r2' a0 a1)) {r3 r3' : Int → Int → (List WayT) → Int → Int → (List MvT) → Option (List MvT)} (h3 : ∀ a0 a1 a2 a3 a4 a5, Le (r3 a0 a1 a2 a3 a4 a5) (r3' a0 a1 a2 a3 a4 a5)) (t49_ : Int) (out : (List MvT)) : Le (Q50.s2 N r_ p_ r0 r1 r2 r3 t49_ out) (Q50.s2 N' r_ p_ r0' r1' r2' r3' t49_ out) := by unfold Q50.s2; with_reducible (repeat' first | refine Le.chk ?_ | refine Le.bif ?_ ?_ | refine Le.bnd ?_ (fun _ => ?_) | apply h0 | apply h1 | apply h2 | apply h3 | apply Q74_m hN | apply Q75_m hN | apply Q55_m hN | apply Q77_m hN | apply Q79_m hN | apply Q76_m hN | exact Le.refl _ | dsimp only)
theorem Q50.s3_m {N N' : Nat} (hN : N ≤ N') (r_ : RulesT) (p_ : PosT) {r0 r0' : (List Int) → Int → Int → (List MvT) → Option (List MvT)} (h0 : ∀ a0 a1 a2 a3, Le (r0 a0 a1 a2 a3) (r0' a0 a1 a2 a3)) {r1 r1' : Int → Int → (List Int) → Int → Int → Int → (List MvT) → Option (List MvT)} (h1 : ∀ a0 a1 a2 a3 a4 a5 a6, Le (r1 a0 a1 a2 a3 a4 a5 a6) (r1' a0 a1 a2 a3 a4 a5 a6)) {r2 r2' : Int → (List MvT) → Option (List MvT)} (h2 : ∀ a0 a1, Le (r2 a0 a1) (r2' a0 a1)) {r3 r3' : Int → Int → (List WayT) → Int → Int → (List MvT) → Option (List MvT)} (h3 : ∀ a0 a1 a2 a3 a4 a5, Le (r3 a0 a1 a2 a3 a4 a5) (r3' a0 a1 a2 a3 a4 a5)) (s_ : Int) (t49_ : Int) (t65_ : (List WayT)) (t66_ : Int) (t67_ : Int) (out : (List MvT)) : Le (Q50.s3 N r_ p_ r0 r1 r2 r3 s_ t49_ t65_ t66_ t67_ out) (Q50.s3 N' r_ p_ r0' r1' r2' r3' s_ t49_ t65_ t66_ t67_ out) := by unfold Q50.s3; with_reducible (repeat' first | refine Le.chk ?_ | refine Le.bif ?_ ?_ | refine Le.bnd ?_ (fun _ => ?_) | apply h0 | apply h1 | apply h2 | apply h3 | apply Q74_m hN | apply Q75_m hN | apply Q55_m hN | apply Q77_m hN | apply Q79_m hN | apply Q76_m hN | exact Le.refl _ | dsimp only)
theorem Q50.l_m {N N' : Nat} (hN : N ≤ N') (r_ : RulesT) (p_ : PosT) : ∀ n n' : Nat, n ≤ n' → (∀ a0 a1 a2 a3, Le (Q50.l0 N r_ p_ n a0 a1 a2 a3) (Q50.l0 N' r_ p_ n' a0 a1 a2 a3)) ∧ (∀ a0 a1 a2 a3 a4 a5 a6, Le (Q50.l1 N r_ p_ n a0 a1 a2 a3 a4 a5 a6) (Q50.l1 N' r_ p_ n' a0 a1 a2 a3 a4 a5 a6)) ∧ (∀ a0 a1, Le (Q50.l2 N r_ p_ n a0 a1) (Q50.l2 N' r_ p_ n' a0 a1)) ∧ (∀ a0 a1 a2 a3 a4 a5, Le (Q50.l3 N r_ p_ n a0 a1 a2 a3 a4 a5) (Q50.l3 N' r_ p_ n' a0 a1 a2 a3 a4 a5))
 | 0, _, _ => ⟨fun _ _ _ _ => Le.of_none rfl, fun _ _ _ _ _ _ _ => Le.of_none rfl, fun _ _ => Le.of_none rfl, fun _ _ _ _ _ _ => Le.of_none rfl⟩
 | n + 1, 0, h => absurd h (by omega)
 | n + 1, n' + 1, h => by
  have ih := Q50.l_m hN r_ p_ n n' (by omega)
  have g0 : ∀ a0 a1 a2 a3, Le (Q50.l0 N r_ p_ (n + 1) a0 a1 a2 a3) (Q50.l0 N' r_ p_ (n' + 1) a0 a1 a2 a3) := fun a0 a1 a2 a3 => by rw [Q50.l0_s, Q50.l0_s]; exact Q50.s0_m hN r_ p_ (ih.1) (ih.2.1) (ih.2.2.1) (ih.2.2.2) a0 a1 a2 a3
  have g1 : ∀ a0 a1 a2 a3 a4 a5 a6, Le (Q50.l1 N r_ p_ (n + 1) a0 a1 a2 a3 a4 a5 a6) (Q50.l1 N' r_ p_ (n' + 1) a0 a1 a2 a3 a4 a5 a6) := fun a0 a1 a2 a3 a4 a5 a6 => by rw [Q50.l1_s, Q50.l1_s]; exact Q50.s1_m hN r_ p_ (ih.1) (ih.2.1) (ih.2.2.1) (ih.2.2.2) a0 a1 a2 a3 a4 a5 a6
  have g2 : ∀ a0 a1, Le (Q50.l2 N r_ p_ (n + 1) a0 a1) (Q50.l2 N' r_ p_ (n' + 1) a0 a1) := fun a0 a1 => by rw [Q50.l2_s, Q50.l2_s]; exact Q50.s2_m hN r_ p_ (ih.1) (ih.2.1) (ih.2.2.1) (ih.2.2.2) a0 a1
  have g3 : ∀ a0 a1 a2 a3 a4 a5, Le (Q50.l3 N r_ p_ (n + 1) a0 a1 a2 a3 a4 a5) (Q50.l3 N' r_ p_ (n' + 1) a0 a1 a2 a3 a4 a5) := fun a0 a1 a2 a3 a4 a5 => by rw [Q50.l3_s, Q50.l3_s]; exact Q50.s3_m hN r_ p_ (ih.1) (ih.2.1) (ih.2.2.1) (ih.2.2.2) a0 a1 a2 a3 a4 a5
  exact ⟨g0, g1, g2, g3⟩
theorem Q50_m {N N' : Nat} (hN : N ≤ N') (r_ : RulesT) (p_ : PosT) : Le (Q50 N r_ p_) (Q50 N' r_ p_) := Q50.e_m hN (fun a0 a1 a2 a3 => (Q50.l_m hN r_ p_ N N' hN).1 a0 a1 a2 a3) (fun a0 a1 a2 a3 a4 a5 a6 => (Q50.l_m hN r_ p_ N N' hN).2.1 a0 a1 a2 a3 a4 a5 a6) (fun a0 a1 => (Q50.l_m hN r_ p_ N N' hN).2.2.1 a0 a1) (fun a0 a1 a2 a3 a4 a5 => (Q50.l_m hN r_ p_ N N' hN).2.2.2 a0 a1 a2 a3 a4 a5) r_ p_
end Go.Proofs.Ytnddjmhpofhfjaa.Am
set_option linter.unusedVariables false
set_option linter.unusedSimpArgs false
set_option linter.unusedSectionVars false
namespace Go.Proofs.Ytnddjmhpofhfjaa.Am
open Go
theorem gen_same {r : RulesT} {p : PosT} (hr : ROk r) (hp : POk r p) {N : Nat} (hN : 200000000 ≤ N) : Q50 N r p = Q50 200000000 r p := by
 obtain ⟨l, hl, _⟩ := gen_ret hr hp (N := 200000000) (Nat.le_refl _)
 rw [hl, Q50_m hN r p l hl]
def mvP (r : RulesT) (p : PosT) : List MvT := if resV r p = 0 then (Q50 200000000 r p).getD [] else []
theorem mvP_spec {r : RulesT} {p : PosT} (hr : ROk r) (hp : POk r p) : (mvP r p).length ≤ 8192 ∧ ∀ m ∈ mvP r p, MoveOk r p m ∧ m ∈ cand r p := by
 unfold mvP
 split
 ·obtain ⟨l, hl, hg⟩ := gen_ret hr hp (N := 200000000) (Nat.le_refl _)
  rw [hl]
  exact ⟨hg.len, fun m hm => ⟨cand_ok hr hp ((hg.mem m).1 hm), (hg.mem m).1 hm⟩⟩
 ·exact ⟨by simp, fun m hm => by cases hm⟩
theorem bmoves_mvP {N : Nat} (hN : 200000000 ≤ N) {b : BoardT} (hb : BOk b) : Q24 N b = some (mvP b.1 b.2.1) := by
 unfold Q24 Q24.e mvP
 rw [bresult_eq hN hb, ob]
 by_cases h : resV b.1 b.2.1 = 0
 ·obtain ⟨l, hl, hg⟩ := gen_ret hb.r hb.p (N := 200000000) (Nat.le_refl _)
  rw [bif_f (by rw [eqI_t h]; rfl), if_pos h, gen_same hb.r hb.p hN, hl]
  rfl
 ·rw [bif_t (by rw [eqI_f h]; rfl), if_neg h]
def sumL (f : MvT → Int) : List MvT → Int
 | [] => 0
 | a :: l => f a + sumL f l
theorem sumL_nn (f : MvT → Int) : ∀ (l : List MvT), (∀ m ∈ l, 0 ≤ f m) → 0 ≤ sumL f l
 | [], _ => Int.le_refl _
 | a :: l, h => by
  have h1 := h a (List.mem_cons_self ..)
  have h2 := sumL_nn f l fun m hm => h m (List.mem_cons_of_mem _ hm)
  show 0 ≤ f a + sumL f l
  omega
theorem sumL_le {f g : MvT → Int} : ∀ (l : List MvT), (∀ m ∈ l, f m ≤ g m) → sumL f l ≤ sumL g l
 | [], _ => Int.le_refl _
 | a :: l, h => by
  have h1 := h a (List.mem_cons_self ..)
  have h2 := sumL_le l fun m hm => h m (List.mem_cons_of_mem _ hm)
  show f a + sumL f l ≤ g a + sumL g l
  omega
theorem sumL_mem {f : MvT → Int} : ∀ (l : List MvT), (∀ m ∈ l, 0 ≤ f m) → ∀ m ∈ l, f m ≤ sumL f l
 | a :: l, h, m, hm => by
  have h1 := h a (List.mem_cons_self ..)
  have h2 := sumL_nn f l fun m hm => h m (List.mem_cons_of_mem _ hm)
  show f m ≤ f a + sumL f l
  rcases List.mem_cons.1 hm with rfl | hm
  ·omega
  ·have := sumL_mem l (fun m hm => h m (List.mem_cons_of_mem _ hm)) m hm
   omega
def leaves (r : RulesT) : Nat → PosT → Int
 | 0, _ => 1
 | d + 1, p => sumL (fun m => leaves r d (doI r p m)) (mvP r p)
def sizeP (r : RulesT) : Nat → PosT → Int
 | 0, _ => 1
 | d + 1, p => 1 + sumL (fun m => sizeP r d (doI r p m)) (mvP r p)
theorem sizeP_pos (r : RulesT) : ∀ (d : Nat) (p : PosT), 1 ≤ sizeP r d p
 | 0, _ => Int.le_refl _
 | d + 1, p => by
  have := sumL_nn (fun m => sizeP r d (doI r p m)) (mvP r p) fun m _ => by
   have := sizeP_pos r d (doI r p m)
   omega
  show 1 ≤ 1 + _
  omega
theorem leaves_le (r : RulesT) : ∀ (d : Nat) (p : PosT), 0 ≤ leaves r d p ∧ leaves r d p ≤ sizeP r d p
 | 0, _ => ⟨by show (0 : Int) ≤ 1; omega, Int.le_refl _⟩
 | d + 1, p => by
  have h1 := sumL_nn (fun m => leaves r d (doI r p m)) (mvP r p) fun m _ => (leaves_le r d (doI r p m)).1
  have h2 := sumL_le (f := fun m => leaves r d (doI r p m)) (g := fun m => sizeP r d (doI r p m)) (mvP r p) fun m _ => (leaves_le r d (doI r p m)).2
  exact ⟨h1, by show _ ≤ 1 + _; exact Int.le_trans h2 (by omega)⟩
abbrev CX (d : Nat) (b : BoardT) (c : Int) (z : Int × Int × BoardT) : Prop := z.2.2 = b ∧ ((sizeP b.1 d b.2.1 ≤ c ∧ z.1 = leaves b.1 d b.2.1 ∧ z.2.1 = c - sizeP b.1 d b.2.1) ∨ (c < sizeP b.1 d b.2.1 ∧ z.2.1 < 0))
theorem cx_l0 {N : Nat} (self : Int → BoardT → Int → Option (Int × Int × BoardT)) (c0 : Int) (b0 : BoardT) (d : Nat) (hd : d ≤ 20) {b : BoardT} (hb : BOk b) (hl : b.2.2.2.length ≤ 100000) (ms : List MvT) (hms : ∀ m ∈ ms, MoveOk b.1 b.2.1 m) (hlen : ms.length ≤ 100000)
  (hself : ∀ m ∈ ms, ∀ c : Int, 0 ≤ c → c ≤ 50000 → Ret (self c (makeB b m) (d : Int)) (CX d (makeB b m) c)) : ∀ (k j n : Nat) (nn c : Int), j + k = ms.length → k < n → 0 ≤ c → 0 ≤ nn → nn + c ≤ 50000 →
  Ret (tl0 N self c0 b0 ((d + 1 : Nat) : Int) n nn (ms.length : Int) (j : Int) c b ms) fun z => z.2.2 = b ∧ ((sumL (fun m => sizeP b.1 d (doI b.1 b.2.1 m)) (ms.drop j) ≤ c ∧ z.1 = nn + sumL (fun m => leaves b.1 d (doI b.1 b.2.1 m)) (ms.drop j) ∧ z.2.1 = c - sumL (fun m => sizeP b.1 d (doI b.1 b.2.1 m)) (ms.drop j)) ∨ (c < sumL (fun m => sizeP b.1 d (doI b.1 b.2.1 m)) (ms.drop j) ∧ z.2.1 < 0))
 | 0, j, n, nn, c, hk, hn, h0, h1, h2 => by
  obtain ⟨n, rfl⟩ := nxt (n := n) (by omega)
  rw [tl0_s, bif_f (ltI_f (by omega)), List.drop_of_length_le (by omega)]
  exact Ret.ret ⟨rfl, Or.inl ⟨h0, by show nn = nn + 0; omega, by show c = c - 0; omega⟩⟩
 | k + 1, j, n, nn, c, hk, hn, h0, h1, h2 => by
  obtain ⟨n, rfl⟩ := nxt (n := n) (by omega)
  have hj : j < ms.length := by omega
  have hmem : ms[j] ∈ ms := List.getElem_mem _
  have hmo := hms _ hmem
  have nn1 := sumL_nn (fun m => sizeP b.1 d (doI b.1 b.2.1 m)) (ms.drop (j + 1)) fun m _ => by
   have := sizeP_pos b.1 d (doI b.1 b.2.1 m)
   omega
  have ll := leaves_le b.1 d (doI b.1 b.2.1 ms[j])
  rw [tl0_s, bif_t (ltI_t (by omega)), chk_of (idx_ok hj), gD_nat hj, make_eq hb hl hmo, ob, w64_id (x := ((d + 1 : Nat) : Int) - 1) (by omega) (by omega), show ((d + 1 : Nat) : Int) - 1 = (d : Int) by omega]
  refine Ret.bnd (hself _ hmem c h0 (by omega)) fun z hz => ?_
  rw [hz.1, undo_make hb hl hmo, ob, w64_id (x := (j : Int) + 1) (by omega) (by omega), show ((j : Int) + 1) = ((j + 1 : Nat) : Int) by omega, List.drop_eq_getElem_cons hj]
  have e1 : sumL (fun m => sizeP b.1 d (doI b.1 b.2.1 m)) (ms[j] :: ms.drop (j + 1)) = sizeP b.1 d (doI b.1 b.2.1 ms[j]) + sumL (fun m => sizeP b.1 d (doI b.1 b.2.1 m)) (ms.drop (j + 1)) := rfl
  have e2 : sumL (fun m => leaves b.1 d (doI b.1 b.2.1 m)) (ms[j] :: ms.drop (j + 1)) = leaves b.1 d (doI b.1 b.2.1 ms[j]) + sumL (fun m => leaves b.1 d (doI b.1 b.2.1 m)) (ms.drop (j + 1)) := rfl
  rw [e1, e2]
  have hz2 : (sizeP b.1 d (doI b.1 b.2.1 ms[j]) ≤ c ∧ z.1 = leaves b.1 d (doI b.1 b.2.1 ms[j]) ∧ z.2.1 = c - sizeP b.1 d (doI b.1 b.2.1 ms[j])) ∨ (c < sizeP b.1 d (doI b.1 b.2.1 ms[j]) ∧ z.2.1 < 0) := hz.2
  refine Ret.bif (fun c' => Ret.ret ⟨rfl, Or.inr ?_⟩) (fun c' => ?_)
  ·rw [ltI_iff] at c'
   exact ⟨by omega, c'⟩
  ·rw [ltI_iff'] at c'
   rcases hz2 with h | h
   ·have ih := cx_l0 (N := N) self c0 b0 d hd hb hl ms hms hlen hself k (j + 1) n (nn + z.1) z.2.1 (by omega) (by omega) c' (by omega) (by omega)
    rw [w64_id (x := nn + z.1) (by omega) (by omega)]
    exact ih.mono fun y hy => ⟨hy.1, by
     rcases hy.2 with g | g
     ·exact Or.inl ⟨by omega, by omega, by omega⟩
     ·exact Or.inr ⟨by omega, g.2⟩⟩
   ·omega
theorem count_x : ∀ (d N : Nat), 200000000 + d < N → d ≤ 20 → ∀ {b : BoardT}, BOk b → b.2.2.2.length + d ≤ 100000 → ∀ c : Int, 0 ≤ c → c ≤ 50000 → Ret (Q52 N c b (d : Int)) (CX d b c)
 | d, N, hN, hd, b, hb, hl, c, h0, h1 => by
  obtain ⟨N, rfl⟩ := nxt (n := N) (by omega)
  have np := sizeP_pos b.1 d b.2.1
  rw [count_e, w64_id (x := c - 1) (by omega) (by omega)]
  refine Ret.bif (fun hc => Ret.ret ⟨rfl, Or.inr ?_⟩) (fun hc => ?_)
  ·rw [ltI_iff] at hc
   exact ⟨by omega, hc⟩
  rw [ltI_iff'] at hc
  cases d with
  | zero => rw [bif_t (by rfl)]; exact Ret.ret ⟨rfl, Or.inl ⟨by show (1 : Int) ≤ c; omega, rfl, rfl⟩⟩
  | succ d =>
   rw [bif_f (eqI_f (by omega)), bmoves_mvP (by omega) hb, ob]
   have hg := mvP_spec hb.r hb.p
   have := cx_l0 (N := N) (Q52 N) c b d (by omega) hb (by omega) (mvP b.1 b.2.1) (fun m hm => (hg.2 m hm).1) (by omega) (fun m hm c' h0' h1' => by
    have hmo := (hg.2 m hm).1
    exact count_x d N (by omega) (by omega) (make_ok hb (by omega) hmo) (by
     show (b.2.2.2 ++ [undoI b m]).length + d ≤ 100000
     rw [List.length_append]
     simp only [List.length_singleton]
     omega) c' h0' h1') (mvP b.1 b.2.1).length 0 N 0 (c - 1) (by omega) (by omega) hc (by omega) (by omega)
   rw [List.drop_zero, show ((0 : Nat) : Int) = 0 from rfl] at this
   refine this.mono fun z hz => ⟨hz.1, ?_⟩
   have e1 : sizeP b.1 (d + 1) b.2.1 = 1 + sumL (fun m => sizeP b.1 d (doI b.1 b.2.1 m)) (mvP b.1 b.2.1) := rfl
   have e2 : leaves b.1 (d + 1) b.2.1 = sumL (fun m => leaves b.1 d (doI b.1 b.2.1 m)) (mvP b.1 b.2.1) := rfl
   rw [e1, e2]
   rcases hz.2 with g | g
   ·exact Or.inl ⟨by omega, by omega, by omega⟩
   ·exact Or.inr ⟨by omega, g.2⟩
section
variable {N : Nat} (hN : 200000100 ≤ N) (r : RulesT) (p : PosT) (depth : Int)
include hN
theorem pch_good (hr : ROk r) (hp : POk r p) (h1 : 0 ≤ depth) (h2 : depth ≤ 12) : Q51 N r p depth = some (some (r, (p, (U (keyS p), []))), 0) := by
 unfold Q51 Q51.e
 rw [new_good (by omega) hr hp, ob]
 show ((bif (!(eqI 0 0)) then some ((none : Option BoardT), (0 : Int)) else bif ltI depth 0 then some (none, 1) else bif ltI 12 depth then some (none, 1) else some (some (r, (p, (U (keyS p), []))), 0)) : Option (Option BoardT × Int)) = _
 rw [bif_f (by rfl), bif_f (ltI_f (by omega)), bif_f (ltI_f (by omega))]
end
section
variable {N : Nat} (hN : 200000100 ≤ N) (r : RulesT) (p : PosT) (d : Nat) (hr : ROk r) (hp : POk r p) (hd : d ≤ 12) (h : Q51 N r p (d : Int) = some (some (r, (p, (U (keyS p), []))), 0))
include hN hr hp hd h
theorem tree_good : Q25 N r p (d : Int) = if sizeP r d p ≤ 50000 then some (sizeP r d p, 0) else some (0, 17) := by
 unfold Q25 Q25.e
 rw [h, ob]
 show (bif (!(eqI 0 0)) then (some (0, 0)) else (Q52 N 50000 (r, (p, (U (keyS p), []))) (d : Int)).bind _) = _
 rw [bif_f (by rfl)]
 obtain ⟨z, hz, hz1, hz2⟩ := count_x d N (by omega) (by omega) (b := (r, (p, (U (keyS p), [])))) ⟨hr, hp, rfl⟩ (by simp; omega) 50000 (by omega) (by omega)
 rw [hz, ob]
 have np := sizeP_pos r d p
 have hz2 : (sizeP r d p ≤ 50000 ∧ z.1 = leaves r d p ∧ z.2.1 = 50000 - sizeP r d p) ∨ (50000 < sizeP r d p ∧ z.2.1 < 0) := hz2
 rcases hz2 with ⟨g1, g2, g3⟩ | ⟨g1, g2⟩
 ·rw [bif_f (ltI_f (by omega)), if_pos g1, w64_id (by omega) (by omega), show 50000 - z.2.1 = sizeP r d p by omega]
 ·rw [bif_t (ltI_t (by omega)), if_neg (by omega)]
end
end Go.Proofs.Ytnddjmhpofhfjaa.Am
set_option linter.unusedVariables false
set_option linter.unusedSimpArgs false
set_option linter.unusedSectionVars false
namespace Go.Proofs.Ytnddjmhpofhfjaa.Am
open Go
def bs0 (N : Nat) (b0 : BoardT) (depth : Int) (n : Nat) (most len j : Int) (b : BoardT) (out : MvT) (ms : List MvT) : Option (MvT × Int × BoardT) :=
 Q83.l0 N b0 depth n most len j b.1.1 b.1.2.1 b.1.2.2.1 b.1.2.2.2.2.2.1 b.1.2.2.2.2.2.2.1 b.1.2.2.2.2.2.2.2.2.1 b.1.2.2.2.2.2.2.2.2.2.1 b.1.2.2.2.2.2.2.2.2.2.2 b.2.1.2.2.1 b.2.1.2.2.2 b.2.2.1 out.1 out.2.1 out.2.2 ms b.1.2.2.2.1 b.1.2.2.2.2.1 b.1.2.2.2.2.2.2.2.1 b.2.1.1 b.2.1.2.1.1 b.2.1.2.1.2 b.2.2.2
theorem bs0_s (N : Nat) (b0 : BoardT) (depth : Int) (n : Nat) (most len j : Int) (b : BoardT) (out : MvT) (ms : List MvT) : bs0 N b0 depth (n + 1) most len j b out ms =
  bif ltI j len then (chk (leI 0 j && ltI j (ms.length : Int)) <|
   (Q47 N b (gD z0 ms j)).bind fun y2 =>
   (Q30 N y2 (w64 (depth - 1))).bind fun y3 =>
   (Q58 N (w64 (0 - y3.1))).bind fun y4 =>
   (Q48 N y3.2).bind fun y5 =>
   bif (ltI most y4) then (bs0 N b0 depth n y4 len (w64 (j + 1)) y5.2 (gD z0 ms j) ms)
   else bs0 N b0 depth n most len (w64 (j + 1)) y5.2 out ms)
  else some (out, (most, b)) := rfl
theorem bestx_l0 {N : Nat} (hN : 200000100 ≤ N) (b0 : BoardT) (d : Nat) (hd : d ≤ 19) {b : BoardT} (hb : BOk b) (hl : b.2.2.2.length ≤ 1000) (ms : List MvT) (hms : ∀ m ∈ ms, MoveOk b.1 b.2.1 m) (hlen : ms.length ≤ 100000) :
  ∀ (k j n : Nat) (most : Int) (out : MvT), j + k = ms.length → k < n → ((0 < k ∧ most = -1001) ∨ (out ∈ ms ∧ most = near (-(val b.1 d (doI b.1 b.2.1 out))))) →
  Ret (bs0 N b0 ((d + 1 : Nat) : Int) n most (ms.length : Int) (j : Int) b out ms) fun z => z.1 ∈ ms ∧ z.2.1 = near (-(val b.1 d (doI b.1 b.2.1 z.1))) ∧ z.2.1 = foldMax most ((ms.drop j).map fun m => near (-(val b.1 d (doI b.1 b.2.1 m))))
 | 0, j, n, most, out, hk, hn, hm => by
  obtain ⟨n, rfl⟩ := nxt (n := n) (by omega)
  rw [bs0_s, bif_f (ltI_f (by omega)), List.drop_of_length_le (by omega)]
  rcases hm with ⟨h, _⟩ | h
  ·omega
  ·exact Ret.ret ⟨h.1, h.2, rfl⟩
 | k + 1, j, n, most, out, hk, hn, hm => by
  obtain ⟨n, rfl⟩ := nxt (n := n) (by omega)
  have hj : j < ms.length := by omega
  have hmem : ms[j] ∈ ms := List.getElem_mem _
  have hmo := hms _ hmem
  have hv := val_bound hb.r d (by omega) (do_ok hb.r hb.p hmo)
  have hself := value_ok d N (by omega) (by omega) (make_ok hb (by omega) hmo) (by
   show (b.2.2.2 ++ [undoI b ms[j]]).length + d ≤ 100000
   rw [List.length_append]
   simp only [List.length_singleton]
   omega)
  rw [show val (makeB b ms[j]).1 d (makeB b ms[j]).2.1 = val b.1 d (doI b.1 b.2.1 ms[j]) from rfl] at hself
  rw [bs0_s, bif_t (ltI_t (by omega)), chk_of (idx_ok hj), gD_nat hj, make_eq hb (by omega) hmo, ob, w64_id (x := ((d + 1 : Nat) : Int) - 1) (by omega) (by omega), show ((d + 1 : Nat) : Int) - 1 = (d : Int) by omega, hself, ob]
  dsimp only
  rw [w64_id (x := 0 - val b.1 d (doI b.1 b.2.1 ms[j])) (by omega) (by omega), nearer_eq N (by omega), ob, undo_make hb (by omega) hmo, ob, w64_id (by omega) (by omega), show ((j : Int) + 1) = ((j + 1 : Nat) : Int) by omega, show 0 - val b.1 d (doI b.1 b.2.1 ms[j]) = -(val b.1 d (doI b.1 b.2.1 ms[j])) by omega, List.drop_eq_getElem_cons hj]
  have hnc := near_cases (-(val b.1 d (doI b.1 b.2.1 ms[j])))
  have e : foldMax most ((ms[j] :: ms.drop (j + 1)).map fun m => near (-(val b.1 d (doI b.1 b.2.1 m)))) = foldMax (mx most (near (-(val b.1 d (doI b.1 b.2.1 ms[j]))))) ((ms.drop (j + 1)).map fun m => near (-(val b.1 d (doI b.1 b.2.1 m)))) := rfl
  rw [e]
  have hmx := mx_eq most (near (-(val b.1 d (doI b.1 b.2.1 ms[j]))))
  refine Ret.bif (fun c => ?_) (fun c => ?_)
  ·rw [ltI_iff] at c
   rw [show mx most (near (-(val b.1 d (doI b.1 b.2.1 ms[j])))) = near (-(val b.1 d (doI b.1 b.2.1 ms[j]))) by omega]
   exact bestx_l0 hN b0 d hd hb hl ms hms hlen k (j + 1) n _ _ (by omega) (by omega) (Or.inr ⟨hmem, rfl⟩)
  ·rw [ltI_iff'] at c
   rw [show mx most (near (-(val b.1 d (doI b.1 b.2.1 ms[j])))) = most by omega]
   refine bestx_l0 hN b0 d hd hb hl ms hms hlen k (j + 1) n _ _ (by omega) (by omega) (Or.inr ?_)
   rcases hm with ⟨_, h⟩ | h
   ·omega
   ·exact h
theorem bestx_ok {N : Nat} (hN : 200000100 ≤ N) (d : Nat) (hd : d ≤ 19) {b : BoardT} (hb : BOk b) (hl : b.2.2.2.length ≤ 1000) (h : resV b.1 b.2.1 = 0) :
  Ret (Q83 N b ((d + 1 : Nat) : Int)) fun z => z.1 ∈ cand b.1 b.2.1 ∧ z.2.1 = near (-(val b.1 d (doI b.1 b.2.1 z.1))) ∧ z.2.1 = val b.1 (d + 1) b.2.1 := by
 obtain ⟨l, hl1, _, hl2⟩ := bmoves_ret (N := N) (by omega) hb
 have hg := hl2 h
 have hgl := hg.len
 obtain ⟨m0, hm0⟩ : ∃ m, m ∈ cand b.1 b.2.1 := by
  cases hc : cand b.1 b.2.1 with
  | nil => exact absurd hc (cand_ne hb.r hb.p h)
  | cons m c => exact ⟨m, List.mem_cons_self ..⟩
 have hm1 := (hg.mem m0).2 hm0
 have hne : 0 < l.length := List.length_pos_of_mem hm1
 unfold Q83 Q83.e
 rw [hl1, ob]
 have := bestx_l0 hN b d hd hb hl l (fun m hm => cand_ok hb.r hb.p ((hg.mem m).1 hm)) (by omega) l.length 0 N (-1001) dM (by omega) (by omega) (Or.inl ⟨hne, rfl⟩)
 refine Ret.mono this fun z hz => ⟨(hg.mem _).1 hz.1, hz.2.1, ?_⟩
 have hz3 : z.2.1 = foldMax (-1001) ((l.drop 0).map fun m => near (-(val b.1 d (doI b.1 b.2.1 m)))) := hz.2.2
 rw [List.drop_zero] at hz3
 have fe : foldMax (-1001) (l.map fun m => near (-(val b.1 d (doI b.1 b.2.1 m)))) = foldMax (-1001) ((cand b.1 b.2.1).map fun m => near (-(val b.1 d (doI b.1 b.2.1 m)))) := by
  apply foldMax_ext
  intro x
  simp only [List.mem_map]
  constructor
  ·rintro ⟨m, hm, rfl⟩; exact ⟨m, (hg.mem m).1 hm, rfl⟩
  ·rintro ⟨m, hm, rfl⟩; exact ⟨m, (hg.mem m).2 hm, rfl⟩
 rw [hz3, fe, val_open hb.r h]
 have f1 := foldMax_spec ((cand b.1 b.2.1).map fun m => near (-(val b.1 d (doI b.1 b.2.1 m)))) (-1001)
 have f2 := foldMax_spec ((cand b.1 b.2.1).map fun m => near (-(val b.1 d (doI b.1 b.2.1 m)))) (-1000)
 have bnd := val_bound hb.r d (by omega) (do_ok hb.r hb.p (cand_ok hb.r hb.p hm0))
 have nb := near_cases (-(val b.1 d (doI b.1 b.2.1 m0)))
 have u1 := f1.2.1 _ (List.mem_map.2 ⟨m0, hm0, rfl⟩)
 have u2 := f2.2.1 _ (List.mem_map.2 ⟨m0, hm0, rfl⟩)
 apply Int.le_antisymm
 ·rcases f1.2.2 with e | e
  ·omega
  ·exact f2.2.1 _ e
 ·rcases f2.2.2 with e | e
  ·omega
  ·exact f1.2.1 _ e
theorem mcheck_size {N : Nat} (hN : 200000100 ≤ N) {r : RulesT} {p : PosT} (hr : ROk r) (hp : POk r p) {d : Nat} (hd : d ≤ 12) : Q29 N r p (d : Int) = some (if sizeP r d p ≤ 50000 then 0 else 17) := by
 unfold Q29 Q29.e
 rw [tree_good hN r p d hr hp hd (pch_good hN r p (d : Int) hr hp (by omega) (by omega))]
 by_cases h : sizeP r d p ≤ 50000
 ·rw [if_pos h, if_pos h, ob]
 ·rw [if_neg h, if_neg h, ob]
theorem size_child {r : RulesT} {p : PosT} (hr : ROk r) (hp : POk r p) (h : resV r p = 0) {m : MvT} (hm : m ∈ cand r p) (d : Nat) : sizeP r d (doI r p m) < sizeP r (d + 1) p := by
 obtain ⟨l, hl, hg⟩ := gen_ret hr hp (N := 200000000) (Nat.le_refl _)
 have e : mvP r p = l := by unfold mvP; rw [if_pos h, hl]; rfl
 have := sumL_mem (f := fun m => sizeP r d (doI r p m)) (mvP r p) (fun m _ => by have := sizeP_pos r d (doI r p m); omega) m (by rw [e]; exact (hg.mem m).2 hm)
 have e2 : sizeP r (d + 1) p = 1 + sumL (fun m => sizeP r d (doI r p m)) (mvP r p) := rfl
 omega
theorem bestf_ok {N : Nat} (hN : 200000100 ≤ N) {r : RulesT} {p : PosT} (hr : ROk r) (hp : POk r p) {d : Nat} (hd : d ≤ 11) (hs : sizeP r (d + 1) p ≤ 50000) (h : resV r p = 0) :
  Ret (Q62 N r p ((d + 1 : Nat) : Int)) fun z => z.1 ∈ cand r p ∧ near (-(val r d (doI r p z.1))) = val r (d + 1) p := by
 have hbk : BOk (r, (p, (U (keyS p), []))) := ⟨hr, hp, rfl⟩
 unfold Q62 Q62.e
 rw [mcheck_size hN hr hp (d := d + 1) (by omega), if_pos hs, ob, bif_f (by rfl), new_good (by omega) hr hp, ob]
 show Ret (bif (eqI ((d + 1 : Nat) : Int) 0) then some (((0, (0, 0)), (0, 1)) : (Int × Int × Int) × Int × Int) else (Q22 N (r, (p, (U (keyS p), [])))).bind fun y4 => _) _
 rw [bif_f (eqI_f (by omega)), bresult_eq (by omega) hbk, ob]
 show Ret (bif (!(eqI (resV r p) 0)) then _ else _) _
 rw [bif_f (by rw [eqI_t h]; rfl)]
 refine Ret.bnd (bestx_ok (N := N) hN d (by omega) hbk (by simp) h) fun z hz => ?_
 exact Ret.ret ⟨hz.1, by rw [← hz.2.1]; exact hz.2.2⟩
abbrev NodeT := MvT × List Int
abbrev zN : NodeT := (dM, ([] : List Int))
abbrev ChT := RulesT × (List NodeT × Int)
theorem gen_mvP {N : Nat} (hN : 200000000 ≤ N) {r : RulesT} {p : PosT} (hr : ROk r) (hp : POk r p) (h : resV r p = 0) : Q50 N r p = some (mvP r p) ∧ (∀ m, m ∈ mvP r p ↔ m ∈ cand r p) ∧ (mvP r p).length ≤ 8192 := by
 obtain ⟨l, hl, hg⟩ := gen_ret hr hp (N := 200000000) (Nat.le_refl _)
 have e : mvP r p = l := by unfold mvP; rw [if_pos h, hl]; rfl
 rw [gen_same hr hp hN, hl, e]
 exact ⟨rfl, hg.mem, hg.len⟩
theorem res_mvP {N : Nat} (hN : 200000000 ≤ N) {r : RulesT} {p : PosT} (hr : ROk r) (hp : POk r p) : Q34 N r p = some (resV r p) := by
 obtain ⟨g, hg, hgg⟩ := gen_ret hr hp hN
 rw [result_eq hr hp (by omega) hg, any_eq hgg]
 rfl
theorem win_step {r : RulesT} {p : PosT} (hr : ROk r) (hp : POk r p) {D : Nat} (hd : D ≤ 800) {m : MvT} (hm : m ∈ cand r p) (he : near (-(val r D (doI r p m))) = val r (D + 1) p) (hw : 0 < val r (D + 1) p) :
  (resV r (doI r p m) = 1 + p.2.2.1 ∧ val r (D + 1) p = 999) ∨ (resV r (doI r p m) = 0 ∧ ∃ D', D = D' + 1 ∧ ∀ m' ∈ cand r (doI r p m), 0 < val r D' (doI r (doI r p m) m') ∧ (resV r (doI r (doI r p m) m') = 0 ∨ (resV r (doI r (doI r p m) m') = 1 + p.2.2.1 ∧ val r D' (doI r (doI r p m) m') = 1000))) := by
 have hmo := cand_ok hr hp hm
 have hdo := do_ok hr hp hmo
 have tq : (doI r p m).2.2.1 = 1 - p.2.2.1 := rfl
 have nc := near_cases (-(val r D (doI r p m)))
 by_cases h : resV r (doI r p m) = 0
 ·refine Or.inr ⟨h, ?_⟩
  cases D with
  | zero =>
   have : val r 0 (doI r p m) = 0 := by unfold val; rw [if_neg (by simp [h])]
   omega
  | succ D' =>
   refine ⟨D', rfl, fun m' hm' => ?_⟩
   have hv := val_open hr h D'
   have f := (foldMax_spec ((cand r (doI r p m)).map fun m' => near (-(val r D' (doI r (doI r p m) m')))) (-1000)).2.1 _ (List.mem_map.2 ⟨m', hm', rfl⟩)
   rw [← hv] at f
   have nc2 := near_cases (-(val r D' (doI r (doI r p m) m')))
   refine ⟨by omega, ?_⟩
   by_cases h2 : resV r (doI r (doI r p m) m') = 0
   ·exact Or.inl h2
   ·refine Or.inr ?_
    have ho := val_over hr h2 D'
    have ts : (doI r (doI r p m) m').2.2.1 = 1 - (1 - p.2.2.1) := rfl
    rw [ts] at ho
    have sc := score_cases hr (resV r (doI r (doI r p m) m')) (1 - (1 - p.2.2.1))
    unfold scoreV at ho sc
    split at ho
    ·exact ⟨by omega, by omega⟩
    ·split at ho
     ·omega
     ·omega
 ·refine Or.inl ?_
  have ho := val_over hr h D
  rw [tq] at ho
  unfold scoreV at ho
  split at ho
  ·omega
  ·split at ho
   ·exact ⟨by omega, by omega⟩
   ·omega
def CertP (r : RulesT) (w : Int) (l : List NodeT) : Nat → Nat → PosT → Prop
 | 0, _, _ => False
 | 1, k, p => ∃ m, l[k]? = some (m, []) ∧ m ∈ cand r p ∧ near (-(val r 0 (doI r p m))) = val r 1 p
 | D + 2, k, p => ∃ m reps, l[k]? = some (m, reps) ∧ m ∈ cand r p ∧ near (-(val r (D + 1) (doI r p m))) = val r (D + 2) p ∧ ((reps = [] ∧ resV r (doI r p m) ≠ 0) ∨ (resV r (doI r p m) = 0 ∧ reps.length = (mvP r (doI r p m)).length ∧
   ∀ i : Nat, i < (mvP r (doI r p m)).length → (resV r (doI r (doI r p m) (gD z0 (mvP r (doI r p m)) (i : Int))) ≠ 0 ∧ gD 0 reps (i : Int) = -1) ∨ (resV r (doI r (doI r p m) (gD z0 (mvP r (doI r p m)) (i : Int))) = 0 ∧ ∃ c : Nat, gD 0 reps (i : Int) = (c : Int) ∧ CertP r w l D c (doI r (doI r p m) (gD z0 (mvP r (doI r p m)) (i : Int))))))
abbrev NdT := ChT → Int → PosT → Option Int
def nd0 (N : Nat) (self : NdT) (x : ChT) (k : Int) (p : PosT) (n : Nat) (legal : Bool) (len j : Int) (ms : List MvT) : Option Int := Q38.l0 N self x k p n legal len j ms
def nd1 (N : Nat) (self : NdT) (x : ChT) (k : Int) (p : PosT) (n : Nat) (most len j : Int) (q : PosT) (ms : List MvT) : Option Int := Q38.l1 N self x k p n most len j q.1 q.2.1.1 q.2.1.2 q.2.2.1 q.2.2.2 ms
def ndR (N : Nat) (self : NdT) (x : ChT) (k : Int) (p : PosT) (n : Nat) : Option Int :=
 (Q28 N x.1 p (gD zN x.2.1 k).1).bind fun y3 =>
 (Q34 N x.1 y3).bind fun y4 =>
 bif (!(eqI y4 0)) then (bif (ltI 0 ((gD zN x.2.1 k).2.length : Int)) then some 0
  else bif (!(eqI y4 x.2.2)) then some 0
  else some 1)
 else (Q50 N x.1 y3).bind fun y6 =>
 bif (!(eqI ((gD zN x.2.1 k).2.length : Int) (y6.length : Int))) then some 0
 else nd1 N self x k p n 0 (y6.length : Int) 0 y3 y6
theorem node_e (N : Nat) (x : ChT) (k : Int) (p : PosT) : Q38 (N + 1) x k p =
  (chk ((leI 0 k) && (ltI k (x.2.1.length : Int))) <|
  (Q50 N x.1 p).bind fun y1 => nd0 N (Q38 N) x k p N false (y1.length : Int) 0 y1) := rfl
theorem nd0_s (N : Nat) (self : NdT) (x : ChT) (k : Int) (p : PosT) (n : Nat) (legal : Bool) (len j : Int) (ms : List MvT) : nd0 N self x k p (n + 1) legal len j ms =
  bif ltI j len then (chk ((leI 0 j) && (ltI j (ms.length : Int))) <|
   bif legal then nd0 N self x k p n true len (w64 (j + 1)) ms
   else nd0 N self x k p n ((eqI (gD z0 ms j).1 (gD zN x.2.1 k).1.1) && ((eqI (gD z0 ms j).2.1 (gD zN x.2.1 k).1.2.1) && ((eqI (gD z0 ms j).2.2 (gD zN x.2.1 k).1.2.2) && true))) len (w64 (j + 1)) ms)
  else bif (!legal) then some 0
  else ndR N self x k p n := rfl
theorem nd1_s (N : Nat) (self : NdT) (x : ChT) (k : Int) (p : PosT) (n : Nat) (most len j : Int) (q : PosT) (ms : List MvT) : nd1 N self x k p (n + 1) most len j q ms =
  bif ltI j len then (chk ((leI 0 j) && (ltI j (ms.length : Int))) <|
   (Q28 N x.1 q (gD z0 ms j)).bind fun y9 =>
   (Q34 N x.1 y9).bind fun y10 =>
   chk ((leI 0 j) && (ltI j ((gD zN x.2.1 k).2.length : Int))) <|
   bif (!((!(eqI y10 0)) == (eqI (gD (0 : Int) (gD zN x.2.1 k).2 j) (-1)))) then some 0
   else bif (!(eqI y10 0)) then (bif (!(eqI y10 x.2.2)) then some 0
    else bif (eqI y10 0) then (chk ((leI 0 j) && (ltI j ((gD zN x.2.1 k).2.length : Int))) <|
     (self x (gD (0 : Int) (gD zN x.2.1 k).2 j) y9).bind fun y13 =>
     bif (eqI y13 0) then some 0
     else nd1 N self x k p n (mx most (w64 (y13 + 2))) len (w64 (j + 1)) q ms)
    else nd1 N self x k p n (mx most 2) len (w64 (j + 1)) q ms)
   else bif (eqI y10 0) then (chk ((leI 0 j) && (ltI j ((gD zN x.2.1 k).2.length : Int))) <|
    (self x (gD (0 : Int) (gD zN x.2.1 k).2 j) y9).bind fun y16 =>
    bif (eqI y16 0) then some 0
    else nd1 N self x k p n (mx most (w64 (y16 + 2))) len (w64 (j + 1)) q ms)
   else nd1 N self x k p n (mx most 2) len (w64 (j + 1)) q ms)
  else some most := rfl
theorem nd0_eq (N : Nat) (self : NdT) (x : ChT) (k : Int) (p : PosT) (ms : List MvT) (hms : ms.length ≤ 100000) (E : Option Int) (B : Nat) (hE : ∀ n, B ≤ n → ndR N self x k p n = E) : ∀ (i j n : Nat) (legal : Bool), j + i = ms.length → B + i < n →
  nd0 N self x k p n legal (ms.length : Int) (j : Int) ms = bif (legal || decide ((gD zN x.2.1 k).1 ∈ ms.drop j)) then E else some 0
 | 0, j, n, legal, hj, hn => by
  obtain ⟨n, rfl⟩ := nxt (n := n) (by omega)
  rw [nd0_s, bif_f (ltI_f (by omega)), List.drop_of_length_le (by omega)]
  cases legal with
  | true => exact hE n (by omega)
  | false => rfl
 | i + 1, j, n, legal, hj, hn => by
  obtain ⟨n, rfl⟩ := nxt (n := n) (by omega)
  have hjl : j < ms.length := by omega
  rw [nd0_s, bif_t (ltI_t (by omega)), chk_of (idx_ok hjl), w64_id (x := (j : Int) + 1) (by omega) (by omega), show ((j : Int) + 1) = ((j + 1 : Nat) : Int) by omega]
  cases legal with
  | true =>
   rw [bif_t rfl, nd0_eq N self x k p ms hms E B hE i (j + 1) n true (by omega) (by omega)]
   rfl
  | false =>
   rw [bif_f rfl, nd0_eq N self x k p ms hms E B hE i (j + 1) n _ (by omega) (by omega), gD_nat hjl, mv_eq, List.drop_eq_getElem_cons hjl]
   congr 1
   rw [Bool.false_or]
   by_cases h1 : ms[j] = (gD zN x.2.1 k).1
   ·rw [decide_eq_true h1, Bool.true_or, decide_eq_true (List.mem_cons.2 (Or.inl h1.symm))]
   ·rw [decide_eq_false h1, Bool.false_or]
    exact decide_eq_decide.2 ⟨fun h => List.mem_cons_of_mem _ h, fun h => (List.mem_cons.1 h).resolve_left fun e => h1 e.symm⟩
theorem val_open_le {r : RulesT} {p : PosT} (hr : ROk r) (hp : POk r p) (h : resV r p = 0) {D : Nat} (hd : D ≤ 800) : val r D p ≤ 999 := by
 cases D with
 | zero => unfold val; rw [if_neg (by simp [h])]; omega
 | succ D =>
  rw [val_open hr h]
  rcases (foldMax_spec ((cand r p).map fun m => near (-(val r D (doI r p m)))) (-1000)).2.2 with e | e
  ·omega
  ·obtain ⟨m, hm, hme⟩ := List.mem_map.1 e
   have := val_bound hr D (by omega) (do_ok hr hp (cand_ok hr hp hm))
   have := near_cases (-(val r D (doI r p m)))
   omega
theorem gD_getq {l : List NodeT} {k : Nat} {x : NodeT} (h : l[k]? = some x) : gD zN l (k : Int) = x ∧ k < l.length := by
 obtain ⟨h1, h2⟩ := List.getElem?_eq_some_iff.1 h
 exact ⟨by rw [gD_nat h1, h2], h1⟩
section
variable {r : RulesT} (hr : ROk r) (w : Int) (l : List NodeT)
include hr
theorem nd1_cert {N : Nat} (hN : 200000000 ≤ N) (self : NdT) (k : Int) (p q : PosT) (hq : POk r q) (hq0 : resV r q = 0) (D : Nat) (hD : D ≤ 800) (reps : List Int) (m : MvT) (hk : gD zN l k = (m, reps)) (hlen : reps.length = (mvP r q).length)
  (hall : ∀ i : Nat, i < (mvP r q).length → (resV r (doI r q (gD z0 (mvP r q) (i : Int))) ≠ 0 ∧ resV r (doI r q (gD z0 (mvP r q) (i : Int))) = w ∧ gD 0 reps (i : Int) = -1 ∧ val r D (doI r q (gD z0 (mvP r q) (i : Int))) = 1000) ∨
   (resV r (doI r q (gD z0 (mvP r q) (i : Int))) = 0 ∧ 0 ≤ gD 0 reps (i : Int) ∧ 0 < val r D (doI r q (gD z0 (mvP r q) (i : Int))) ∧ self (r, (l, w)) (gD 0 reps (i : Int)) (doI r q (gD z0 (mvP r q) (i : Int))) = some (1000 - val r D (doI r q (gD z0 (mvP r q) (i : Int)))))) :
  ∀ (i j n : Nat) (most : Int), j + i = (mvP r q).length → i < n → nd1 N self (r, (l, w)) k p n most ((mvP r q).length : Int) (j : Int) q (mvP r q) = some (foldMax most (((mvP r q).drop j).map fun m' => 1002 - val r D (doI r q m')))
 | 0, j, n, most, hj, hn => by
  obtain ⟨n, rfl⟩ := nxt (n := n) (by omega)
  rw [nd1_s, bif_f (ltI_f (by omega)), List.drop_of_length_le (by omega)]
  rfl
 | i + 1, j, n, most, hj, hn => by
  obtain ⟨n, rfl⟩ := nxt (n := n) (by omega)
  have hjl : j < (mvP r q).length := by omega
  obtain ⟨_, hmem, hml⟩ := gen_mvP hN hr hq hq0
  have hmc := (hmem _).1 (List.getElem_mem hjl)
  have hmo := cand_ok hr hq hmc
  have hdo := do_ok hr hq hmo
  have h1 := hall j hjl
  rw [gD_nat hjl] at h1
  have ih := nd1_cert hN self k p q hq hq0 D hD reps m hk hlen hall i (j + 1) n
  rw [nd1_s, bif_t (ltI_t (by omega)), chk_of (idx_ok hjl), gD_nat hjl]
  dsimp only
  rw [do_eq hr hq N hmo, ob, res_mvP hN hr hdo, ob, hk]
  dsimp only
  rw [chk_of (idx_ok (by omega)), w64_id (x := (j : Int) + 1) (by omega) (by omega), show ((j : Int) + 1) = ((j + 1 : Nat) : Int) by omega, List.drop_eq_getElem_cons hjl]
  rcases h1 with ⟨h2, h3, h4, h5⟩ | ⟨h2, h3, h4, h5⟩
  ·rw [h4, eqI_f h2, bif_f (by rfl), bif_t (by rfl), eqI_t h3, bif_f (by rfl), bif_f rfl, ih _ (by omega) (by omega)]
   show _ = some (foldMax (mx most (1002 - val r D (doI r q (mvP r q)[j]))) _)
   rw [h5]
   rfl
  ·have le := val_open_le hr hdo h2 (D := D) (by omega)
   rw [eqI_t h2, eqI_f (show gD 0 reps (j : Int) ≠ -1 by omega), bif_f (by rfl), bif_f (by rfl), bif_t rfl, chk_of (idx_ok (by omega)), h5, ob, bif_f (eqI_f (by omega)), w64_id (x := 1000 - val r D (doI r q (mvP r q)[j]) + 2) (by omega) (by omega), ih _ (by omega) (by omega)]
   show _ = some (foldMax (mx most (1002 - val r D (doI r q (mvP r q)[j]))) _)
   rw [show 1000 - val r D (doI r q (mvP r q)[j]) + 2 = 1002 - val r D (doI r q (mvP r q)[j]) by omega]
theorem node_cert (hl : l.length ≤ 5000) : ∀ (D : Nat), D ≤ 100 → ∀ (N k : Nat) (p : PosT), 200000000 + D < N → POk r p → resV r p = 0 → 0 < val r D p → w = 1 + p.2.2.1 → CertP r w l D k p → Q38 N (r, (l, w)) (k : Int) p = some (1000 - val r D p)
 | 0, _, _, _, _, _, _, _, _, _, h => by cases h
 | 1, hD, N, k, p, hN, hp, h0, hv, hw, h => by
  obtain ⟨N, rfl⟩ := nxt (n := N) (by omega)
  obtain ⟨m, hm1, hm2, hm3⟩ := h
  obtain ⟨hk, hkl⟩ := gD_getq hm1
  obtain ⟨hg1, hg2, hg3⟩ := gen_mvP (N := N) (by omega) hr hp h0
  have hmo := cand_ok hr hp hm2
  have hdo := do_ok hr hp hmo
  have ws := win_step hr hp (D := 0) (by omega) hm2 hm3 hv
  rcases ws with ⟨w1, w2⟩ | ⟨_, _, h, _⟩
  ·rw [node_e]
   dsimp only
   rw [chk_of (idx_ok hkl), hg1, ob]
   have hE : ∀ n, 0 ≤ n → ndR N (Q38 N) (r, (l, w)) (k : Int) p n = some 1 := fun n _ => by
    unfold ndR
    dsimp only
    rw [hk]
    dsimp only
    rw [do_eq hr hp N hmo, ob, res_mvP (by omega) hr hdo, ob, w1, bif_t (by have := hp.last.1; rw [eqI_f (by omega)]; rfl), bif_f (by rfl), bif_f (by rw [hw, eqI_self]; rfl)]
   have := nd0_eq N (Q38 N) (r, (l, w)) (k : Int) p (mvP r p) (by omega) (some 1) 0 hE (mvP r p).length 0 N false (by omega) (by omega)
   rw [List.drop_zero] at this
   rw [show ((0 : Nat) : Int) = 0 from rfl] at this
   rw [this]
   dsimp only
   rw [hk]
   dsimp only
   rw [decide_eq_true ((hg2 m).2 hm2), Bool.or_true, bif_t rfl, w2]
   rfl
  ·omega
 | D + 2, hD, N, k, p, hN, hp, h0, hv, hw, h => by
  obtain ⟨N, rfl⟩ := nxt (n := N) (by omega)
  obtain ⟨m, reps, hm1, hm2, hm3, hm4⟩ := h
  obtain ⟨hk, hkl⟩ := gD_getq hm1
  obtain ⟨hg1, hg2, hg3⟩ := gen_mvP (N := N) (by omega) hr hp h0
  have hmo := cand_ok hr hp hm2
  have hdo := do_ok hr hp hmo
  have ht := hp.last.1
  have ws := win_step hr hp (D := D + 1) (by omega) hm2 hm3 hv
  have hE : ∀ n, 10000 ≤ n → ndR N (Q38 N) (r, (l, w)) (k : Int) p n = some (1000 - val r (D + 2) p) := fun n hn => by
   unfold ndR
   dsimp only
   rw [hk]
   dsimp only
   rw [do_eq hr hp N hmo, ob, res_mvP (by omega) hr hdo, ob]
   rcases ws with ⟨w1, w2⟩ | ⟨w1, D', hD', w2⟩
   ·rcases hm4 with ⟨e1, e2⟩ | ⟨e1, _⟩
    ·subst e1
     rw [w1, bif_t (by rw [eqI_f (by omega)]; rfl), bif_f (by rfl), bif_f (by rw [hw, eqI_self]; rfl), w2]
     rfl
    ·omega
   ·obtain rfl : D' = D := by omega
    rcases hm4 with ⟨_, e2⟩ | ⟨_, e2, e3⟩
    ·exact absurd w1 e2
    ·obtain ⟨q1, q2, q3⟩ := gen_mvP (N := N) (by omega) hr hdo w1
     rw [bif_f (by rw [eqI_t w1]; rfl), q1, ob, bif_f (by rw [eqI_t (by omega)]; rfl)]
     have := nd1_cert hr w l (N := N) (by omega) (Q38 N) (k : Int) p (doI r p m) hdo w1 D' (by omega) reps m hk e2 (fun i hi => by
      have hc := (q2 _).1 (List.getElem_mem hi)
      have hc' : gD z0 (mvP r (doI r p m)) (i : Int) ∈ cand r (doI r p m) := by rw [gD_nat hi]; exact hc
      have hso := do_ok hr hdo (cand_ok hr hdo hc')
      have w3 := w2 _ hc'
      rcases e3 i hi with ⟨g1, g2⟩ | ⟨g1, c, g2, g3⟩
      ·rcases w3.2 with g | g
       ·exact absurd g g1
       ·exact Or.inl ⟨g1, by rw [hw]; exact g.1, g2, g.2⟩
      ·refine Or.inr ⟨g1, by omega, w3.1, ?_⟩
       rw [g2]
       exact node_cert hl D' (by omega) N c _ (by omega) hso g1 w3.1 (by rw [hw]; show _ = 1 + (1 - (1 - p.2.2.1)); omega) g3) (mvP r (doI r p m)).length 0 n 0 (by omega) (by omega)
     rw [List.drop_zero] at this
     refine this.trans ?_
     have vo := val_open hr w1 D'
     have f1 := foldMax_spec ((cand r (doI r p m)).map fun m' => near (-(val r D' (doI r (doI r p m) m')))) (-1000)
     have f2 := foldMax_spec ((mvP r (doI r p m)).map fun m' => 1002 - val r D' (doI r (doI r p m) m')) 0
     rw [← vo] at f1
     obtain ⟨m0, hm0⟩ : ∃ m0, m0 ∈ cand r (doI r p m) := by
      cases hc : cand r (doI r p m) with
      | nil => exact absurd hc (cand_ne hr hdo w1)
      | cons a b => exact ⟨a, List.mem_cons_self ..⟩
     have bnd : ∀ m' ∈ cand r (doI r p m), 0 < val r D' (doI r (doI r p m) m') ∧ val r D' (doI r (doI r p m) m') ≤ 1000 ∧ near (-(val r D' (doI r (doI r p m) m'))) = 1 - val r D' (doI r (doI r p m) m') := fun m' hm' => by
      have hso := do_ok hr hdo (cand_ok hr hdo hm')
      have b := val_bound hr D' (by omega) hso
      have c := (w2 m' hm').1
      have nc := near_cases (-(val r D' (doI r (doI r p m) m')))
      exact ⟨c, by omega, by omega⟩
     have a0 := bnd m0 hm0
     have b0 := f1.2.1 _ (List.mem_map.2 ⟨m0, hm0, rfl⟩)
     have c0 := f2.2.1 _ (List.mem_map.2 ⟨m0, (q2 m0).2 hm0, rfl⟩)
     have d1 : ∃ m1 ∈ cand r (doI r p m), val r (D' + 1) (doI r p m) = 1 - val r D' (doI r (doI r p m) m1) := by
      rcases f1.2.2 with e | e
      ·omega
      ·obtain ⟨m1, hm1, hme⟩ := List.mem_map.1 e
       exact ⟨m1, hm1, by rw [← hme]; exact (bnd m1 hm1).2.2⟩
     have d2 : ∃ m2 ∈ cand r (doI r p m), foldMax 0 ((mvP r (doI r p m)).map fun m' => 1002 - val r D' (doI r (doI r p m) m')) = 1002 - val r D' (doI r (doI r p m) m2) := by
      rcases f2.2.2 with e | e
      ·rw [e] at c0; omega
      ·obtain ⟨m2, hm2, hme⟩ := List.mem_map.1 e
       exact ⟨m2, (q2 m2).1 hm2, hme.symm⟩
     obtain ⟨m1, k1, k2⟩ := d1
     obtain ⟨m2, k3, k4⟩ := d2
     have u1 := f2.2.1 _ (List.mem_map.2 ⟨m1, (q2 m1).2 k1, rfl⟩)
     have u2 := f1.2.1 _ (List.mem_map.2 ⟨m2, k3, rfl⟩)
     have v1 := bnd m1 k1
     have v2 := bnd m2 k3
     have nc := near_cases (-(val r (D' + 1) (doI r p m)))
     congr 1
     omega
  rw [node_e]
  dsimp only
  rw [chk_of (idx_ok hkl), hg1, ob]
  have := nd0_eq N (Q38 N) (r, (l, w)) (k : Int) p (mvP r p) (by omega) (some (1000 - val r (D + 2) p)) 10000 hE (mvP r p).length 0 N false (by omega) (by omega)
  rw [List.drop_zero] at this
  rw [show ((0 : Nat) : Int) = 0 from rfl] at this
  rw [this]
  dsimp only
  rw [hk]
  dsimp only
  rw [decide_eq_true ((hg2 m).2 hm2), Bool.or_true, bif_t rfl]
end
abbrev MkT := RulesT × (List NodeT × Bool)
def cntN : List NodeT → Int → Nat
 | [], _ => 0
 | x :: l, j => x.2.count j + cntN l j
theorem cntN_append (j : Int) : ∀ (a b : List NodeT), cntN (a ++ b) j = cntN a j + cntN b j
 | [], b => by simp [cntN]
 | x :: a, b => by
  have := cntN_append j a b
  show x.2.count j + cntN (a ++ b) j = (x.2.count j + cntN a j) + cntN b j
  omega
structure AddOk (r : RulesT) (w : Int) (L : List NodeT) (D : Nat) (p : PosT) (S : List NodeT) : Prop where
 ne : 0 < S.length
 le : L.length + S.length ≤ 5000
 cl : ∀ l : List NodeT, (∀ i, i < S.length → l[L.length + i]? = S[i]?) → CertP r w l D L.length p
 ord : ∀ i x, S[i]? = some x → ∀ a ∈ x.2, a = -1 ∨ (((L.length + i : Nat) : Int) < a ∧ a < ((L.length + S.length : Nat) : Int))
 cnt : ∀ j : Nat, cntN S (j : Int) = if L.length < j ∧ j < L.length + S.length then 1 else 0
 few : ∀ x ∈ S, x.2.length ≤ 8192
structure Inv (r : RulesT) (w : Int) (L : List NodeT) (D : Nat) (q : PosT) (ms : List MvT) (j : Nat) (S : List NodeT) (reps : List Int) : Prop where
 le : L.length + 1 + S.length ≤ 5000
 len : reps.length = j
 cl : ∀ l : List NodeT, (∀ i, i < S.length → l[L.length + 1 + i]? = S[i]?) → ∀ t : Nat, t < j → (resV r (doI r q (gD z0 ms (t : Int))) ≠ 0 ∧ gD 0 reps (t : Int) = -1) ∨ (resV r (doI r q (gD z0 ms (t : Int))) = 0 ∧ ∃ c : Nat, gD 0 reps (t : Int) = (c : Int) ∧ CertP r w l D c (doI r q (gD z0 ms (t : Int))))
 ordR : ∀ a ∈ reps, a = -1 ∨ ((L.length : Int) < a ∧ a < ((L.length + 1 + S.length : Nat) : Int))
 ordN : ∀ i x, S[i]? = some x → ∀ a ∈ x.2, a = -1 ∨ (((L.length + 1 + i : Nat) : Int) < a ∧ a < ((L.length + 1 + S.length : Nat) : Int))
 cnt : ∀ j : Nat, reps.count (j : Int) + cntN S (j : Int) = if L.length < j ∧ j < L.length + 1 + S.length then 1 else 0
 few : ∀ x ∈ S, x.2.length ≤ 8192
theorem gD_snoc_lt {reps : List Int} {a : Int} {t : Nat} (h : t < reps.length) : gD 0 (reps ++ [a]) (t : Int) = gD 0 reps (t : Int) := by
 rw [gD_nat h, gD_nat (by rw [List.length_append]; omega), List.getElem_append_left h]
theorem gD_snoc_eq {reps : List Int} {a : Int} : gD 0 (reps ++ [a]) ((reps.length : Nat) : Int) = a := by
 rw [gD_nat (by rw [List.length_append]; simp), List.getElem_append_right (Nat.le_refl _)]
 simp
section
variable {r : RulesT} {w : Int} {L : List NodeT} {D : Nat} {q : PosT} {ms : List MvT} {j : Nat} {S : List NodeT} {reps : List Int}
theorem Inv.over (h : Inv r w L D q ms j S reps) (h0 : resV r (doI r q (gD z0 ms (j : Int))) ≠ 0) : Inv r w L D q ms (j + 1) S (reps ++ [-1]) := by
 have hl := h.len
 refine ⟨h.le, by rw [List.length_append]; simp [hl], fun l hag t ht => ?_, fun a ha => ?_, h.ordN, fun i => ?_, h.few⟩
 ·by_cases e : t < j
  ·rw [gD_snoc_lt (by omega)]
   exact h.cl l hag t e
  ·obtain rfl : t = j := by omega
   refine Or.inl ⟨h0, ?_⟩
   subst hl
   exact gD_snoc_eq
 ·rcases List.mem_append.1 ha with ha | ha
  ·exact h.ordR a ha
  ·exact Or.inl (by simpa using ha)
 ·have := h.cnt i
  rw [List.count_append]
  have e : List.count (i : Int) [-1] = 0 := by
   rw [List.count_singleton]
   rw [if_neg (by simp)]
  omega
theorem Inv.add {S' : List NodeT} {m : MvT} (h : Inv r w L D q ms j S reps) (h0 : resV r (doI r q (gD z0 ms (j : Int))) = 0) (hA : AddOk r w (L ++ (m, []) :: S) D (doI r q (gD z0 ms (j : Int))) S') : Inv r w L D q ms (j + 1) (S ++ S') (reps ++ [((L.length + 1 + S.length : Nat) : Int)]) := by
 have hl := h.len
 have hle := hA.le
 have hne := hA.ne
 have hML : (L ++ ((m, []) : NodeT) :: S).length = L.length + 1 + S.length := by rw [List.length_append, List.length_cons]; omega
 rw [hML] at hle
 refine ⟨by rw [List.length_append]; omega, by rw [List.length_append]; simp [hl], fun l hag t ht => ?_, fun a ha => ?_, fun i x hx a ha => ?_, fun i => ?_, fun x hx => (List.mem_append.1 hx).elim (h.few x) (hA.few x)⟩
 ·by_cases e : t < j
  ·rw [gD_snoc_lt (by omega)]
   refine h.cl l (fun i hi => ?_) t e
   rw [hag i (by rw [List.length_append]; omega), List.getElem?_append_left hi]
  ·obtain rfl : t = j := by omega
   refine Or.inr ⟨h0, L.length + 1 + S.length, ?_, ?_⟩
   ·subst hl
    exact gD_snoc_eq
   ·have := hA.cl l (fun i hi => by
     rw [hML, show L.length + 1 + S.length + i = L.length + 1 + (S.length + i) by omega, hag (S.length + i) (by rw [List.length_append]; omega), List.getElem?_append_right (by omega)]
     congr 1; omega)
    rw [hML] at this
    exact this
 ·rcases List.mem_append.1 ha with ha | ha
  ·rcases h.ordR a ha with g | g
   ·exact Or.inl g
   ·exact Or.inr ⟨g.1, by rw [List.length_append]; omega⟩
  ·have ha : a = ((L.length + 1 + S.length : Nat) : Int) := by simpa using ha
   exact Or.inr ⟨by omega, by rw [List.length_append]; omega⟩
 ·by_cases e : i < S.length
  ·rw [List.getElem?_append_left e] at hx
   rcases h.ordN i x hx a ha with g | g
   ·exact Or.inl g
   ·exact Or.inr ⟨g.1, by rw [List.length_append]; omega⟩
  ·rw [List.getElem?_append_right (by omega)] at hx
   rcases hA.ord (i - S.length) x hx a ha with g | g
   ·exact Or.inl g
   ·rw [hML] at g
    exact Or.inr ⟨by omega, by rw [List.length_append]; omega⟩
 ·have c1 := h.cnt i
  have c2 := hA.cnt i
  rw [hML] at c2
  rw [List.count_append, cntN_append, List.count_singleton, List.length_append]
  by_cases e : i = L.length + 1 + S.length
  ·subst e
   rw [if_pos (by simp)]
   rw [if_neg (by omega)] at c1 c2
   rw [if_pos (by omega)]
   omega
  ·rw [if_neg (by simp; omega)]
   split at c1
   ·rw [if_neg (by omega)] at c2
    rw [if_pos (by omega)]
    omega
   ·split at c2
    ·rw [if_pos (by omega)]
     omega
    ·rw [if_neg (by omega)]
     omega
theorem Inv.nil (hL : L.length < 5000) : Inv r w L D q ms 0 [] [] := by
 refine ⟨by simp; omega, rfl, fun l _ t ht => absurd ht (by omega), fun a ha => (by cases ha), fun i x hx => (by simp at hx), fun j => ?_, fun x hx => (by cases hx)⟩
 rw [if_neg (by simp; omega)]
 rfl
theorem Inv.fin {p : PosT} {m : MvT} (h : Inv r w L D q ms j S reps) (hfew : ms.length ≤ 8192) (hq : q = doI r p m) (hms : ms = mvP r q) (hj : j = ms.length) (hq0 : resV r q = 0) (hm : m ∈ cand r p) (he : near (-(val r (D + 1) (doI r p m))) = val r (D + 2) p) : AddOk r w L (D + 2) p ((m, reps) :: S) := by
 have hle := h.le
 refine ⟨by simp, by rw [List.length_cons]; omega, fun l hag => ?_, fun i x hx a ha => ?_, fun i => ?_, fun x hx => (List.mem_cons.1 hx).elim (fun e => by subst e; show reps.length ≤ 8192; have := h.len; omega) (h.few x)⟩
 ·have h0 := hag 0 (by simp)
  have hc := h.cl l (fun i hi => by
   have := hag (i + 1) (by rw [List.length_cons]; omega)
   rw [List.getElem?_cons_succ] at this
   rw [← this]
   congr 1; omega)
  subst hq
  subst hms
  exact ⟨m, reps, h0, hm, he, Or.inr ⟨hq0, by rw [h.len, hj], fun i hi => hc i (by omega)⟩⟩
 ·cases i with
  | zero =>
   have hx : (m, reps) = x := by simpa using hx
   subst hx
   rcases h.ordR a ha with g | g
   ·exact Or.inl g
   ·exact Or.inr ⟨by omega, by rw [List.length_cons]; omega⟩
  | succ i =>
   rw [List.getElem?_cons_succ] at hx
   rcases h.ordN i x hx a ha with g | g
   ·exact Or.inl g
   ·exact Or.inr ⟨by omega, by rw [List.length_cons]; omega⟩
 ·have := h.cnt i
  show reps.count (i : Int) + cntN S (i : Int) = _
  rw [this, List.length_cons]
  by_cases e : L.length < i ∧ i < L.length + 1 + S.length
  ·rw [if_pos e, if_pos (by omega)]
  ·rw [if_neg e, if_neg (by omega)]
theorem AddOk.over {p : PosT} {m : MvT} (hL : L.length < 5000) (hm : m ∈ cand r p) (h0 : resV r (doI r p m) ≠ 0) {E : Nat} (he : near (-(val r E (doI r p m))) = val r (E + 1) p) : AddOk r w L (E + 1) p [(m, [])] := by
 refine ⟨by simp, by simp; omega, fun l hag => ?_, fun i x hx a ha => ?_, fun i => ?_, fun x hx => (by rw [List.mem_singleton.1 hx]; simp)⟩
 ·have h1 := hag 0 (by simp)
  cases E with
  | zero => exact ⟨m, h1, hm, he⟩
  | succ E => exact ⟨m, [], h1, hm, he, Or.inl ⟨rfl, h0⟩⟩
 ·cases i with
  | zero =>
   have hx : ((m, []) : NodeT) = x := by simpa using hx
   subst hx
   cases ha
  | succ i => simp at hx
 ·rw [if_neg (by simp; omega)]
  rfl
end
abbrev AdT := MkT → PosT → Int → Option (Int × MkT)
def ad0 (N : Nat) (self : AdT) (x0 : MkT) (p : PosT) (depth : Int) (n : Nat) (len j : Int) (x : MkT) (q : PosT) (ms : List MvT) (reps : List Int) : Option (Int × MkT) :=
 Q35.l0 N self x0 p depth n len j x.1.1 x.1.2.1 x.1.2.2.1 x.1.2.2.2.1 x.1.2.2.2.2.1 x.1.2.2.2.2.2.1 x.1.2.2.2.2.2.2.1 x.1.2.2.2.2.2.2.2.1 x.1.2.2.2.2.2.2.2.2.1 x.1.2.2.2.2.2.2.2.2.2.1 x.1.2.2.2.2.2.2.2.2.2.2 x.2.2 x.2.1 q.1 q.2.1.1 q.2.1.2 q.2.2.1 q.2.2.2 ms reps
theorem ad0_s (N : Nat) (self : AdT) (x0 : MkT) (p : PosT) (depth : Int) (n : Nat) (len j : Int) (x : MkT) (q : PosT) (ms : List MvT) (reps : List Int) : ad0 N self x0 p depth (n + 1) len j x q ms reps =
  bif ltI j len then (chk ((leI 0 j) && (ltI j (ms.length : Int))) <|
   (Q28 N x.1 q (gD z0 ms j)).bind fun y6 =>
   (Q34 N x.1 y6).bind fun y7 =>
   bif (!(eqI y7 0)) then (chk (capOk 8 (reps.length + ([(-1)] : List Int).length)) <|
    ad0 N self x0 p depth n len (w64 (j + 1)) x q ms (reps ++ [(-1)]))
   else (self x y6 (w64 (depth - 2))).bind fun y8 =>
   chk (capOk 8 (reps.length + ([y8.1] : List Int).length)) <|
   ad0 N self x0 p depth n len (w64 (j + 1)) y8.2 q ms (reps ++ [y8.1]))
  else chk ((leI 0 (x0.2.1.length : Int)) && (ltI (x0.2.1.length : Int) (x.2.1.length : Int))) <|
  some ((x0.2.1.length : Int), (x.1, ((x.2.1.set (x0.2.1.length : Int).toNat ((gD zN x.2.1 (x0.2.1.length : Int)).1, reps)), x.2.2))) := rfl
theorem add_e (N : Nat) (x : MkT) (p : PosT) (depth : Int) : Q35 (N + 1) x p depth =
  bif (eqI (x.2.1.length : Int) 5000) then (some (0, (x.1, (x.2.1, true))))
  else bif x.2.2 then (some (0, x))
  else (Q62 N x.1 p depth).bind fun y2 =>
  chk (capOk 48 (x.2.1.length + ([(y2.1, [])] : List NodeT).length)) <|
  (Q28 N x.1 p y2.1).bind fun y3 =>
  (Q34 N x.1 y3).bind fun y4 =>
  bif (!(eqI y4 0)) then (some ((x.2.1.length : Int), (x.1, ((x.2.1 ++ [(y2.1, [])]), x.2.2))))
  else (Q50 N x.1 y3).bind fun y5 =>
  ad0 N (Q35 N) x p depth N (y5.length : Int) 0 (x.1, ((x.2.1 ++ [(y2.1, [])]), x.2.2)) y3 y5 [] := rfl
theorem add_full (N : Nat) (hN : 1 ≤ N) (x : MkT) (p : PosT) (depth : Int) (hx : x.2.2 = true) : Ret (Q35 N x p depth) fun z => z.2 = x := by
 obtain ⟨N, rfl⟩ := nxt (n := N) (by omega)
 obtain ⟨r, l, f⟩ := x
 have hx : f = true := hx
 subst hx
 rw [add_e]
 refine Ret.bif (fun _ => Ret.ret rfl) (fun _ => ?_)
 rw [bif_t rfl]
 exact Ret.ret rfl
section
variable {r : RulesT} (hr : ROk r)
include hr
theorem ad_full {N : Nat} (hN : 200000000 ≤ N) (self : AdT) (hself : ∀ x y e, x.2.2 = true → Ret (self x y e) fun z => z.2 = x) (x0 : MkT) (p : PosT) (depth : Int) {q : PosT} (hq : POk r q) (hq0 : resV r q = 0) : ∀ (i j n : Nat) (x : MkT) (reps : List Int), j + i = (mvP r q).length → i < n → x.1 = r → x.2.2 = true → x0.2.1.length < x.2.1.length → reps.length ≤ j →
  Ret (ad0 N self x0 p depth n ((mvP r q).length : Int) (j : Int) x q (mvP r q) reps) fun z => z.2.1 = r ∧ z.2.2.2 = true ∧ x.2.1.length ≤ z.2.2.1.length
 | 0, j, n, x, reps, hj, hn, h1, h2, h3, h4 => by
  obtain ⟨n, rfl⟩ := nxt (n := n) (by omega)
  rw [ad0_s, bif_f (ltI_f (by omega)), chk_of (idx_ok h3)]
  exact Ret.ret ⟨h1, h2, by simp⟩
 | i + 1, j, n, x, reps, hj, hn, h1, h2, h3, h4 => by
  obtain ⟨n, rfl⟩ := nxt (n := n) (by omega)
  have hjl : j < (mvP r q).length := by omega
  obtain ⟨_, hmem, hml⟩ := gen_mvP hN hr hq hq0
  have hmo := cand_ok hr hq ((hmem _).1 (List.getElem_mem hjl))
  have hdo := do_ok hr hq hmo
  rw [ad0_s, bif_t (ltI_t (by omega)), chk_of (idx_ok hjl), gD_nat hjl, h1, do_eq hr hq N hmo, ob, res_mvP hN hr hdo, ob, w64_id (x := (j : Int) + 1) (by omega) (by omega), show ((j : Int) + 1) = ((j + 1 : Nat) : Int) by omega]
  refine Ret.bif (fun _ => ?_) (fun _ => ?_)
  ·rw [chk_cap (by simp only [List.length_singleton]; omega)]
   exact ad_full hN self hself x0 p depth hq hq0 i (j + 1) n x _ (by omega) (by omega) h1 h2 h3 (by simp only [List.length_append, List.length_singleton]; omega)
  ·refine Ret.bnd (hself x _ _ h2) fun z hz => ?_
   rw [chk_cap (by simp only [List.length_singleton]; omega), hz]
   exact ad_full hN self hself x0 p depth hq hq0 i (j + 1) n x _ (by omega) (by omega) h1 h2 h3 (by simp only [List.length_append, List.length_singleton]; omega)
abbrev AddQ (r : RulesT) (w : Int) (L : List NodeT) (D : Nat) (p : PosT) (z : Int × MkT) : Prop :=
 z.2.1 = r ∧ L.length ≤ z.2.2.1.length ∧ (z.2.2.2 = true ∨ (z.2.2.2 = false ∧ z.1 = (L.length : Int) ∧ ∃ S, z.2.2.1 = L ++ S ∧ AddOk r w L D p S))
theorem ad_l0 {N : Nat} (hN : 200000000 ≤ N) (self : AdT) (hfull : ∀ x y e, x.2.2 = true → Ret (self x y e) fun z => z.2 = x) (w : Int) (L : List NodeT) (p : PosT) (m : MvT) (D : Nat) (hD : D ≤ 100) {q : PosT} (hq : POk r q) (hq0 : resV r q = 0)
  (hself : ∀ (M : List NodeT) (t : Nat), M.length ≤ 5000 → t < (mvP r q).length → resV r (doI r q (gD z0 (mvP r q) (t : Int))) = 0 → Ret (self (r, (M, false)) (doI r q (gD z0 (mvP r q) (t : Int))) (D : Int)) (AddQ r w M D (doI r q (gD z0 (mvP r q) (t : Int))))) :
  ∀ (i j n : Nat) (S : List NodeT) (reps : List Int), j + i = (mvP r q).length → i < n → Inv r w L D q (mvP r q) j S reps →
  Ret (ad0 N self (r, (L, false)) p ((D + 2 : Nat) : Int) n ((mvP r q).length : Int) (j : Int) (r, (L ++ (m, []) :: S, false)) q (mvP r q) reps) fun z => z.2.1 = r ∧ L.length ≤ z.2.2.1.length ∧ (z.2.2.2 = true ∨ (z.2.2.2 = false ∧ z.1 = (L.length : Int) ∧ ∃ S' reps', z.2.2.1 = L ++ (m, reps') :: S' ∧ Inv r w L D q (mvP r q) (mvP r q).length S' reps'))
 | 0, j, n, S, reps, hj, hn, hi => by
  obtain ⟨n, rfl⟩ := nxt (n := n) (by omega)
  obtain rfl : j = (mvP r q).length := by omega
  have hlt : L.length < (L ++ ((m, []) : NodeT) :: S).length := by rw [List.length_append, List.length_cons]; omega
  rw [ad0_s, bif_f (ltI_f (by omega))]
  dsimp only
  rw [chk_of (idx_ok hlt), gD_nat hlt]
  have e1 : (L ++ ((m, []) : NodeT) :: S)[L.length] = (m, []) := by rw [List.getElem_append_right (Nat.le_refl _)]; simp
  have e2 : (L ++ ((m, []) : NodeT) :: S).set (L.length : Int).toNat (m, reps) = L ++ (m, reps) :: S := by
   rw [Int.toNat_natCast, List.set_append_right _ _ (Nat.le_refl _), Nat.sub_self]
   rfl
  rw [e1, e2]
  exact Ret.ret ⟨rfl, by show L.length ≤ (L ++ (m, reps) :: S).length; rw [List.length_append]; omega, Or.inr ⟨rfl, rfl, S, reps, rfl, hi⟩⟩
 | i + 1, j, n, S, reps, hj, hn, hi => by
  obtain ⟨n, rfl⟩ := nxt (n := n) (by omega)
  have hjl : j < (mvP r q).length := by omega
  obtain ⟨_, hmem, hml⟩ := gen_mvP hN hr hq hq0
  have hmo := cand_ok hr hq ((hmem _).1 (List.getElem_mem hjl))
  have hdo := do_ok hr hq hmo
  have hrl := hi.len
  have hle := hi.le
  have hML : (L ++ ((m, []) : NodeT) :: S).length = L.length + 1 + S.length := by rw [List.length_append, List.length_cons]; omega
  have eg : gD z0 (mvP r q) (j : Int) = (mvP r q)[j] := gD_nat hjl
  rw [ad0_s, bif_t (ltI_t (by omega)), chk_of (idx_ok hjl), eg]
  dsimp only
  rw [do_eq hr hq N hmo, ob, res_mvP hN hr hdo, ob, w64_id (x := (j : Int) + 1) (by omega) (by omega), show ((j : Int) + 1) = ((j + 1 : Nat) : Int) by omega, w64_id (x := ((D + 2 : Nat) : Int) - 2) (by omega) (by omega), show ((D + 2 : Nat) : Int) - 2 = (D : Int) by omega]
  by_cases h0 : resV r (doI r q (mvP r q)[j]) = 0
  ·rw [bif_f (by rw [eqI_t h0]; rfl)]
   have hs := hself (L ++ (m, []) :: S) j (by omega) hjl (by rw [eg]; exact h0)
   rw [eg] at hs
   refine Ret.bnd hs fun z hz => ?_
   rw [chk_cap (by simp only [List.length_singleton]; omega)]
   rcases hz.2.2 with hf | ⟨hf, hz1, S', hz2, hz3⟩
   ·refine (ad_full hr hN self hfull (r, (L, false)) p ((D + 2 : Nat) : Int) hq hq0 i (j + 1) n z.2 _ (by omega) (by omega) hz.1 hf (by have := hz.2.1; show L.length < _; omega) (by simp only [List.length_append, List.length_singleton]; omega)).mono fun y hy => ⟨hy.1, ?_, Or.inl hy.2.1⟩
    have := hz.2.1
    have := hy.2.2
    omega
   ·have hn2 := hi.add (m := m) (by rw [eg]; exact h0) (by rw [eg]; exact hz3)
    have ez : z.2 = (r, (L ++ (m, []) :: (S ++ S'), false)) := by
     obtain ⟨z1, z2, z3, z4⟩ := z
     dsimp only at *
     have hz0 : z2 = r := hz.1
     rw [hz0, hf, hz2, List.append_assoc]
     rfl
    rw [ez, hz1, hML]
    exact ad_l0 hN self hfull w L p m D hD hq hq0 hself i (j + 1) n (S ++ S') _ (by omega) (by omega) hn2
  ·rw [bif_t (by rw [eqI_f h0]; rfl), chk_cap (by simp only [List.length_singleton]; omega)]
   exact ad_l0 hN self hfull w L p m D hD hq hq0 hself i (j + 1) n S _ (by omega) (by omega) (hi.over (by rw [eg]; exact h0))
theorem add_ok (w : Int) : ∀ (D N : Nat) (p : PosT) (L : List NodeT), 1 ≤ D → D ≤ 12 → 200000100 + D < N → POk r p → resV r p = 0 → 0 < val r D p → sizeP r D p ≤ 50000 → L.length ≤ 5000 → Ret (Q35 N (r, (L, false)) p (D : Int)) (AddQ r w L D p)
 | 0, _, _, _, h, _, _, _, _, _, _, _ => absurd h (by omega)
 | 1, N, p, L, _, hD, hN, hp, h0, hv, hs, hL => by
  obtain ⟨N, rfl⟩ := nxt (n := N) (by omega)
  rw [add_e]
  dsimp only
  by_cases c : L.length = 5000
  ·rw [bif_t (eqI_t (by omega))]
   exact Ret.ret ⟨rfl, Nat.le_refl _, Or.inl rfl⟩
  ·rw [bif_f (eqI_f (by omega)), bif_f rfl]
   refine Ret.bnd (bestf_ok (N := N) (by omega) hr hp (d := 0) (by omega) hs h0) fun z hz => ?_
   have hmo := cand_ok hr hp hz.1
   have hdo := do_ok hr hp hmo
   rw [chk_cap (by simp only [List.length_singleton]; omega), do_eq hr hp N hmo, ob, res_mvP (by omega) hr hdo, ob]
   rcases win_step hr hp (D := 0) (by omega) hz.1 hz.2 hv with ⟨w1, w2⟩ | ⟨_, _, h, _⟩
   ·have ht := hp.last.1
    have hne : resV r (doI r p z.1) ≠ 0 := by omega
    rw [bif_t (by rw [eqI_f hne]; rfl)]
    exact Ret.ret ⟨rfl, by show L.length ≤ (L ++ [(z.1, [])]).length; rw [List.length_append]; omega, Or.inr ⟨rfl, rfl, _, rfl, AddOk.over (by omega) hz.1 hne hz.2⟩⟩
   ·omega
 | D + 2, N, p, L, _, hD, hN, hp, h0, hv, hs, hL => by
  obtain ⟨N, rfl⟩ := nxt (n := N) (by omega)
  rw [add_e]
  dsimp only
  by_cases c : L.length = 5000
  ·rw [bif_t (eqI_t (by omega))]
   exact Ret.ret ⟨rfl, Nat.le_refl _, Or.inl rfl⟩
  ·rw [bif_f (eqI_f (by omega)), bif_f rfl]
   refine Ret.bnd (bestf_ok (N := N) (by omega) hr hp (d := D + 1) (by omega) hs h0) fun z hz => ?_
   have hmo := cand_ok hr hp hz.1
   have hdo := do_ok hr hp hmo
   rw [chk_cap (by simp only [List.length_singleton]; omega), do_eq hr hp N hmo, ob, res_mvP (by omega) hr hdo, ob]
   rcases win_step hr hp (D := D + 1) (by omega) hz.1 hz.2 hv with ⟨w1, w2⟩ | ⟨w1, D', hD', w2⟩
   ·have ht := hp.last.1
    have hne : resV r (doI r p z.1) ≠ 0 := by omega
    rw [bif_t (by rw [eqI_f hne]; rfl)]
    exact Ret.ret ⟨rfl, by show L.length ≤ (L ++ [(z.1, [])]).length; rw [List.length_append]; omega, Or.inr ⟨rfl, rfl, _, rfl, AddOk.over (by omega) hz.1 hne hz.2⟩⟩
   ·obtain rfl : D' = D := by omega
    obtain ⟨q1, q2, q3⟩ := gen_mvP (N := N) (by omega) hr hdo w1
    rw [bif_f (by rw [eqI_t w1]; rfl), q1, ob]
    have sz1 : sizeP r (D' + 1) (doI r p z.1) < sizeP r (D' + 2) p := size_child hr hp h0 hz.1 (D' + 1)
    have := ad_l0 hr (N := N) (by omega) (Q35 N) (fun x y e hx => add_full N (by omega) x y e hx) w L p z.1 D' (by omega) hdo w1 (fun M t hM ht hs0 => by
     have hc : gD z0 (mvP r (doI r p z.1)) (t : Int) ∈ cand r (doI r p z.1) := by rw [gD_nat ht]; exact (q2 _).1 (List.getElem_mem ht)
     have hso := do_ok hr hdo (cand_ok hr hdo hc)
     have sz2 := size_child hr hdo w1 hc D'
     have wv := (w2 _ hc).1
     have hD0 : 1 ≤ D' := by
      cases D' with
      | zero => unfold val at wv; rw [if_neg (by simp [hs0])] at wv; omega
      | succ _ => omega
     exact add_ok w D' N _ M hD0 (by omega) (by omega) hso hs0 wv (by omega) hM) (mvP r (doI r p z.1)).length 0 N [] [] (by omega) (by omega) (Inv.nil (by omega))
    refine Ret.mono this fun y hy => ⟨hy.1, hy.2.1, ?_⟩
    rcases hy.2.2 with hf | ⟨hf, hy1, S', reps', hy2, hy3⟩
    ·exact Or.inl hf
    ·exact Or.inr ⟨hf, hy1, (z.1, reps') :: S', hy2, hy3.fin q3 rfl rfl rfl w1 hz.1 hz.2⟩
end
theorem gD_set {l : List Int} {a : Nat} {v : Int} {j : Nat} (hj : j < l.length) : gD 0 (l.set a v) (j : Int) = if a = j then v else gD 0 l (j : Int) := by
 rw [gD_nat (by rw [List.length_set]; exact hj), gD_nat hj, List.getElem_set]
def sumN : List NodeT → Nat
 | [] => 0
 | x :: l => x.2.length + 2 + sumN l
theorem sumN_le : ∀ l : List NodeT, (∀ x ∈ l, x.2.length ≤ 8192) → sumN l ≤ 8194 * l.length
 | [], _ => Nat.le_refl _
 | x :: l, h => by
  have h1 := h x (List.mem_cons_self ..)
  have h2 := sumN_le l fun y hy => h y (List.mem_cons_of_mem _ hy)
  show x.2.length + 2 + sumN l ≤ 8194 * (l.length + 1)
  omega
section
variable (N : Nat) (l : List NodeT) (hl : l.length ≤ 5000)
include hl
theorem tree_l2 (nm : List Int) (hn : nm.length = l.length) (h1 : ∀ j : Nat, j < l.length → 0 < j → gD 0 nm (j : Int) = 1) : ∀ (k t n : Nat), t + k = l.length → k < n → Q37.l2 N l n (l.length : Int) (t : Int) nm = some true
 | 0, t, n, hk, hq => by
  obtain ⟨n, rfl⟩ := nxt (n := n) (by omega)
  rw [Q37.l2_s, Q37.s2, bif_f (ltI_f (by omega))]
 | k + 1, t, n, hk, hq => by
  obtain ⟨n, rfl⟩ := nxt (n := n) (by omega)
  have ih := tree_l2 nm hn h1 k (t + 1) n (by omega) (by omega)
  rw [Q37.l2_s, Q37.s2, bif_t (ltI_t (by omega)), chk_of (idx_ok (by omega)), w64_id (x := (t : Int) + 1) (by omega) (by omega), show ((t : Int) + 1) = ((t + 1 : Nat) : Int) by omega, ih]
  by_cases c : 0 < t
  ·rw [bif_t (ltI_t (by omega)), h1 t (by omega) c, bif_f (by rfl)]
  ·rw [bif_f (ltI_f (by omega))]
theorem tree_l1 (i : Nat) (hi : i < l.length) (reps : List Int) (hr8 : reps.length ≤ 8192) (hord : ∀ a ∈ reps, a = -1 ∨ ((i : Int) < a ∧ a < (l.length : Int))) (B : Nat)
  (hB : ∀ (n : Nat) (nm : List Int), B ≤ n → nm.length = l.length → (∀ j : Nat, j < l.length → 0 ≤ gD 0 nm (j : Int) ∧ gD 0 nm (j : Int) + cntN (l.drop (i + 1)) (j : Int) = if 0 < j then 1 else 0) → Q37.l0 N l n ((i + 1 : Nat) : Int) nm = some true) :
  ∀ (k t n : Nat) (nm : List Int), t + k = reps.length → B + k < n → nm.length = l.length → (∀ j : Nat, j < l.length → 0 ≤ gD 0 nm (j : Int) ∧ gD 0 nm (j : Int) + (reps.drop t).count (j : Int) + cntN (l.drop (i + 1)) (j : Int) = if 0 < j then 1 else 0) →
  Q37.l1 N l n (i : Int) (i : Int) reps (reps.length : Int) (t : Int) nm = some true
 | 0, t, n, nm, hk, hq, hn, hinv => by
  obtain ⟨n, rfl⟩ := nxt (n := n) (by omega)
  rw [Q37.l1_s, Q37.s1, bif_f (ltI_f (by omega)), w64_id (x := (i : Int) + 1) (by omega) (by omega), show ((i : Int) + 1) = ((i + 1 : Nat) : Int) by omega]
  refine hB n nm (by omega) hn fun j hj => ?_
  have := (hinv j hj).2
  rw [List.drop_of_length_le (by omega)] at this
  simp only [List.count_nil] at this
  exact ⟨(hinv j hj).1, by omega⟩
 | k + 1, t, n, nm, hk, hq, hn, hinv => by
  obtain ⟨n, rfl⟩ := nxt (n := n) (by omega)
  have ht : t < reps.length := by omega
  have ho := hord _ (List.getElem_mem ht)
  have hd : ∀ j : Nat, (reps.drop t).count (j : Int) = (reps.drop (t + 1)).count (j : Int) + (if reps[t] = (j : Int) then 1 else 0) := fun j => by
   rw [List.drop_eq_getElem_cons ht, List.count_cons]
   simp
  rw [Q37.l1_s, Q37.s1, bif_t (ltI_t (by omega)), chk_of (idx_ok ht), gD_nat ht, w64_id (x := (t : Int) + 1) (by omega) (by omega), show ((t : Int) + 1) = ((t + 1 : Nat) : Int) by omega]
  rcases ho with ho | ⟨o1, o2⟩
  ·rw [ho, bif_t (by rfl)]
   refine tree_l1 i hi reps hr8 hord B hB k (t + 1) n nm (by omega) (by omega) hn fun j hj => ?_
   have := hinv j hj
   rw [hd j, ho, if_neg (by omega)] at this
   exact ⟨this.1, by omega⟩
  ·obtain ⟨a, ha⟩ : ∃ a : Nat, reps[t] = (a : Int) := ⟨reps[t].toNat, by omega⟩
   rw [ha] at o1 o2 ⊢
   have ia := hinv a (by omega)
   rw [hd a, ha, if_pos rfl, if_pos (show 0 < a by omega)] at ia
   rw [bif_f (eqI_f (by omega)), bif_f (leI_f (by omega)), bif_f (leI_f (by omega)), chk_of (idx_ok (by omega)), chk_of (idx_ok (by omega)), w64_id (x := gD 0 nm (a : Int) + 1) (by omega) (by omega), Int.toNat_natCast]
   refine tree_l1 i hi reps hr8 hord B hB k (t + 1) n _ (by omega) (by omega) (by rw [List.length_set]; exact hn) fun j hj => ?_
   have ij := hinv j hj
   rw [hd j, ha] at ij
   rw [gD_set (by omega)]
   by_cases c : a = j
   ·subst c
    rw [if_pos rfl] at ij ⊢
    exact ⟨by omega, by omega⟩
   ·rw [if_neg (by omega)] at ij
    rw [if_neg c]
    exact ⟨ij.1, by omega⟩
theorem tree_l0 (hfew : ∀ x ∈ l, x.2.length ≤ 8192) (hord : ∀ (i : Nat) x, l[i]? = some x → ∀ a ∈ x.2, a = -1 ∨ ((i : Int) < a ∧ a < (l.length : Int))) : ∀ (k i n : Nat) (nm : List Int), i + k = l.length → sumN (l.drop i) + l.length + 2 < n → nm.length = l.length → (∀ j : Nat, j < l.length → gD 0 nm (j : Int) + cntN (l.drop i) (j : Int) = if 0 < j then 1 else 0) → (∀ j : Nat, j < l.length → 0 ≤ gD 0 nm (j : Int)) → Q37.l0 N l n (i : Int) nm = some true
 | 0, i, n, nm, hk, hq, hn, hinv, _ => by
  obtain ⟨n, rfl⟩ := nxt (n := n) (by omega)
  rw [Q37.l0_s, Q37.s0, bif_f (ltI_f (by omega)), hn]
  refine tree_l2 N l hl nm hn (fun j hj h0 => ?_) l.length 0 n (by omega) (by omega)
  have := hinv j hj
  rw [List.drop_of_length_le (by omega), if_pos h0] at this
  have e : cntN [] (j : Int) = 0 := rfl
  rw [e] at this
  omega
 | k + 1, i, n, nm, hk, hq, hn, hinv, hpos => by
  obtain ⟨n, rfl⟩ := nxt (n := n) (by omega)
  have hi : i < l.length := by omega
  have ed : l.drop i = l[i] :: l.drop (i + 1) := List.drop_eq_getElem_cons hi
  have hf := hfew _ (List.getElem_mem hi)
  rw [ed] at hq
  have hq : l[i].2.length + 2 + sumN (l.drop (i + 1)) + l.length + 2 < n + 1 := hq
  rw [Q37.l0_s, Q37.s0, bif_t (ltI_t (by omega)), chk_of (idx_ok hi), gD_nat hi]
  refine tree_l1 N l hl i hi l[i].2 hf (hord i _ (List.getElem?_eq_getElem hi)) (sumN (l.drop (i + 1)) + l.length + 3) (fun n' nm' h1 h2 h3 => ?_) l[i].2.length 0 n nm (by omega) (by omega) hn (fun j hj => ⟨hpos j hj, ?_⟩)
  ·exact tree_l0 hfew hord k (i + 1) n' nm' (by omega) (by omega) h2 (fun j hj => (h3 j hj).2) fun j hj => (h3 j hj).1
  ·have := hinv j hj
   rw [ed] at this
   have e : cntN (l[i] :: l.drop (i + 1)) (j : Int) = l[i].2.count (j : Int) + cntN (l.drop (i + 1)) (j : Int) := rfl
   rw [e] at this
   rw [List.drop_zero]
   omega
end
end Go.Proofs.Ytnddjmhpofhfjaa.Am
