/- What comes in with a row reads as typed data. -/
import Derived.Test.YtfihdjjilofklaaGreatAm17
import Derived.DataReads
import Derived.ChangeShapes
import Derived.OpenShut
import Derived.ProofKit
import Derived.WalkKit
import Derived.Carry
set_option linter.unusedVariables false
set_option linter.unusedSimpArgs false
namespace Go.Proofs.YtfihdjjilofklaaGreat.Am
open Go
def FW (w : World) : FS := ⟨fun b => b < w.heap.size, [], fun _ _ => none⟩
def WfI (k : IntKind) (x : Int) : Prop := k.min ≤ x ∧ x ≤ k.max
def Wf : (t : Ty) → t.den → Prop
 | .int k, x => WfI k x
 | .bool, _ => True
 | .str, s => ByteArray.size s ≤ 9223372036854775807
 | .slice _ t, xs => len (α := t.den) xs ≤ 9223372036854775807 ∧ ∀ x, List.Mem (α := t.den) x xs → Wf t x
 | .prod a b, x => Wf a x.1 ∧ Wf b x.2
 | .unit, _ => True
 | .ifc _ t, x => Wf t x
 | .nod, _ => True
def prodL : List Ty → Ty
 | [] => .unit
 | [t] => t
 | t :: l => .prod t (prodL l)
def allSome {α : Type} : List (Option α) → Option (List α)
 | [] => some []
 | none :: _ => none
 | some x :: l => match allSome l with
  | some r => some (x :: r)
  | none => none
def offsOk : Nat → List (Nat × Nat) → List Ty → Bool
 | _, [], [] => true
 | n, (off, _) :: fs, t :: ts => Nat.beq off n && offsOk (n + t.size) fs ts
 | _, _, _ => false
def tyOf (tt : Tab) : Nat → Nat → Option Ty
 | 0, _ => none
 | n + 1, T => match tt.td T with
  | .int k => some (.int k)
  | .bool => some .bool
  | .str => some .str
  | .slice e => match tyOf tt n e with
   | some t => if Nat.beq (tt.size e) t.size && Nat.ble 1 t.size then some (.slice e t) else none
   | none => none
  | .array k e => match tyOf tt n e with
   | some t => if Nat.beq (tt.size e) t.size && Nat.beq (tt.size T) (k * t.size) then some (prodL (List.replicate k t)) else none
   | none => none
  | .struct fs => match allSome (fs.map fun p => tyOf tt n p.2) with
   | some ts => if offsOk 0 fs ts && (Nat.beq (tt.size T) (prodL ts).size && (fs.map fun p => tt.size p.2) == ts.map Ty.size) then some (prodL ts) else none
   | none => none
  | _ => none
theorem prodL_size : ∀ (l : List Ty), (prodL l).size = (l.map Ty.size).sum
 | [] => rfl
 | [t] => by simp [prodL]
 | t :: u :: l => by
  have := prodL_size (u :: l)
  simp only [prodL, Ty.size, this, List.map_cons, List.sum_cons]
section
variable {H : Type} {enc : TypeId × Value → H} {P : Program} {tt : Tab} (hP : TabOk P tt) {w : World} {spare : Nat → Bool} {held : Bool}
theorem mapM_F2 {α β : Type} {f : α → Option β} : ∀ {l : List α} {r : List β}, l.mapM f = some r → F2 (fun a b => f a = some b) l r
 | [], r, h => by simp at h; subst h; exact .nil
 | a :: l, r, h => by
  simp only [List.mapM_cons, Option.bind_eq_bind, Option.pure_def] at h
  cases h1 : f a with
  | none => simp [h1] at h
  | some b =>
   cases h2 : l.mapM f with
   | none => simp [h1, h2] at h
   | some r' => simp [h1, h2] at h; subst h; exact .cons h1 (mapM_F2 h2)
theorem prodL_RT {F : FS} : ∀ {ts : List Ty} {css : List (List Value)}, F2 (fun t cs => ∃ x : t.den, RT w F t x cs ∧ Wf t x) ts css → ∃ x : (prodL ts).den, RT w F (prodL ts) x css.flatten ∧ Wf (prodL ts) x
 | [], _, h => by cases h; exact ⟨(() : Unit), (rfl : ([] : List Value) = []), trivial⟩
 | [t], _, h => by
  cases h with
  | cons h hr =>
   cases hr
   obtain ⟨x, h1, h2⟩ := h
   exact ⟨x, by rw [List.flatten_cons, List.flatten_nil, List.append_nil]; exact h1, h2⟩
 | t :: u :: l, _, h => by
  cases h with
  | cons h hr =>
   obtain ⟨x, h1, h2⟩ := h
   obtain ⟨y, h3, h4⟩ := prodL_RT hr
   refine ⟨(x, y), ?_, ⟨h2, h4⟩⟩
   rw [List.flatten_cons]
   exact RT_prod h1 h3
theorem pieces : ∀ {fs : List (Nat × Nat)} {ts : List Ty} (n : Nat) {cs : List Value}, offsOk n fs ts = true → (n + (ts.map Ty.size).sum = cs.length) → ((fs.zip ts).map (fun p => (cs.drop p.1.1).take p.2.size)).flatten = cs.drop n
 | [], [], n, cs, _, h => by simp at h; simp [h]
 | [], _ :: _, n, cs, h, _ => by simp [offsOk] at h
 | _ :: _, [], n, cs, h, _ => by simp [offsOk] at h
 | (off, T) :: fs, t :: ts, n, cs, h, hl => by
  simp only [offsOk, Bool.and_eq_true] at h
  have ho : off = n := Nat.eq_of_beq_eq_true h.1
  subst ho
  simp only [List.map_cons, List.sum_cons] at hl
  have ih := pieces (off + t.size) (cs := cs) h.2 (by omega)
  simp only [List.zip_cons_cons, List.map_cons, List.flatten_cons, ih]
  rw [← List.drop_drop, List.take_append_drop]
theorem allSome_F2 {α β : Type} {f : α → Option β} : ∀ {l : List α} {r : List β}, allSome (l.map f) = some r → F2 (fun a b => f a = some b) l r
 | [], r, h => by simp [allSome] at h; subst h; exact .nil
 | a :: l, r, h => by
  simp only [List.map_cons] at h
  cases h1 : f a with
  | none => rw [h1] at h; simp [allSome] at h
  | some b =>
   rw [h1] at h
   unfold allSome at h
   split at h <;> cases h
   rename_i r' h2
   exact .cons h1 (allSome_F2 h2)
theorem chunks (k sz : Nat) : ∀ (cs : List Value), cs.length = k * sz → ((List.range k).map fun i => (cs.drop (i * sz)).take sz).flatten = cs := by
 induction k with
 | zero => intro cs h; simp at h; simp [h]
 | succ k ih =>
  intro cs h
  rw [List.range_succ_eq_map, List.map_cons, List.flatten_cons, List.map_map]
  rw [Nat.add_mul] at h
  have := ih (cs.drop sz) (by simp; omega)
  have e : ((List.range k).map ((fun i => (cs.drop (i * sz)).take sz) ∘ Nat.succ)) = (List.range k).map fun i => ((cs.drop sz).drop (i * sz)).take sz := by
   apply List.map_congr_left
   intro i _
   simp only [Function.comp, List.drop_drop, Nat.succ_mul, Nat.add_comm]
  rw [e, this]
  simp
include hP
theorem cellsOf_tab {T : Nat} {i : TI} (h : tt T = some i) : P.cellsOf T = i.size := by
 obtain ⟨inf, z, h1, h2, _⟩ := tab_info hP h
 simp [Program.cellsOf, h1, h2]
theorem trod_RT : ∀ (n fuel T : Nat) {t : Ty} {cs : List Value} {x : DataW H × List MemPlace}, tyOf tt n T = some t → DataW.trod enc P w 0 spare held fuel T cs = some x → ∃ y : t.den, RT w (FW w) t y cs ∧ Wf t y
 | 0, _, _, _, _, _, ht, _ => by simp [tyOf] at ht
 | _ + 1, 0, _, _, _, _, _, h => by simp [DataW.trod] at h
 | n + 1, fuel + 1, T, t, cs, x, ht, h => by
  unfold tyOf at ht
  split at ht
  ·rename_i k hd
   cases ht
   have hu := td_int hP hd
   unfold DataW.trod at h
   rw [hu] at h
   split at h <;> try (simp at *; done)
   rename_i k1 k' m heq
   injection heq with heq
   injection heq with heq
   subst heq
   split at h
   case isFalse => cases h
   rename_i hc
   obtain ⟨rfl, hw⟩ := hc
   refine ⟨m, (rfl : [Value.int k' m] = [Value.int k' m]), ?_⟩
   show WfI k' m
   simp only [Lit.wf, Bool.and_eq_true, decide_eq_true_eq] at hw
   exact hw
  ·rename_i hd
   cases ht
   have hu := td_bool hP hd
   unfold DataW.trod at h
   rw [hu] at h
   split at h <;> simp_all
   rename_i b
   exact ⟨b, (rfl : [Value.bool b] = [Value.bool b]), trivial⟩
  ·rename_i hd
   cases ht
   have hu := td_str hP hd
   unfold DataW.trod at h
   rw [hu] at h
   split at h <;> simp_all
   rename_i s
   refine ⟨s, (rfl : [Value.string s] = [Value.string s]), ?_⟩
   have := h.1
   simp only [maxLen] at this
   exact this
  ·rename_i e hd
   split at ht <;> try cases ht
   rename_i te hte
   split at ht <;> cases ht
   rename_i hsz
   simp only [Bool.and_eq_true] at hsz
   have hpos : 0 < te.size := Nat.le_of_ble_eq_true hsz.2
   have hsz : tt.size e = te.size := Nat.eq_of_beq_eq_true hsz.1
   obtain ⟨hu, j, hj⟩ := td_slice hP hd
   rw [tab_size hj] at hsz
   have hce : P.cellsOf e = te.size := by rw [cellsOf_tab hP hj]; exact hsz
   have fin : ∀ (ys : (Ty.slice e te).den) (a : Option Addr) (c : Nat), (len (α := te.den) ys ≤ c ∧ (a = none → c = 0)) → len (α := te.den) ys ≤ 9223372036854775807 → (∀ y, List.Mem (α := te.den) y ys → Wf te y) →
     (len (α := te.den) ys = 0 ∨ ∃ ad, a = some ad ∧ ad.block < w.heap.size ∧ ∀ i y, nth (α := te.den) ys i = some y → ∃ vs, RT w (FW w) te y vs ∧ cellsAt w (ad.add (i * te.size)) vs) →
     ∃ y : (Ty.slice e te).den, RT w (FW w) (.slice e te) y [.slice a (len (α := te.den) ys) c] ∧ Wf (.slice e te) y := by
    intro ys a c h1 h2 h3 h4
    refine ⟨ys, ?_, ⟨h2, h3⟩⟩
    unfold RT
    exact ⟨a, c, rfl, h1, h4⟩
   unfold DataW.trod at h
   rw [hu] at h
   split at h <;> try (simp at *; done)
   ·exact fin [] none 0 ⟨Nat.le_refl _, fun _ => rfl⟩ (Nat.zero_le _) (fun y hy => by cases hy) (.inl rfl)
   ·rename_i e0 a len0 cap heq
    injection heq with heq
    injection heq with heq
    subst heq
    split at h
    case isFalse => cases h
    rename_i hb
    obtain ⟨_, hcap, hmax⟩ := hb
    obtain ⟨elems, h1, _⟩ := Option.bind_eq_some_iff.1 h
    have hF := mapM_F2 h1
    have hl : elems.length = len0 := by have := F2.length hF; simpa using this.symm
    have each : ∀ i, i < len0 → ∃ y : te.den, ∃ vs, RT w (FW w) te y vs ∧ Wf te y ∧ cellsAt w (a.add (i * te.size)) vs ∧ (0 < te.size → a.block < w.heap.size) := by
     intro i hi
     obtain ⟨b, _, hb⟩ := F2.get hF i i (by simp [hi])
     obtain ⟨vs, hv, hx⟩ := Option.bind_eq_some_iff.1 hb
     obtain ⟨y, hy, hw⟩ := trod_RT n fuel e hte hx
     rw [hce] at hv
     unfold World.cells? at hv
     rw [if_pos (Nat.zero_le _)] at hv
     have hG := mapM_F2 hv
     refine ⟨y, vs, hy, hw, fun j v hj => ?_, fun h0 => ?_⟩
     ·have hlt : j < te.size := by have := F2.length hG; simp at this; rw [this]; exact (List.getElem?_eq_some_iff.1 hj).1
      obtain ⟨u, hu1, hu2⟩ := F2.get hG j j (by simp [hlt])
      rw [hj] at hu1
      cases hu1
      exact hu2
     ·obtain ⟨u, hu1, hu2⟩ := F2.get hG 0 0 (by simp [h0])
      simpa using World.block_lt_of_cell? w _ hu2
    by_cases h0 : len0 = 0
    ·subst h0
     exact fin [] (some a) cap ⟨Nat.zero_le _, fun h => by cases h⟩ (Nat.zero_le _) (fun y hy => by cases hy) (.inl rfl)
    ·let ys : List te.den := (List.range len0).map fun i => if h : i < len0 then (each i h).choose else te.dflt
     have hys : ys.length = len0 := by simp [ys]
     have hget : ∀ (i : Nat) (y : te.den), ys[i]? = some y → ∃ h : i < len0, y = (each i h).choose := by
      intro i y hi
      have hlt : i < len0 := by rw [← hys]; exact (List.getElem?_eq_some_iff.1 hi).1
      refine ⟨hlt, ?_⟩
      simp only [ys, List.getElem?_map, List.getElem?_range hlt, Option.map_some, Option.some.injEq, dif_pos hlt] at hi
      exact hi.symm
     have := fin ys (some a) cap ⟨by show ys.length ≤ cap; omega, fun h => by cases h⟩ (by show ys.length ≤ _; simp only [maxLen] at hmax; omega) (fun y hy => by
      obtain ⟨i, hi⟩ := List.getElem?_of_mem (show y ∈ ys from hy)
      obtain ⟨hlt, rfl⟩ := hget i y hi
      obtain ⟨vs, _, k2, _⟩ := (each i hlt).choose_spec
      exact k2) (.inr ⟨a, rfl, by obtain ⟨y, vs, _, _, _, k4⟩ := each 0 (by omega); exact k4 hpos, fun i y hi => by
      obtain ⟨hlt, rfl⟩ := hget i y hi
      obtain ⟨vs, k1, _, k3, _⟩ := (each i hlt).choose_spec
      exact ⟨vs, k1, k3⟩⟩)
     rw [show len (α := te.den) ys = len0 from hys] at this
     exact this
  ·rename_i k e hd
   split at ht <;> try cases ht
   rename_i te hte
   split at ht <;> cases ht
   rename_i hsz
   simp only [Bool.and_eq_true] at hsz
   have hsz1 : tt.size e = te.size := Nat.eq_of_beq_eq_true hsz.1
   have hsz2 : tt.size T = k * te.size := Nat.eq_of_beq_eq_true hsz.2
   obtain ⟨hu, j, hj⟩ := td_array hP hd
   obtain ⟨i, hi, _⟩ := td_some (tt := tt) (T := T) (by rw [hd]; simp)
   rw [tab_size hj] at hsz1
   rw [tab_size hi] at hsz2
   have hce : P.cellsOf e = te.size := by rw [cellsOf_tab hP hj]; exact hsz1
   unfold DataW.trod at h
   rw [hu] at h
   simp only at h
   split at h
   case isFalse => cases h
   rename_i hlen
   rw [cellsOf_tab hP hi, hsz2] at hlen
   obtain ⟨xs, h1, _⟩ := Option.map_eq_some_iff.1 h
   have hF := mapM_F2 h1
   rw [hce] at hF
   have key : ∀ (l : List Nat) (xs : List (DataW H × List MemPlace)), F2 (fun i b => DataW.trod enc P w 0 spare held fuel e ((cs.drop (i * te.size)).take te.size) = some b) l xs →
     F2 (fun t cs => ∃ x : t.den, RT w (FW w) t x cs ∧ Wf t x) (List.replicate l.length te) (l.map fun i => (cs.drop (i * te.size)).take te.size) := by
    intro l xs hF
    induction hF with
    | nil => exact .nil
    | cons h _ ih => exact .cons (trod_RT n fuel e hte h) ih
   have := prodL_RT (key _ _ hF)
   rw [List.length_range, chunks _ _ _ hlen] at this
   exact this
  ·rename_i fs hd
   split at ht <;> try cases ht
   rename_i ts hts
   split at ht <;> cases ht
   rename_i hb
   simp only [Bool.and_eq_true, beq_iff_eq] at hb
   obtain ⟨hoff, hsz, hsizes⟩ := hb
   have hsz : tt.size T = (prodL ts).size := Nat.eq_of_beq_eq_true hsz
   obtain ⟨fields, hu, hfs, hk⟩ := td_struct hP hd
   obtain ⟨i, hi, _⟩ := td_some (tt := tt) (T := T) (by rw [hd]; simp)
   rw [tab_size hi, prodL_size] at hsz
   unfold DataW.trod at h
   rw [hu] at h
   simp only at h
   split at h
   case isFalse => cases h
   rename_i hlen
   rw [cellsOf_tab hP hi, hsz] at hlen
   obtain ⟨xs, h1, _⟩ := Option.map_eq_some_iff.1 h
   have hF := mapM_F2 h1
   have hT := allSome_F2 hts
   have key : ∀ (fl : List Field) (ts : List Ty) (xs : List (DataW H × List MemPlace)), (∀ f ∈ fl, ∃ j, tt f.type = some j) → F2 (fun f b => DataW.trod enc P w 0 spare held fuel f.type ((cs.drop f.offset).take (P.cellsOf f.type)) = some b) fl xs → F2 (fun (p : Nat × Nat) t => tyOf tt n p.2 = some t) (fl.map fun f => (f.offset, f.type)) ts →
     ((fl.map fun f => (f.offset, f.type)).map fun p => tt.size p.2) = ts.map Ty.size →
     F2 (fun t cs => ∃ x : t.den, RT w (FW w) t x cs ∧ Wf t x) ts (((fl.map fun f => (f.offset, f.type)).zip ts).map fun p => (cs.drop p.1.1).take p.2.size) := by
    intro fl
    induction fl with
    | nil => intro ts xs _ _ h2 _; cases h2; exact .nil
    | cons f fl ih =>
     intro ts xs hk h1 h2 h3
     cases h1 with
     | cons h1 hr1 =>
      cases h2 with
      | cons h2 hr2 =>
       simp only [List.map_cons, List.cons.injEq] at h3
       obtain ⟨j, hj⟩ := hk f (by simp)
       refine .cons ?_ (ih _ _ (fun f hf => hk f (by simp [hf])) hr1 hr2 h3.2)
       rw [cellsOf_tab hP hj, ← tab_size hj, h3.1] at h1
       exact trod_RT n fuel f.type h2 h1
   have := prodL_RT (key fields.toList ts xs (fun f hf => hk (f.offset, f.type) (by rw [hfs]; exact List.mem_map.2 ⟨f, hf, rfl⟩)) hF (by rw [← hfs]; exact hT) (by rw [← hfs]; exact hsizes))
   rw [← hfs, pieces 0 hoff (by omega), List.drop_zero] at this
   exact this
  ·cases ht
end
end Go.Proofs.YtfihdjjilofklaaGreat.Am
