/- Each operation of the abstract machine is sound, second part. -/
import Derived.Test.YtfihdjjilofklaaGreatAm4
import Derived.Laws.Tables
import Derived.Laws.StructEq
import Derived.Laws.Pointers
import Derived.Laws.Cover3
set_option linter.unusedVariables false
set_option linter.unusedSimpArgs false
namespace Go.Proofs.YtfihdjjilofklaaGreat.Am
open Go
section
variable {R : Type} {P : Program} {tt : Tab} (hP : TabOk P tt) {Γ : GamF} {pu : Prop} {g : Beg} {ρ : Nat → Value} {F : FS} {s : St} {a : Act} {w : World} {κ : St → Option R} {r : R} {o : Oper}
theorem foldl_zip_eq (off : Nat) : ∀ (us : List Value) (k : Nat) (cs : Array Value), (us.zipIdx k).foldl (fun (cs : Array Value) (p : Value × Nat) => cs.setIfInBounds (off + p.2) p.1) cs = ((us.foldl (fun (p : List Value × Nat) u => (p.1.set p.2 u, p.2 + 1)) (cs.toList, off + k)).1).toArray
 | [], k, cs => by simp
 | u :: us, k, cs => by
  simp only [List.zipIdx_cons, List.foldl_cons]
  rw [foldl_zip_eq off us (k + 1) _]
  simp [Nat.add_assoc]
theorem fill_ok {place : Nat → Option (Nat × Nat)} {N : Nat} : ∀ {parts : List (Nat × Operand)} {l l' : List AC} {vs : Array Value}, fillK place l (parts.map fun p => (p.1, s.ev p.2)) = some l' → CRs w ρ F N l vs.toList → N = s.mem.length → SX g ρ F s a w →
  ∃ us, Instr.fill place vs (parts.map fun p => (p.1, a.eval p.2)) = some us ∧ CRs w ρ F N l' us.toList
 | [], l, l', vs, h, hc, hN, hs => by
  simp [fillK] at h
  subst h
  exact ⟨vs, rfl, hc⟩
 | (i, x) :: parts, l, l', vs, h, hc, hN, hs => by
  simp only [List.map_cons] at h ⊢
  unfold fillK at h
  unfold Instr.fill
  cases hp : place i with
  | none => rw [hp] at h; simp at h
  | some q =>
   obtain ⟨off, size⟩ := q
   rw [hp] at h
   have hx := hs.ev x
   rw [← hN] at hx
   have key : s.ev x ≠ .one .any ∧ (∀ l, s.ev x ≠ .tup l) ∧ (s.ev x).cells.length = size ∧ off + size ≤ l.length ∧ fillK place (setCells l off (s.ev x).cells) (parts.map fun p => (p.1, s.ev p.2)) = some l' := by
    split at h
    ·cases h
    ·cases h
    ·rename_i z' v' heq n1 n2
     cases heq
     split at h
     ·rename_i hh
      exact ⟨fun e => n1 e, fun l e => n2 l e, hh.1, hh.2, h⟩
     ·cases h
    ·rename_i heq; cases heq
   obtain ⟨k1, k2, k3, k4, k5⟩ := key
   have hcx := VR_cells hx k1 k2
   have hsz := F2.length hcx
   have hl := F2.length hc
   have : (a.eval x).cells.size = size := by simp at hsz; omega
   simp only
   rw [if_neg (by simp [this] at *; omega)]
   have e := foldl_zip_eq off (a.eval x).cells.toList 0 vs
   rw [Nat.add_zero] at e
   have e2 : (a.eval x).cells.zipIdx.foldl (fun (cs : Array Value) (p : Value × Nat) => cs.setIfInBounds (off + p.2) p.1) vs = ((((a.eval x).cells.toList.foldl (fun (p : List Value × Nat) u => (p.1.set p.2 u, p.2 + 1)) (vs.toList, off)).1).toArray) := by
    rw [← e, ← Array.foldl_toList]
    simp
   have := fill_ok (N := N) (parts := parts) k5 (vs := (((a.eval x).cells.toList.foldl (fun (p : List Value × Nat) u => (p.1.set p.2 u, p.2 + 1)) (vs.toList, off)).1).toArray) (setCells_ok off hc hcx) hN hs
   rw [← e2] at this
   exact this
end
section
variable {R : Type} {P : Program} {tt : Tab} (hP : TabOk P tt) {Γ : GamF} {pu : Prop} {g : Beg} {ρ : Nat → Value} {F : FS} {s : St} {a : Act} {w : World} {κ : St → Option R} {r : R} {o : Oper}
include hP
theorem ok_build {T : Nat} {parts : Array (Nat × Operand)} (ho : o.op = .build T parts) (hs : SX g ρ F s a w) (h : absOp tt Γ s o κ = some r) : QG P w ρ F s κ r o a := by
 simp only [absOp, ho] at h
 split at h
 case h_2 => cases h
 rename_i i hT
 obtain ⟨z, h1, h2⟩ := zero_ok hP (w := w) (ρ := ρ) (F := F) (s := s) hT
 obtain ⟨d, h3, h4⟩ := tab_desc hP hT
 have hr := (hP T i hT).refs
 split at h
 ·rename_i fs hd
  rw [hd] at h4 hr
  cases d <;> simp [TD.of] at h4
  rename_i fields
  split at h <;> try cases h
  rename_i l hl
  have hpl : placeS tt fs = fun j => (fields.toList.map fun f => (f.offset, tt.size f.type)).toArray[j]? := by
   funext k
   unfold placeS
   rw [← h4]
   simp
   cases fields[k]? <;> rfl
  rw [hpl] at hl
  obtain ⟨us, h5, h6⟩ := fill_ok (vs := z.cells) hl h2 rfl hs
  refine qg (v := .agg us) (x := .agg l) (fun w' _ => ?_) ⟨us, rfl, h6⟩ h
  have hm : ∀ (fl : List Field), (∀ f ∈ fl, ∃ j, tt f.type = some j) → fl.mapM (fun f => (P.info? f.type).map fun i => (f.offset, i.size)) = some (fl.map fun f => (f.offset, tt.size f.type)) := by
   intro fl
   induction fl with
   | nil => intro _; rfl
   | cons f fl ih =>
    intro hk
    obtain ⟨j, hj⟩ := hk f (by simp)
    obtain ⟨inf, z', h7, h8, _⟩ := tab_info hP hj
    simp [List.mapM_cons, ih (fun f hf => hk f (by simp [hf])), h7, h8, tab_size hj]
  have hk := hm fields.toList (fun f hf => hr f.type (by
   rw [← h4]
   simp only [TD.refs, List.map_map, List.mem_map]
   exact ⟨f, hf, rfl⟩))
  obtain ⟨inf, z2, h9, h10, h11, h12, h13⟩ := tab_info hP hT
  have hz : z2 = z := by
   have : (zeroValue T).run P w = .ok z2 w := by simp [zeroValue, typeInfo, h9, h12]
   rw [this] at h1
   exact (Result.ok.inj h1).1
  subst hz
  have hb : P.built T ((parts.map fun p => (p.1, a.eval p.2)).toList) = some us := by
   unfold Program.built
   simp only [h9, h3, h12, hk]
   simpa using h5
  have := run_build w' T (parts.map fun p => (p.1, a.eval p.2)) us hb
  simp [execOp, ho, this]
 ·rename_i n e hd
  rw [hd] at h4 hr
  cases d <;> simp [TD.of] at h4
  obtain ⟨rfl, rfl⟩ := h4
  rename_i n e
  split at h <;> try cases h
  rename_i l hl
  obtain ⟨us, h5, h6⟩ := fill_ok (vs := z.cells) hl h2 rfl hs
  refine qg (v := .agg us) (x := .agg l) (fun w' _ => ?_) ⟨us, rfl, h6⟩ h
  obtain ⟨inf, z2, h9, h10, h11, h12, h13⟩ := tab_info hP hT
  have hz : z2 = z := by
   have : (zeroValue T).run P w = .ok z2 w := by simp [zeroValue, typeInfo, h9, h12]
   rw [this] at h1
   exact (Result.ok.inj h1).1
  subst hz
  obtain ⟨j, hj⟩ := hr e (by simp [TD.refs])
  obtain ⟨inf', z', h7, h8, _⟩ := tab_info hP hj
  rw [tab_size hj] at h5
  have hb : P.built T ((parts.map fun p => (p.1, a.eval p.2)).toList) = some us := by
   unfold Program.built
   simp only [h9, h3, h12, h7, h8]
   simpa using h5
  have := run_build w' T (parts.map fun p => (p.1, a.eval p.2)) us hb
  simp [execOp, ho, this]
 ·cases h
theorem ok_load {T : Nat} {x : Operand} (ho : o.op = .load T x) (hs : SX g ρ F s a w) (h : absOp tt Γ s o κ = some r) : QG P w ρ F s κ r o a := by
 simp only [absOp, ho] at h
 split at h <;> try cases h
 rename_i p hp
 have hx := hs.ev x
 rw [hp] at hx
 obtain ⟨v, u, ad, h1, had, h2, h3⟩ := absLoad_ok hP hs hx h
 refine qg (v := u) (fun w' hw' => ?_) h3 h1
 simp [execOp, ho, h2 w' ((hw'.resolve_left (by simp [freeOp, ho])) T x ad ho had)]
omit hP in
theorem ok_nilCheck {x : Operand} (ho : o.op = .nilCheck x) (hs : SX g ρ F s a w) (h : absOp tt Γ s o κ = some r) : QG P w ρ F s κ r o a := by
 simp only [absOp, ho] at h
 have hx := hs.ev x
 split at h <;> try cases h
 ·rename_i n i hp
  rw [hp] at hx
  have hc := VR.CR hx (by simp)
  obtain ⟨h1, b, h2, h3⟩ := hc
  refine qg (v := a.eval x) (fun w' hw' => ?_) hx h
  simp [execOp, ho, h3]
 ·rename_i t y i hp
  rw [hp] at hx
  have hc := VR.CR hx (by simp)
  obtain ⟨ad, vs, h3, _⟩ := hc
  refine qg (v := a.eval x) (fun w' hw' => ?_) hx h
  simp [execOp, ho, h3]
 ·rename_i n i z j hp
  rw [hp] at hx
  have hc := VR.CR hx (by simp)
  obtain ⟨h1, g, l, c, h2, h4, h3⟩ := hc
  refine qg (v := a.eval x) (fun w' hw' => ?_) hx h
  simp [execOp, ho, h3]
 ·rename_i f hp
  rw [hp] at hx
  have hc := VR.CR hx (by simp)
  unfold CR at hc
  refine qg (v := a.eval x) (fun w' hw' => ?_) hx h
  simp [execOp, ho, hc]
 ·rename_i i hp
  rw [hp] at hx
  have hc := VR.CR hx (by simp)
  obtain ⟨hi, h⟩ := chkA h
  have hi : 0 ≤ i := by simpa [leI] using hi
  rcases hc with ⟨h1, _⟩ | ⟨h1, b, h2, h3⟩
  ·omega
  ·refine qg (v := a.eval x) (x := .one (.np i 0)) (fun w' hw' => ?_) ⟨h1, b, h2, h3⟩ h
   simp [execOp, ho, h3]
 ·rename_i i j hp
  rw [hp] at hx
  have hc := VR.CR hx (by simp)
  obtain ⟨h1, b, h2, h3⟩ := hc
  refine qg (v := a.eval x) (fun w' hw' => ?_) hx h
  simp [execOp, ho, h3]
omit hP in
theorem run_eqGuard_int (op : BinOp) (T : Nat) (x y : Operand) (k k' : IntKind) (m n : Int) (w : World) : (eqGuard op T x y (.int k m) (.int k' n)).run P w = .ok () w := by
 unfold eqGuard
 split <;> rfl
omit hP in
theorem run_eqGuard_bool (op : BinOp) (T : Nat) (x y : Operand) (m n : Bool) (w : World) : (eqGuard op T x y (.bool m) (.bool n)).run P w = .ok () w := by
 unfold eqGuard
 split <;> rfl
omit hP in
theorem run_eqGuard_str (op : BinOp) (T : Nat) (x y : Operand) (m n : ByteArray) (w : World) : (eqGuard op T x y (.string m) (.string n)).run P w = .ok () w := by
 unfold eqGuard
 split <;> rfl
omit hP in
theorem eqI_beq (a b : Int) : (a == b) = eqI a b := by
 unfold eqI
 by_cases h : a = b <;> simp [h]
omit hP in
theorem binI_ok {op : BinOp} {k : IntKind} {m n : Int} {c : AC} {T : Nat} (h1 : op ≠ .shl) (h2 : op ≠ .shr) (h : binI op k m n = some c) : ∃ v, (∀ w', (binOp op T (.int k m) (.int k n)).run P w' = .ok v w') ∧ VR w ρ F s.mem.length (.one c) v := by
 cases op <;> simp [binI] at h <;> first | exact absurd rfl h1 | exact absurd rfl h2 | skip
 all_goals subst h
 all_goals simp only [binOp, ne_eq, not_true_eq_false, if_false]
 all_goals first
  | exact ⟨_, fun _ => rfl, rfl⟩
  | (refine ⟨_, fun _ => rfl, ?_⟩; show CR _ _ _ _ _ _; unfold CR; first | rfl | (rw [← eqI_beq]; rfl) | (rw [← eqI_beq]; cases h : (m == n) <;> simp [h, bne]))
theorem part_ok {U off : Nat} {ag : Bool} {l l' : List AC} {vs : Array Value} {x : AV} (hag : tt.isAgg U = some ag) (hc : CRs w ρ F s.mem.length l vs.toList) (hl : cut l off (tt.size U) = some l') (hm : mkv ag l' = some x) :
  ∃ v, (∀ w', (part U vs off).run P w' = .ok v w') ∧ VR w ρ F s.mem.length x v := by
 obtain ⟨_, i, h2⟩ := run_isAgg' hP hag w
 have h1 := fun w' => (run_isAgg' hP hag w').1
 obtain ⟨h3, h4⟩ := cut_ok hl hc
 unfold part
 cases ag with
 | true =>
  simp only [mkv, Option.some.injEq] at hm
  subst hm
  refine ⟨.agg (vs.extract off (off + i.size)), fun w' => by simp [h1, run_size hP h2], ⟨_, rfl, ?_⟩⟩
  rw [tab_size h2] at h3
  rw [Array.toList_extract, List.extract_eq_take_drop]
  have : off + i.size - off = i.size := by omega
  rw [this]
  exact h3
 | false =>
  match l', hm with
  | [c], hm =>
   simp only [mkv, Option.some.injEq] at hm
   subst hm
   obtain ⟨v, h5, h6⟩ := F2.get h3 0 c (by simp)
   refine ⟨v, fun w' => ?_, VR.of_CR h6⟩
   rw [List.getElem?_take] at h5
   split at h5
   ·rw [List.getElem?_drop, Nat.add_zero, Array.getElem?_toList] at h5
    simp [h1, h5]
   ·cases h5
omit hP in
theorem eqT_mk {n T : Nat} {l1 l2 : List AC} {z : Bool} (h : eqT tt n T l1 l2 = some z) : ∃ ag x y, tt.isAgg T = some ag ∧ mkv ag l1 = some x ∧ mkv ag l2 = some y := by
 cases n with
 | zero => simp [eqT] at h
 | succ n =>
  cases hT : tt T with
  | none => simp [eqT, hT] at h
  | some i =>
   simp only [eqT, hT] at h
   simp only [Tab.isAgg, hT]
   cases hd : i.d <;> simp only [hd] at h ⊢ <;> try cases h
   case int k =>
    split at h <;> try cases h
    exact ⟨false, _, _, rfl, rfl, rfl⟩
   case bool =>
    split at h <;> try cases h
    exact ⟨false, _, _, rfl, rfl, rfl⟩
   case str =>
    split at h <;> try cases h
    exact ⟨false, _, _, rfl, rfl, rfl⟩
   case struct fs => exact ⟨true, _, _, rfl, rfl, rfl⟩
theorem eqT_ok {N : Nat} : ∀ (n T : Nat) {l1 l2 : List AC} {z : Bool}, eqT tt n T l1 l2 = some z → ∀ {ag : Bool} {x y : AV}, tt.isAgg T = some ag → mkv ag l1 = some x → mkv ag l2 = some y → ∀ {u v : Value}, VR w ρ F N x u → VR w ρ F N y v → ∀ d, n ≤ d → ∀ w' : World, (Op.equalIn d T u v).run P w' = .ok z w'
 | 0, _, _, _, _, h, _, _, _, _, _, _, _, _, _, _, _, _, _ => by simp [eqT] at h
 | n + 1, T, l1, l2, z, h, ag, x, y, hag, hx, hy, u, v, hu, hv, d, hd, w' => by
  obtain ⟨d, rfl⟩ : ∃ d', d = d' + 1 := ⟨d - 1, by omega⟩
  cases hT : tt T with
  | none => simp [eqT, hT] at h
  | some i =>
  simp only [eqT, hT] at h
  have htd : tt.td T = i.d := by unfold Tab.td; rw [hT]
  simp only [Tab.isAgg, hT] at hag
  split at h
  ·rename_i k hd
   rw [hd] at hag htd
   cases hag
   split at h <;> try cases h
   rename_i k1 m k2 m'
   split at h <;> cases h
   rename_i hk
   subst hk
   simp only [mkv, Option.some.injEq] at hx hy
   subst hx
   subst hy
   have h1 : u = .int k1 m := VR.CR hu (by simp)
   have h2 : v = .int k1 m' := VR.CR hv (by simp)
   rw [h1, h2, run_equalIn_int w' d T k1 k m m' (td_int hP htd), eqI_beq]
  ·rename_i hd
   rw [hd] at hag htd
   cases hag
   split at h <;> cases h
   rename_i m m'
   simp only [mkv, Option.some.injEq] at hx hy
   subst hx
   subst hy
   have h1 : u = .bool m := VR.CR hu (by simp)
   have h2 : v = .bool m' := VR.CR hv (by simp)
   rw [h1, h2, run_equalIn_bool' w' d T m m' (td_bool hP htd)]
  ·rename_i hd
   rw [hd] at hag htd
   cases hag
   split at h <;> cases h
   rename_i m m'
   simp only [mkv, Option.some.injEq] at hx hy
   subst hx
   subst hy
   have h1 : u = .string m := VR.CR hu (by simp)
   have h2 : v = .string m' := VR.CR hv (by simp)
   rw [h1, h2, run_equalIn_string w' d T m m' (td_str hP htd)]
  ·rename_i fs hd
   rw [hd] at hag htd
   cases hag
   split at h
   case isFalse => cases h
   rename_i heq
   simp only [mkv, Option.some.injEq] at hx hy
   subst hx
   subst hy
   obtain ⟨us, rfl, hu⟩ := hu
   obtain ⟨vs, rfl, hv⟩ := hv
   obtain ⟨fields, hun, hfs, hk⟩ := td_struct hP htd
   obtain ⟨q1, q2, q3⟩ := (hP T i hT).eqb heq
   have q3 := q3 fields hun
   have hfo : P.fieldsOf T = fields := by unfold Program.fieldsOf; rw [hun]
   rw [run_equalIn_struct w' d T us vs (by rw [hfo]; exact hun) q1, hfo]
   have key : ∀ (fl : List Field) (z : Bool), (∀ f ∈ fl, f.name ≠ "_") → eqFs tt (eqT tt n) (fl.map fun f => (f.offset, f.type)) l1 l2 = some z → (Op.eqFields d us vs fl).run P w' = .ok z w' := by
    intro fl
    induction fl with
    | nil => intro z _ h; simp [eqFs] at h; subst h; simp [Op.eqFields]
    | cons f fl ih =>
     intro z hn h
     simp only [List.map_cons] at h
     unfold eqFs at h
     split at h <;> try cases h
     rename_i a' b' h1 h2
     split at h <;> cases h
     rename_i z1 z2 h3 h4
     obtain ⟨ag, x, y, g1, g2, g3⟩ := eqT_mk h3
     obtain ⟨v1, g4, g5⟩ := part_ok hP (s := ⟨[], List.replicate N .gone⟩) (w := w) (ρ := ρ) (F := F) g1 (by simpa using hu) h1 g2
     obtain ⟨v2, g6, g7⟩ := part_ok hP (s := ⟨[], List.replicate N .gone⟩) (w := w) (ρ := ρ) (F := F) g1 (by simpa using hv) h2 g3
     have g8 := eqT_ok n f.type h3 g1 g2 g3 (by simpa using g5) (by simpa using g7) d (by omega) w'
     unfold Op.eqFields
     rw [if_pos (hn f (by simp))]
     simp only [Sem.run_bind, g4, g6, g8, Result.andThen_ok]
     cases z1 with
     | false => simp
     | true =>
      simp only [Bool.not_true, Bool.false_eq_true, if_false, Bool.true_and]
      exact ih z2 (fun f hf => hn f (by simp [hf])) h4
   exact key fields.toList z (fun f hf => by
    have := List.all_eq_true.1 q3 f hf
    simpa using this) (by rw [← hfs]; exact h)
  ·cases h
theorem ok_binOp {op : BinOp} {T U : Nat} {x y : Operand} (ho : o.op = .binOp op T x y U) (hs : SX g ρ F s a w) (h : absOp tt Γ s o κ = some r) : QG P w ρ F s κ r o a := by
 simp only [absOp, ho] at h
 have hx := hs.ev x
 have hy := hs.ev y
 unfold absBin at h
 split at h
 ·rename_i k m k' n e1 e2
  rw [e1] at hx
  rw [e2] at hy
  have hcx : a.eval x = .int k m := VR.CR hx (by simp)
  have hcy : a.eval y = .int k' n := VR.CR hy (by simp)
  split at h
  ·cases hb : ltI n 0 <;> rw [hb] at h <;> simp at h
   refine qg (v := _) (fun w' hw' => ?_) (VR.of_CR (c := .int k _) rfl) h
   have : ¬ n < 0 := by simpa [ltI] using hb
   simp [execOp, ho, hcx, hcy, run_eqGuard_int, binOp, Op.shift, this]
  ·cases hb : ltI n 0 <;> rw [hb] at h <;> simp at h
   refine qg (v := _) (fun w' hw' => ?_) (VR.of_CR (c := .int k _) rfl) h
   have : ¬ n < 0 := by simpa [ltI] using hb
   simp [execOp, ho, hcx, hcy, run_eqGuard_int, binOp, Op.shift, this]
  ·split at h <;> try cases h
   rename_i hk
   subst hk
   cases hb : eqI n 0 <;> rw [hb] at h <;> simp at h
   refine qg (v := _) (fun w' hw' => ?_) (VR.of_CR (c := .int k _) rfl) h
   have : ¬ n = 0 := by simpa [eqI] using hb
   simp [execOp, ho, hcx, hcy, run_eqGuard_int, binOp, Op.intDiv, this]
  ·split at h <;> try cases h
   rename_i hk
   subst hk
   cases hb : eqI n 0 <;> rw [hb] at h <;> simp at h
   refine qg (v := _) (fun w' hw' => ?_) (VR.of_CR (c := .int k _) rfl) h
   have : ¬ n = 0 := by simpa [eqI] using hb
   simp [execOp, ho, hcx, hcy, run_eqGuard_int, binOp, Op.intDiv, this]
  ·rename_i n1 n2 n3 n4
   split at h <;> try cases h
   rename_i hk
   subst hk
   split at h <;> try cases h
   rename_i c hc
   obtain ⟨v, h1, h2⟩ := binI_ok (P := P) (T := T) (w := w) (ρ := ρ) (F := F) (s := s) n1 n2 hc
   refine qg (v := v) (fun w' hw' => ?_) h2 h
   simp [execOp, ho, hcx, hcy, run_eqGuard_int, h1]
 ·rename_i m n e1 e2
  rw [e1] at hx
  rw [e2] at hy
  have hcx : a.eval x = .bool m := VR.CR hx (by simp)
  have hcy : a.eval y = .bool n := VR.CR hy (by simp)
  split at h <;> try cases h
  rename_i hb
  have hu := td_bool hP hb
  split at h <;> try cases h
  ·refine qg (v := _) (fun w' hw' => ?_) (VR.of_CR (c := .bool _) rfl) h
   simp [execOp, ho, hcx, hcy, run_eqGuard_bool, run_eql_bool w' T m n hu]
  ·refine qg (v := _) (fun w' hw' => ?_) (VR.of_CR (c := .bool _) rfl) h
   simp [execOp, ho, hcx, hcy, run_eqGuard_bool, run_neq_bool w' T m n hu]
 ·rename_i m n e1 e2
  rw [e1] at hx
  rw [e2] at hy
  have hcx : a.eval x = .string m := VR.CR hx (by simp)
  have hcy : a.eval y = .string n := VR.CR hy (by simp)
  split at h <;> try cases h
  ·cases hb : decide (m.size + n.size ≤ 9223372036854775807) <;> rw [hb] at h <;> simp [chk] at h
   have hb : m.size + n.size ≤ 9223372036854775807 := by simpa using hb
   refine qg (v := .string (m ++ n)) (fun w' hw' => ?_) (VR.of_CR (c := .str _) rfl) h
   have : ¬ (((m.size + n.size : Nat) : Int) > IntKind.i64.max) := by simp [IntKind.max, IntKind.signed, IntKind.bits]; omega
   simp only [Int.natCast_add] at this
   simp [execOp, ho, hcx, hcy, run_eqGuard_str, binOp, Op.stringOp, this]
   omega
  all_goals
   refine qg (v := .bool _) (fun w' hw' => ?_) (VR.of_CR (c := .bool _) rfl) h
   simp [execOp, ho, hcx, hcy, run_eqGuard_str, binOp, Op.stringOp]
 ·rename_i l1 l2 e1 e2
  rw [e1] at hx
  rw [e2] at hy
  split at h
  case h_2 => cases h
  rename_i z hag hz
  obtain ⟨us, hu, hcu⟩ := id hx
  obtain ⟨vs, hv, hcv⟩ := id hy
  have hrun := eqT_ok hP (d := 10000) 6 T hz hag (x := .agg l1) (y := .agg l2) rfl rfl hx hy (by omega)
  obtain ⟨i, hT⟩ := (run_isAgg' hP hag w).2
  have hg : P.eqGuardType P.depth T = false := by
   have htd : tt.td T = i.d := by unfold Tab.td; rw [hT]
   simp only [eqT, hT] at hz
   simp only [Tab.isAgg, hT] at hag
   cases hd : i.d <;> simp only [hd] at hz hag <;> try cases hz
   all_goals try cases hag
   rename_i fs
   split at hz
   ·rename_i heq; exact ((hP T i hT).eqb heq).2.1
   ·cases hz
  rw [hu, hv] at hrun
  split at h <;> try cases h
  ·refine qg (v := .bool _) (fun w' hw' => ?_) (VR.of_CR (c := .bool _) rfl) h
   simp [execOp, ho, hu, hv, run_eqGuard_agg, hg, run_eql_struct, hrun]
  ·refine qg (v := .bool _) (fun w' hw' => ?_) (VR.of_CR (c := .bool _) rfl) h
   simp [execOp, ho, hu, hv, run_eqGuard_agg, hg, run_neq_struct, hrun]
 ·rename_i c d n1 n2 n3 e1 e2
  rw [e1] at hx
  rw [e2] at hy
  split at h
  case h_2 => cases h
  rename_i z hz
  have fin : ∀ (hq : ∀ w' : World, (eqGuard op T x y (a.eval x) (a.eval y)).run P w' = .ok () w') (he : ∀ w' : World, (binOp .eql T (a.eval x) (a.eval y)).run P w' = .ok (.bool z) w') (hn : ∀ w' : World, (binOp .neq T (a.eval x) (a.eval y)).run P w' = .ok (.bool (!z)) w'), QG P w ρ F s κ r o a := by
   intro hq he hn
   split at h <;> try cases h
   ·refine qg (v := .bool _) (fun w' hw' => ?_) (VR.of_CR (c := .bool _) rfl) h
    simp [execOp, ho, hq, he]
   ·refine qg (v := .bool _) (fun w' hw' => ?_) (VR.of_CR (c := .bool _) rfl) h
    simp [execOp, ho, hq, hn]
  have hgu : ∀ (v u : Value) (w' : World), v ≠ .nilIface → (∀ l, v ≠ .agg l) → (eqGuard op T x y v u).run P w' = .ok () w' := by
   intro v u w' h1 h2
   unfold eqGuard
   cases op <;> try rfl
   all_goals cases v <;> first | exact absurd rfl h1 | exact absurd rfl (h2 _) | (cases u <;> rfl)
  have hsl : ∀ (e : Nat) (b : Option Addr) (l cc : Nat), P.underlying T = some (.slice e) → a.eval x = .slice b l cc → a.eval y = .slice none 0 0 → z = b.isNone → QG P w ρ F s κ r o a := by
   intro e b l cc hu hv hv2 hzb
   subst hzb
   refine fin (fun w' => ?_) (fun w' => ?_) (fun w' => ?_)
   ·rw [hv]; exact hgu _ _ w' (by simp) (by simp)
   ·rw [hv, hv2]
    simp only [binOp]
    simp [run_equal_slice_nil w' T e b l cc hu]
   ·rw [hv, hv2]
    exact run_neq_slice_nil w' T e b l cc hu
  have hpt : ∀ (e : Nat) (b : Option Addr), P.underlying T = some (.pointer e) → a.eval x = .pointer b → a.eval y = .pointer none → z = b.isNone → QG P w ρ F s κ r o a := by
   intro e b hu hv hv2 hzb
   subst hzb
   have hu' : P.underlying T = some (.pointer (P.pointee T)) := by unfold Program.pointee; rw [hu]
   refine fin (fun w' => ?_) (fun w' => ?_) (fun w' => ?_)
   ·rw [hv]; exact hgu _ _ w' (by simp) (by simp)
   ·rw [hv, hv2]; exact run_eql_pointer_nil w' T b hu'
   ·rw [hv, hv2]; exact run_neq_pointer_nil w' T b hu'
  cases hd : tt.td T with
  | slice e =>
   have hu := (td_slice hP hd).1
   rw [hd] at hz
   cases c <;> try (simp [AC.isNil] at hz; done)
   case frn e0 t xs =>
    cases d <;> simp [AC.isNil] at hz
    obtain ⟨_, b, l, cc, hv⟩ := VR.CR hx (by simp)
    exact hsl e _ l cc hu hv (VR.CR hy (by simp)) (by simp [← hz])
   case nilS =>
    cases d <;> simp [AC.isNil] at hz
    exact hsl e none 0 0 hu (VR.CR hx (by simp)) (VR.CR hy (by simp)) (by simp [← hz])
   case kd i n =>
    cases d <;> simp [AC.isNil] at hz
    obtain ⟨_, h2, _, ⟨h4, h5⟩ | ⟨h4, b, c, h5⟩⟩ := VR.CR hx (by simp)
    ·exact hsl e none 0 0 hu h5 (VR.CR hy (by simp)) (by simp [← hz, eqI, h4])
    ·exact hsl e _ _ _ hu h5 (VR.CR hy (by simp)) (by rw [← hz]; simp [eqI]; omega)
  | ptr e =>
   have hu := td_ptr hP hd
   rw [hd] at hz
   cases c <;> try (simp [AC.isNil] at hz; done)
   case ptr n off =>
    cases d <;> simp [AC.isNil] at hz
    obtain ⟨_, b, _, hv⟩ := VR.CR hx (by simp)
    exact hpt e _ hu hv (VR.CR hy (by simp)) (by simp [← hz])
   case nilP =>
    cases d <;> simp [AC.isNil] at hz
    exact hpt e none hu (VR.CR hx (by simp)) (VR.CR hy (by simp)) (by simp [← hz])
  | _ => rw [hd] at hz; simp [AC.isNil] at hz
 ·cases h
omit hP in
theorem ok_unOp {op : UnOp} {T : Nat} {x : Operand} (ho : o.op = .unOp op T x) (hs : SX g ρ F s a w) (h : absOp tt Γ s o κ = some r) : QG P w ρ F s κ r o a := by
 simp only [absOp, ho] at h
 have hx := hs.ev x
 split at h <;> try cases h
 ·rename_i k n e
  rw [e] at hx
  have hcx : a.eval x = .int k n := VR.CR hx (by simp)
  refine qg (v := _) (fun w' hw' => ?_) (VR.of_CR (c := .int k _) rfl) h
  simp [execOp, ho, hcx, Op.unary, Op.intArith]
 ·rename_i k n e
  rw [e] at hx
  have hcx : a.eval x = .int k n := VR.CR hx (by simp)
  refine qg (v := _) (fun w' hw' => ?_) (VR.of_CR (c := .int k _) rfl) h
  simp [execOp, ho, hcx, Op.unary, intBits_xor]
 ·rename_i b e
  rw [e] at hx
  have hcx : a.eval x = .bool b := VR.CR hx (by simp)
  refine qg (v := _) (fun w' hw' => ?_) (VR.of_CR (c := .bool _) rfl) h
  simp [execOp, ho, hcx, Op.unary]
theorem ok_convert {T U : Nat} {x : Operand} (ho : o.op = .convert T U x) (hb : bySl T = false) (hs : SX g ρ F s a w) (h : absOp tt Γ s o κ = some r) : QG P w ρ F s κ r o a := by
 simp only [absOp, ho] at h
 have hx := hs.ev x
 split at h <;> try cases h
 ·rename_i k1 k k' n e1 e2 e
  rw [e] at hx
  have hcx : a.eval x = .int k' n := VR.CR hx (by simp)
  have h1 := td_int hP e1
  have h2 := td_int hP e2
  refine qg (v := _) (fun w' hw' => ?_) (VR.of_CR (c := .int k _) rfl) h
  simp [execOp, ho, hcx, convert, run_underlying h1, run_underlying h2, Conv.intToInt]
 ·rename_i b e1 e2 e
  rw [e] at hx
  have hcx : a.eval x = .string b := VR.CR hx (by simp)
  have h1 := td_str hP e1
  have h2 := td_str hP e2
  refine qg (v := _) (fun w' hw' => ?_) (VR.of_CR (c := .str _) rfl) h
  simp [execOp, ho, hcx, convert, run_underlying h1, run_underlying h2]
 ·split at h <;> try cases h
  rw [hb] at h
  cases h
 ·split at h <;> try cases h
  rw [hb] at h
  cases h
end
end Go.Proofs.YtfihdjjilofklaaGreat.Am
