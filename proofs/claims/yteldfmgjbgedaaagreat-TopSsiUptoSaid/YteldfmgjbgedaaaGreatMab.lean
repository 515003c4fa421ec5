/-
  Maps, by functions from key values to element values: MapF (a map), RangeF (a range under way); the laws at the operations.
  The keys of the maps; package lock: Holder, Take.
-/
import Derived.Test.YteldfmgjbgedaaaGreatSx
import Derived.Maps.RangeWalk
namespace Go.Proofs.YteldfmgjbgedaaaGreat
open Go.RowKit Go.Maps

/-- Any element reads as itself. -/
def anyElem (v : Value) : Option (DataW Value × List MemPlace) := some (.held v, [])

def encO : Option Value → DataW Value
  | some v => .held v
  | none => .nil

theorem encO_inj {a b : Option Value} (h : encO a = encO b) : a = b := by
  cases a <;> cases b <;> simp_all [encO]

/-- f says what datum D holds. -/
structure FitF (k : TypeId) (D : DataW Value) (f : Value → Option Value) : Prop where
  at_ : ∀ v kl, keyOf Tryz.prog k v = some kl → D.atKey kl .nil = encO (f v)
  has_ : ∀ v kl, keyOf Tryz.prog k v = some kl → Maps.has D kl = (f v).isSome
  off : ∀ v, keyOf Tryz.prog k v = none → f v = none
  all : ∀ kl, Maps.has D kl = true → ∃ v, keyOf Tryz.prog k v = some kl

/-- Block b is a map that holds f, of at most n entries. -/
def MapF (w : World) (k : TypeId) (b n : Nat) (f : Value → Option Value) : Prop := ∃ D, w.ownsMap Tryz.prog k anyElem b n D ∧ FitF k D f

/-- f with x at key v. -/
noncomputable def updF (f : Value → Option Value) (v : Value) (x : Option Value) : Value → Option Value := fun u => by
  classical exact if u = v then x else f u
theorem updF_same (f : Value → Option Value) (v : Value) (x : Option Value) : updF f v x v = x := by simp [updF]
theorem updF_ne (f : Value → Option Value) {u v : Value} (x : Option Value) (h : u ≠ v) : updF f v x u = f u := by simp [updF, h]

theorem has_key {k : TypeId} {w : World} {b n : Nat} {D : DataW Value} (h : w.ownsMap Tryz.prog k anyElem b n D) (kl : Lit) (hh : Maps.has D kl = true) : ∃ v, keyOf Tryz.prog k v = some kl := by
  obtain ⟨es, clock, _, F, _, rfl⟩ := h
  obtain ⟨p, hp, hpk⟩ := List.any_eq_true.1 hh
  obtain ⟨x, hx, rfl⟩ := List.mem_map.1 (mem_sorted.1 hp)
  obtain ⟨y, hy⟩ := F.reads x hx
  have := WideAt.sameKey_eq hpk
  rw [WideElems.rg_of hy] at this
  exact ⟨x.key, this ▸ WideElems.rd_key hy⟩

theorem grown_fr {w w' : World} {b : Nat} (h : w.grownBy w' (some b)) : Fr (fun k => k = b) w w' := ⟨h.os, h.tape, h.output, h.size, fun i hi hne => h.block i hi (fun e => hne (Option.some.inj e))⟩
theorem grown_fr0 {w w' : World} (h : w.grownBy w' none) : Fr (fun _ => False) w w' := ⟨h.os, h.tape, h.output, h.size, fun i hi _ => h.block i hi (by simp)⟩
theorem fr_grown {w w' : World} {b : Nat} (h : Fr (fun k => k = b) w w') : w.grownBy w' (some b) := ⟨h.os, h.tape, h.output, h.size, fun i hi hne => h.block i hi (fun e => hne (by rw [e]))⟩

section
variable {k : TypeId} {w : World} {b n : Nat} {f : Value → Option Value}

theorem MapF.lt (h : MapF w k b n f) : b < w.heap.size := h.elim fun _ h => h.1.lt
theorem MapF.mono (h : MapF w k b n f) {n' : Nat} (hn : n ≤ n') : MapF w k b n' f := h.elim fun D h => ⟨D, h.1.mono hn, h.2⟩
theorem MapF.congr (h : MapF w k b n f) {w' : World} (e : w'.heap[b]? = w.heap[b]?) : MapF w' k b n f := by
  obtain ⟨D, ⟨es, clock, hb, r⟩, F⟩ := h
  exact ⟨D, ⟨es, clock, e.trans hb, r⟩, F⟩
theorem MapF.fr (h : MapF w k b n f) {w' : World} {F : Nat → Prop} (hf : Fr F w w') (hb : ¬ F b) : MapF w' k b n f := h.congr (hf.block b h.lt hb)
theorem MapF.made (w : World) (k : TypeId) (b : Nat) (h : w.heap[b]? = some (.map #[] 0)) : MapF w k b 0 (fun _ => none) :=
  ⟨.map [], ⟨#[], 0, h, ⟨by simp, MapKept.stamped_empty 0, by simp⟩, Nat.le_refl _, rfl⟩, ⟨fun _ _ _ => rfl, fun _ _ _ => rfl, fun _ _ => rfl, fun _ h => by cases h⟩⟩

theorem MapF.size0 (K : Keyed Tryz.prog k) (h0 : ∀ v, f v = none) {D : DataW Value} (ho : w.ownsMap Tryz.prog k anyElem b n D) (F : FitF k D f) : Maps.size D = 0 := by
  obtain ⟨es, rfl, -, -⟩ := ho.entries K
  cases es with
  | nil => rfl
  | cons p r =>
    obtain ⟨v, hv⟩ := has_key ho p.1 (by
      rw [Maps.has_eq]
      refine List.any_eq_true.2 ⟨p, by simp, ?_⟩
      obtain ⟨es', h1, -, h3⟩ := ho.entries K
      injection h1 with h1
      exact WideAt.sameKey_self (h3 p (by rw [← h1]; simp)))
    have := F.has_ v p.1 hv
    rw [h0, Maps.has_eq] at this
    simp only [List.any_cons, WideAt.sameKey_self (K.key hv), Bool.true_or] at this
    cases this

theorem FitF.put {D : DataW Value} (F : FitF k D f) (K : Keyed Tryz.prog k) (hD : Maps.IsMap D) {key x : Value} {kl : Lit} (hkey : keyOf Tryz.prog k key = some kl) : FitF k (D.put kl (.held x)) (updF f key (some x)) := by
  have ne : ∀ v kl', keyOf Tryz.prog k v = some kl' → v ≠ key → kl' ≠ kl := fun v kl' hv hne e => hne (K.inj hv (e ▸ hkey))
  refine ⟨fun v kl' hv => ?_, fun v kl' hv => ?_, fun v hv => ?_, fun kl' hh => ?_⟩
  · by_cases hvk : v = key
    · subst hvk; obtain rfl : kl' = kl := Option.some.inj (hv.symm.trans hkey)
      rw [updF_same, Maps.atKey_put_same hD (K.key hkey)]; rfl
    · rw [updF_ne f _ hvk, Maps.atKey_put_other (ne v kl' hv hvk)]; exact F.at_ v kl' hv
  · by_cases hvk : v = key
    · subst hvk; obtain rfl : kl' = kl := Option.some.inj (hv.symm.trans hkey)
      rw [updF_same, Maps.has_put_same hD (K.key hkey)]; rfl
    · rw [updF_ne f _ hvk, Maps.has_put_other (ne v kl' hv hvk)]; exact F.has_ v kl' hv
  · rw [updF_ne f _ (fun e => by rw [e, hkey] at hv; cases hv)]; exact F.off v hv
  · by_cases hkk : kl' = kl
    · exact ⟨key, hkk ▸ hkey⟩
    · rw [Maps.has_put_other hkk] at hh; exact F.all kl' hh

theorem FitF.del {D : DataW Value} (F : FitF k D f) (K : Keyed Tryz.prog k) {key : Value} {kl : Lit} (hkey : keyOf Tryz.prog k key = some kl) : FitF k (D.del kl) (updF f key none) := by
  have ne : ∀ v kl', keyOf Tryz.prog k v = some kl' → v ≠ key → kl' ≠ kl := fun v kl' hv hne e => hne (K.inj hv (e ▸ hkey))
  refine ⟨fun v kl' hv => ?_, fun v kl' hv => ?_, fun v hv => ?_, fun kl' hh => ?_⟩
  · by_cases hvk : v = key
    · subst hvk; obtain rfl : kl' = kl := Option.some.inj (hv.symm.trans hkey)
      rw [updF_same, Maps.atKey_del_same]; rfl
    · rw [updF_ne f _ hvk, Maps.atKey_del_other (ne v kl' hv hvk)]; exact F.at_ v kl' hv
  · by_cases hvk : v = key
    · subst hvk; obtain rfl : kl' = kl := Option.some.inj (hv.symm.trans hkey)
      rw [updF_same, Maps.has_del_same]; rfl
    · rw [updF_ne f _ hvk, Maps.has_del_other (ne v kl' hv hvk)]; exact F.has_ v kl' hv
  · by_cases hvk : v = key
    · subst hvk; rw [hkey] at hv; cases hv
    · rw [updF_ne f _ hvk]; exact F.off v hv
  · by_cases hkk : kl' = kl
    · exact ⟨key, hkk ▸ hkey⟩
    · rw [Maps.has_del_other hkk] at hh; exact F.all kl' hh

/-- A range over the map in block b is under way (its iterator: block r); left: the keys that are still to come. -/
def RangeF (w : World) (k : TypeId) (b r n : Nat) (f : Value → Option Value) (left : Value → Prop) (cnt : Nat) : Prop :=
  ∃ D lf, w.ranges Tryz.prog k anyElem b r n D lf cnt ∧ FitF k D f ∧ ∀ v, left v ↔ ∃ kl, keyOf Tryz.prog k v = some kl ∧ lf kl = true

variable {r cnt : Nat} {left : Value → Prop}
theorem RangeF.map (h : RangeF w k b r n f left cnt) : MapF w k b n f := by obtain ⟨D, lf, h, F, _⟩ := h; exact ⟨D, h.owns, F⟩
theorem RangeF.lt (h : RangeF w k b r n f left cnt) : r < w.heap.size := by obtain ⟨D, lf, h, _⟩ := h; exact h.lt
theorem RangeF.ne (h : RangeF w k b r n f left cnt) : r ≠ b := by obtain ⟨D, lf, h, _⟩ := h; exact h.ne
theorem RangeF.left_eq (h : RangeF w k b r n f left cnt) : w.rangeLeft b r = cnt := by obtain ⟨D, lf, h, _⟩ := h; exact h.left_eq
theorem RangeF.congr (h : RangeF w k b r n f left cnt) {w' : World} (e : w'.heap[b]? = w.heap[b]?) (e' : w'.heap[r]? = w.heap[r]?) : RangeF w' k b r n f left cnt := by
  obtain ⟨D, lf, ⟨es, clock, since, seen, c0, h1, h2, h3, h4, h5, h6⟩, F, hl⟩ := h
  exact ⟨D, lf, ⟨es, clock, since, seen, c0, e.trans h1, h2, h3, h4, e'.trans h5, h6⟩, F, hl⟩
theorem RangeF.fr (h : RangeF w k b r n f left cnt) {w' : World} {F : Nat → Prop} (hf : Fr F w w') (hb : ¬ F b) (hr : ¬ F r) : RangeF w' k b r n f left cnt :=
  h.congr (hf.block b h.map.lt hb) (hf.block r h.lt hr)
theorem RangeF.leftL (h : RangeF w k b r n f left cnt) {left' : Value → Prop} (hl : ∀ v, left' v ↔ left v) : RangeF w k b r n f left' cnt := by
  obtain ⟨D, lf, h, F, hk⟩ := h
  exact ⟨D, lf, h, F, fun v => (hl v).trans (hk v)⟩
end

theorem FitF.look {k : TypeId} {w : World} {b n : Nat} {f : Value → Option Value} {D : DataW Value} (F : FitF k D f) (hown : w.ownsMap Tryz.prog k anyElem b n D) {key : Value} {kl : Lit} (hkey : keyOf Tryz.prog k key = some kl) {z v : Value} {ps : List MemPlace} (hv : anyElem v = some (D.atKey kl (.held z), ps)) : v = (f key).getD z := by
  have hv : DataW.held v = D.atKey kl (.held z) := by simpa [anyElem] using congrArg (Option.map Prod.fst) hv
  have h1 := F.at_ key kl hkey
  have h2 := F.has_ key kl hkey
  cases hf : f key with
  | none =>
    rw [hf] at h2
    rw [Maps.atKey_of_not_has h2] at hv
    injection hv with hv
  | some y =>
    rw [hf] at h1 h2
    have : D.atKey kl (.held z) = D.atKey kl .nil := by
      obtain ⟨es, rfl⟩ := hown.isMap
      simp only [DataW.atKey] at h1 ⊢
      cases hfi : es.find? (fun p => p.1.sameKey kl) with
      | none => rw [hfi] at h1; cases h1
      | some p => rfl
    rw [this, h1] at hv
    injection hv with hv

/-! ### at the operations -/
section
variable {k e : TypeId} {b n : Nat} {f : Value → Option Value} (w : World) {ops : Array Oper} {rest : List Oper} {o : Oper} {a : Act} {Q : Exit → Act → World → Prop}

/-- What a look-up gives. -/
theorem MapF.look {w : World} (h : MapF w k b n f) (K : Keyed Tryz.prog k) {t : TypeId} (ht : Tryz.prog.underlying t = some (.map k e)) {z : Value} (hz : (zeroValue e).run Tryz.prog w = .ok z w) (key : Value) {kl : Lit} (hkey : keyOf Tryz.prog k key = some kl) :
    (Instr.lookup t (.map (some b)) key true).run Tryz.prog w = .ok (.tuple #[(f key).getD z, .bool (f key).isSome]) w := by
  obtain ⟨D, hown, F⟩ := h
  obtain ⟨v, ps, hr, hv⟩ := hown.look_ok (zd := .held z) (zp := []) K ht hz rfl hkey
  rw [hr, F.look hown hkey hv, F.has_ key kl hkey]
theorem MapF.look1 {w : World} (h : MapF w k b n f) (K : Keyed Tryz.prog k) {t : TypeId} (ht : Tryz.prog.underlying t = some (.map k e)) {z : Value} (hz : (zeroValue e).run Tryz.prog w = .ok z w) (key : Value) {kl : Lit} (hkey : keyOf Tryz.prog k key = some kl) :
    (Instr.lookup t (.map (some b)) key false).run Tryz.prog w = .ok ((f key).getD z) w := by
  obtain ⟨D, hown, F⟩ := h
  obtain ⟨v, ps, hr, hv⟩ := hown.lookup (zd := .held z) (zp := []) K ht hz rfl hkey
  rw [hr, F.look hown hkey hv]
/-- What a store leaves. -/
theorem MapF.store {w : World} (h : MapF w k b n f) (K : Keyed Tryz.prog k) {t : TypeId} (ht : Tryz.prog.underlying t = some (.map k e)) (hn : n < maxLen) (key x : Value) {kl : Lit} (hkey : keyOf Tryz.prog k key = some kl) :
    ∃ w', (Instr.mapUpdate t (.map (some b)) key x).run Tryz.prog w = .ok () w' ∧ MapF w' k b (n + 1) (updF f key (some x)) ∧ Fr (fun k => k = b) w w' := by
  obtain ⟨D, hown, F⟩ := h
  obtain ⟨w', hr, h1, h2⟩ := hown.update (d := .held x) (ps := []) K ht hn hkey rfl
  exact ⟨w', hr, ⟨_, h1, F.put K hown.isMap hkey⟩, grown_fr h2⟩
/-- What a deletion leaves. -/
theorem MapF.drop {w : World} (h : MapF w k b n f) (K : Keyed Tryz.prog k) {t : TypeId} (ht : Tryz.prog.underlying t = some (.map k e)) (key : Value) {kl : Lit} (hkey : keyOf Tryz.prog k key = some kl) (ty : TypeId) :
    ∃ w', (Builtin.delete_ #[t, k] ty #[.map (some b), key]).run Tryz.prog w = .ok (.tuple #[]) w' ∧ MapF w' k b n (updF f key none) ∧ Fr (fun k => k = b) w w' := by
  obtain ⟨D, hown, F⟩ := h
  obtain ⟨w', hr, h1, h2⟩ := hown.drop K ht hkey ty
  exact ⟨w', hr, ⟨_, h1, F.del K hkey⟩, grown_fr h2.grown⟩
/-- The number of entries. -/
theorem MapF.len {w : World} (h : MapF w k b n f) (K : Keyed Tryz.prog k) {t : TypeId} (ht : Tryz.prog.underlying t = some (.map k e)) :
    ∃ m, m ≤ n ∧ ((∀ v, f v = none) → m = 0) ∧ ∀ ty, (Builtin.len_ #[t] ty #[.map (some b)]).run Tryz.prog w = .ok (.int .i64 (m : Nat)) w := by
  obtain ⟨D, hown, F⟩ := h
  exact ⟨Maps.size D, hown.size_le, fun h0 => MapF.size0 K h0 hown F, fun ty => hown.len ht ty⟩

/-- v, ok := m[k]. -/
theorem wpList_lookF (hg : o.guard = none) (m x : Operand) (t : TypeId) (hop : o.op = Op.lookup t m x true)
    (K : Keyed Tryz.prog k) (ht : Tryz.prog.underlying t = some (.map k e)) {z : Value} (hz : (zeroValue e).run Tryz.prog w = .ok z w) (hown : MapF w k b n f) (hm : a.eval m = .map (some b)) (key : Value) {kl : Lit} (hx : a.eval x = key) (hkey : keyOf Tryz.prog k key = some kl)
    (hK : wpList Tryz.prog ops Q rest (a.put o.dst (.tuple #[(f key).getD z, .bool (f key).isSome])) w) : wpList Tryz.prog ops Q (o :: rest) a w := by
  refine wpList_plain hg fun K' hK' => ?_
  unfold Oper.wp
  simp [execOp, hop, hm, hx, hown.look K ht hz key hkey, Result.andThen]
  exact hK' _ _ hK

/-- m[k]. -/
theorem wpList_lookF1 (hg : o.guard = none) (m x : Operand) (t : TypeId) (hop : o.op = Op.lookup t m x false)
    (K : Keyed Tryz.prog k) (ht : Tryz.prog.underlying t = some (.map k e)) {z : Value} (hz : (zeroValue e).run Tryz.prog w = .ok z w) (hown : MapF w k b n f) (hm : a.eval m = .map (some b)) (key : Value) {kl : Lit} (hx : a.eval x = key) (hkey : keyOf Tryz.prog k key = some kl)
    (hK : wpList Tryz.prog ops Q rest (a.put o.dst ((f key).getD z)) w) : wpList Tryz.prog ops Q (o :: rest) a w := by
  refine wpList_plain hg fun K' hK' => ?_
  unfold Oper.wp
  simp [execOp, hop, hm, hx, hown.look1 K ht hz key hkey, Result.andThen]
  exact hK' _ _ hK

/-- m[k] = x. -/
theorem wpList_storeF (hg : o.guard = none) (m x v : Operand) (t : TypeId) (hop : o.op = Op.mapUpdate t m x v)
    (K : Keyed Tryz.prog k) (ht : Tryz.prog.underlying t = some (.map k e)) (hown : MapF w k b n f) (hn : n < maxLen) (hm : a.eval m = .map (some b)) (key val : Value) {kl : Lit} (hx : a.eval x = key) (hv : a.eval v = val) (hkey : keyOf Tryz.prog k key = some kl)
    (hK : ∀ w', MapF w' k b (n + 1) (updF f key (some val)) → Fr (fun k => k = b) w w' → wpList Tryz.prog ops Q rest (a.put o.dst undef) w') : wpList Tryz.prog ops Q (o :: rest) a w := by
  refine wpList_plain hg fun K' hK' => ?_
  obtain ⟨w', hr, h1, h2⟩ := hown.store K ht hn key val hkey
  unfold Oper.wp
  simp [execOp, hop, hm, hx, hv, hr, Result.andThen]
  exact hK' _ _ (hK w' h1 h2)

/-- delete(m, k). -/
theorem wpList_dropF (hg : o.guard = none) (m x : Operand) (t k : TypeId) {f : Value → Option Value} (hop : o.op = Op.call { callee := Callee.builtin Builtin.delete, args := #[m, x], argTypes := #[t, k] })
    (K : Keyed Tryz.prog k) (ht : Tryz.prog.underlying t = some (.map k e)) (hown : MapF w k b n f) (hm : a.eval m = .map (some b)) (key : Value) {kl : Lit} (hx : a.eval x = key) (hkey : keyOf Tryz.prog k key = some kl)
    (hK : ∀ w', MapF w' k b n (updF f key none) → Fr (fun k => k = b) w w' → wpList Tryz.prog ops Q rest (a.put o.dst (.tuple #[])) w') : wpList Tryz.prog ops Q (o :: rest) a w := by
  refine wpList_plain hg fun K' hK' => ?_
  obtain ⟨w', hr, h1, h2⟩ := hown.drop K ht key hkey o.type
  unfold Oper.wp
  simp [execOp, hop, resolve, invoke, builtin, hm, hx, hr, Result.andThen]
  exact hK' _ _ (hK w' h1 h2)

/-- len(m). -/
theorem wpList_lenF (hg : o.guard = none) (m : Operand) (t : TypeId) (hop : o.op = Op.call { callee := Callee.builtin Builtin.len, args := #[m], argTypes := #[t] })
    (K : Keyed Tryz.prog k) (ht : Tryz.prog.underlying t = some (.map k e)) (hown : MapF w k b n f) (hm : a.eval m = .map (some b))
    (hK : ∀ c : Nat, c ≤ n → ((∀ v, f v = none) → c = 0) → wpList Tryz.prog ops Q rest (a.put o.dst (.int .i64 (c : Nat))) w) : wpList Tryz.prog ops Q (o :: rest) a w := by
  refine wpList_plain hg fun K' hK' => ?_
  obtain ⟨c, h1, h2, hr⟩ := hown.len K ht
  unfold Oper.wp
  simp [execOp, hop, resolve, invoke, builtin, hm, hr, Result.andThen]
  exact hK' _ _ (hK c h1 h2)

/-- range m. -/
theorem wpList_rangeF (hg : o.guard = none) (m : Operand) (t : TypeId) (hop : o.op = Op.range t m) (K : Keyed Tryz.prog k) (ht : Tryz.prog.underlying t = some (.map k e)) (hown : MapF w k b n f)
    (hm : a.eval m = .map (some b))
    (hK : ∀ w' cnt, RangeF w' k b w.heap.size n f (fun v => (f v).isSome = true) cnt → cnt ≤ n → Fr (fun _ => False) w w' → w'.heap.size = w.heap.size + 1 → wpList Tryz.prog ops Q rest (a.put o.dst (.pointer (some ⟨w.heap.size, 0, none⟩))) w') :
    wpList Tryz.prog ops Q (o :: rest) a w := by
  obtain ⟨D, hown, F⟩ := hown
  refine wpList_range_own w hg m t hop k e K ht anyElem b n D hm hown ?_
  intro w' h1 h2 h3
  refine hK w' _ ⟨D, _, h1, F, fun v => ⟨fun hv => ?_, fun ⟨kl, hk, hh⟩ => by show (f v).isSome = true; rw [← F.has_ v kl hk]; exact hh⟩⟩ hown.size_le (grown_fr0 h2) h3
  replace hv : (f v).isSome = true := hv
  cases hk : keyOf Tryz.prog k v with
  | none => rw [F.off v hk] at hv; cases hv
  | some kl => exact ⟨kl, rfl, by rw [F.has_ v kl hk]; exact hv⟩

/-- The step of a range. -/
theorem wpList_nextF (hg : o.guard = none) (it : Operand) (hop : o.op = Op.next it false) (K : Keyed Tryz.prog k) (r : Nat) {left : Value → Prop} {cnt : Nat}
    (hit : a.eval it = .pointer (some ⟨r, 0, none⟩)) (h : RangeF w k b r n f left cnt)
    (hDone : cnt = 0 → (∀ v, ¬ left v) → wpList Tryz.prog ops Q rest (a.put o.dst (.tuple #[.bool false])) w)
    (hMore : ∀ (key x : Value) (kl : Lit) (w' : World) (cnt' : Nat), keyOf Tryz.prog k key = some kl → left key → f key = some x → RangeF w' k b r n f (fun v => left v ∧ v ≠ key) cnt' → cnt' < cnt →
      Fr (fun k => k = r) w w' → w'.heap.size = w.heap.size → (Instr.entry (.pointer (some ⟨r, 0, none⟩))).run Tryz.prog w' = .ok (.tuple #[key, x]) w' → wpList Tryz.prog ops Q rest (a.put o.dst (.tuple #[.bool true, key, x])) w') :
    wpList Tryz.prog ops Q (o :: rest) a w := by
  obtain ⟨D, lf, h, F, hl⟩ := h
  refine wpList_next_ranges w hg it hop k K anyElem (fun v : Value => v) (fun v : Value => v) (fun key _ _ => ⟨key, rfl⟩) (fun v _ _ => ⟨v, rfl⟩) b r n D lf cnt hit h ?_ ?_
  · intro h0 hn
    exact hDone h0 (fun v hv => by obtain ⟨kl, -, hh⟩ := (hl v).1 hv; rw [hn] at hh; cases hh)
  · intro key x kl y w' cnt' hkey hlk hR hat hrg hlt hgr hsz hen
    obtain rfl : y = (.held x, []) := (Option.some.inj hR).symm
    refine hMore key x kl w' cnt' hkey ((hl key).2 ⟨kl, hkey, hlk⟩) (encO_inj ?_) ⟨D, _, hrg, F, fun v => ?_⟩ hlt (grown_fr hgr) hsz hen
    · rw [← F.at_ key kl hkey, hat]; rfl
    · constructor
      · rintro ⟨hv, hne⟩
        obtain ⟨kl', hk', hh⟩ := (hl v).1 hv
        refine ⟨kl', hk', ?_⟩
        rw [hh, Maps.sameKey_ne (fun e => hne (by rw [e] at hk'; exact K.inj hk' hkey))]; rfl
      · rintro ⟨kl', hk', hh⟩
        simp only [Bool.and_eq_true, Bool.not_eq_true'] at hh
        refine ⟨(hl v).2 ⟨kl', hk', hh.1⟩, fun e => ?_⟩
        subst e
        obtain rfl : kl' = kl := Option.some.inj (hk'.symm.trans hkey)
        rw [WideAt.sameKey_self (K.key hkey)] at hh
        cases hh.2

/-- delete(m, k) while a range is under way. -/
theorem wpList_dropRF (hg : o.guard = none) (m x : Operand) (t k : TypeId) {f : Value → Option Value} (hop : o.op = Op.call { callee := Callee.builtin Builtin.delete, args := #[m, x], argTypes := #[t, k] })
    (K : Keyed Tryz.prog k) (ht : Tryz.prog.underlying t = some (.map k e)) {r : Nat} {left : Value → Prop} {cnt : Nat} (h : RangeF w k b r n f left cnt) (hm : a.eval m = .map (some b)) (key : Value) {kl : Lit} (hx : a.eval x = key) (hkey : keyOf Tryz.prog k key = some kl)
    (hK : ∀ w' cnt', RangeF w' k b r n (updF f key none) (fun v => left v ∧ v ≠ key) cnt' → cnt' ≤ cnt → Fr (fun k => k = b) w w' → wpList Tryz.prog ops Q rest (a.put o.dst (.tuple #[])) w') : wpList Tryz.prog ops Q (o :: rest) a w := by
  obtain ⟨D, lf, h, F, hl⟩ := h
  refine wpList_delete_ranges w hg m x t k hop e K ht anyElem b r n D lf cnt hm h key kl hx hkey ?_
  intro w' cnt' hrg hle hturn
  refine hK w' cnt' ⟨_, _, hrg, F.del K hkey, fun v => ?_⟩ hle (grown_fr hturn.grown)
  constructor
  · rintro ⟨hv, hne⟩
    obtain ⟨kl', hk', hh⟩ := (hl v).1 hv
    refine ⟨kl', hk', ?_⟩
    rw [hh, Maps.sameKey_ne (fun e => hne (by rw [e] at hk'; exact K.inj hk' hkey))]; rfl
  · rintro ⟨kl', hk', hh⟩
    simp only [Bool.and_eq_true, Bool.not_eq_true'] at hh
    refine ⟨(hl v).2 ⟨kl', hk', hh.1⟩, fun e => ?_⟩
    subst e
    obtain rfl : kl' = kl := Option.some.inj (hk'.symm.trans hkey)
    rw [WideAt.sameKey_self (K.key hkey)] at hh
    cases hh.2
end

end Go.Proofs.YteldfmgjbgedaaaGreat

namespace Go.Proofs.YteldfmgjbgedaaaGreat
open Go.RowKit Go.Maps

theorem lits9 (d : Nat) (a : ByteArray) : Tryz.prog.keyLits (d + 1) 9 [.string a] = if a.size ≤ maxLen then some [.string a.data.toList] else none := by
  simp [Program.keyLits, Tryz.underlying9]
theorem lits2 (d : Nat) (n : Int) : Tryz.prog.keyLits (d + 1) 2 [.int .i64 n] = if (Lit.int .i64 n).wf = true then some [.int .i64 n] else none := by
  simp [Program.keyLits, Tryz.underlying2]
theorem cellsOf9 : Tryz.prog.cellsOf 9 = 1 := by kernel_rfl
theorem cellsOf2 : Tryz.prog.cellsOf 2 = 1 := by kernel_rfl
theorem cellsOf66 : Tryz.prog.cellsOf 66 = 2 := by kernel_rfl
theorem cellsOf138 : Tryz.prog.cellsOf 138 = 2 := by kernel_rfl
theorem keyType66 : Tryz.prog.keyType 66 = true := by kernel_rfl
theorem keyType138 : Tryz.prog.keyType 138 = true := by kernel_rfl

theorem types_many : ∃ m, Tryz.prog.types.size + 1 = m + 2 := ⟨Tryz.prog.types.size - 1, by
  have : 0 < Tryz.prog.types.size := of_decide_eq_true (by kernel_rfl)
  omega⟩

theorem lits66 (m : Nat) {a b : ByteArray} (ha : a.size ≤ maxLen) (hb : b.size ≤ maxLen) : ∃ ls, Tryz.prog.keyLits (m + 2) 66 [.string a, .string b] = some ls := by
  simp [Program.keyLits, Tryz.underlying66, Tryz.underlying9, cellsOf66, cellsOf9, ha, hb]
theorem lits138 (m : Nat) {n : Int} {b : ByteArray} (hn : (Lit.int .i64 n).wf = true) (hb : b.size ≤ maxLen) : ∃ ls, Tryz.prog.keyLits (m + 2) 138 [.int .i64 n, .string b] = some ls := by
  simp [Program.keyLits, Tryz.underlying138, Tryz.underlying9, Tryz.underlying2, cellsOf138, cellsOf9, cellsOf2, hn, hb]
theorem formed66 (a b : Value) : (Value.agg #[a, b]).formed Tryz.prog 66 = true := by simp [Value.formed, Tryz.underlying66, cellsOf66]
theorem formed138 (a b : Value) : (Value.agg #[a, b]).formed Tryz.prog 138 = true := by simp [Value.formed, Tryz.underlying138, cellsOf138]
theorem key66 {a b : ByteArray} (ha : a.size ≤ maxLen) (hb : b.size ≤ maxLen) : ∃ kl, keyOf Tryz.prog 66 (.agg #[.string a, .string b]) = some kl := by
  obtain ⟨m, hm⟩ := types_many
  obtain ⟨ls, h⟩ := lits66 m ha hb
  rw [← hm] at h
  refine ⟨.string (keyBytes ls), ?_⟩
  unfold keyOf
  rw [Tryz.underlying66]
  show (if (Tryz.prog.keyType 66 && (Value.agg #[.string a, .string b]).formed Tryz.prog 66) = true then (Tryz.prog.keyLits (Tryz.prog.types.size + 1) 66 [.string a, .string b]).map (fun ls => Lit.string (keyBytes ls)) else none) = _
  rw [keyType66, formed66, h]; rfl
theorem key138 {n : Int} {b : ByteArray} (hn : (Lit.int .i64 n).wf = true) (hb : b.size ≤ maxLen) : ∃ kl, keyOf Tryz.prog 138 (.agg #[.int .i64 n, .string b]) = some kl := by
  obtain ⟨m, hm⟩ := types_many
  obtain ⟨ls, h⟩ := lits138 m hn hb
  rw [← hm] at h
  refine ⟨.string (keyBytes ls), ?_⟩
  unfold keyOf
  rw [Tryz.underlying138]
  show (if (Tryz.prog.keyType 138 && (Value.agg #[.int .i64 n, .string b]).formed Tryz.prog 138) = true then (Tryz.prog.keyLits (Tryz.prog.types.size + 1) 138 [.int .i64 n, .string b]).map (fun ls => Lit.string (keyBytes ls)) else none) = _
  rw [keyType138, formed138, h]; rfl
theorem key2 {n : Int} (hn : (Lit.int .i64 n).wf = true) : keyOf Tryz.prog 2 (.int .i64 n) = some (.int .i64 n) := keyOf_int_mk Tryz.underlying2 hn
theorem wf_nat {n : Nat} (h : n < 2 ^ 40) : (Lit.int .i64 (n : Int)).wf = true := by
  have : IntKind.i64.min = -9223372036854775808 := rfl
  have : IntKind.i64.max = 9223372036854775807 := rfl
  simp [Lit.wf]; omega

section
variable (w : World) (l : Nat) {most : Int} {bk n : Nat} {f : Value → Option Value}

set_option maxRecDepth 20000 in
set_option maxHeartbeats 1000000 in
theorem holder_any (h : rowOf w l = lkRow most bk) (hl : live w l = true) (hown : MapF w 66 bk n f) {a b : ByteArray} (ha : a.size ≤ maxLen) (hb : b.size ≤ maxLen) :
    Calls Tryz.prog 30 #[.pointer (some ⟨l, 0, none⟩), .agg #[.string a, .string b]] w fun e w' => e = .returned (.tuple #[(f (.agg #[.string a, .string b])).getD (.int .i64 0), .bool (f (.agg #[.string a, .string b])).isSome]) ∧ Fr (fun _ => False) w w' := by
  obtain ⟨kl, hk⟩ := key66 ha hb
  have hlt := live_lt hl
  have HN := fun w' (hf : Fr (fun _ => False) w w') => none55_any w' l (most := most) (bk := bk) (by rw [hf.row hlt (fun e => e)]; exact h)
  have hf0 : Fr (fun _ => False) w (w.alloc (.cells #[.string a, .string b] 66)) := (Fr.refl _ w).alloc _
  have HN' := Lib.hid (HN _ hf0)
  clear HN
  have hlook := fun w' (hf : Fr (fun _ => False) w w') => (hown.fr hf (fun e => e)).look law66 Tryz.underlying86 (Tryz.zeroValue2 w') _ hk
  have hlook' := hlook _ hf0.drew
  clear hlook
  generalize (f (.agg #[.string a, .string b])).getD (.int .i64 0) = v0 at hlook' ⊢
  generalize (f (.agg #[.string a, .string b])).isSome = b0 at hlook' ⊢
  unfold lkRow at h
  go_enter Tryz.func30, Tryz.ntmps30
  go_wp2_with fail
  refine HN'.out.mono ?_
  rintro e w' ⟨rfl, rfl⟩
  go_wp2_with fail
  go_region
  all_goals
    go_wp2
    go_ret2
    exact ⟨rfl, hf0.drew⟩

set_option maxRecDepth 20000 in
set_option maxHeartbeats 1000000 in
/-- Held by another one. -/
theorem take_held (h : rowOf w l = lkRow most bk) (hl : live w l = true) (hown : MapF w 66 bk n f) {a b : ByteArray} (ha : a.size ≤ maxLen) (hb : b.size ≤ maxLen) {tx sn la o : Int} (h1 : 1 ≤ tx) (h2 : 0 ≤ sn) (h3 : 0 ≤ la)
    (ho : f (.agg #[.string a, .string b]) = some (.int .i64 o)) (hne : o ≠ tx) :
    Calls Tryz.prog 32 #[.pointer (some ⟨l, 0, none⟩), .int .i64 tx, .int .i64 sn, .int .i64 la, .agg #[.string a, .string b]] w fun e w' => e = .returned (.int .i64 80) ∧ Fr (fun _ => False) w w' := by
  obtain ⟨kl, hk⟩ := key66 ha hb
  have hlt := live_lt hl
  have hf0 : Fr (fun _ => False) w (w.alloc (.cells #[.string a, .string b] 66)) := (Fr.refl _ w).alloc _
  have HN' := Lib.hid (none55_any _ l (most := most) (bk := bk) (by rw [hf0.row hlt (fun e => e)]; exact h))
  have hlook := (hown.fr hf0.drew (fun e => e)).look law66 Tryz.underlying86 (Tryz.zeroValue2 _) _ hk
  rw [ho] at hlook
  simp only [Option.getD_some, Option.isSome_some] at hlook
  have e1 : decide (tx < 1) = false := decide_eq_false (by omega)
  have e2 : decide (sn < 0) = false := decide_eq_false (by omega)
  have e3 : decide (la < 0) = false := decide_eq_false (by omega)
  have e4 : decide (o = tx) = false := decide_eq_false hne
  unfold lkRow at h
  go_enter Tryz.func32, Tryz.ntmps32
  go_wp2_with fail
  refine HN'.out.mono ?_
  rintro e w' ⟨rfl, rfl⟩
  go_wp2_with fail
  go_region
  all_goals
    go_wp2
    go_ret
    exact ⟨rfl, hf0.drew⟩

set_option maxRecDepth 20000 in
set_option maxHeartbeats 1000000 in
/-- Held by nobody. -/
theorem take_free (h : rowOf w l = lkRow most bk) (hl : live w l = true) (hown : MapF w 66 bk n f) (hn : n < maxLen) {a b : ByteArray} (ha : a.size ≤ maxLen) (hb : b.size ≤ maxLen) {tx sn la : Int} (h1 : 1 ≤ tx) (h2 : 0 ≤ sn) (h3 : 0 ≤ la)
    (ho : f (.agg #[.string a, .string b]) = none) :
    Calls Tryz.prog 32 #[.pointer (some ⟨l, 0, none⟩), .int .i64 tx, .int .i64 sn, .int .i64 la, .agg #[.string a, .string b]] w fun e w' => (∃ c, c ≠ 0 ∧ e = .returned (.int .i64 c) ∧ Fr (fun _ => False) w w') ∨
      (e = .returned (.int .i64 0) ∧ la ≤ sn ∧ MapF w' 66 bk (n + 1) (updF f (.agg #[.string a, .string b]) (some (.int .i64 tx))) ∧ Fr (fun k => k = bk) w w') := by
  obtain ⟨kl, hk⟩ := key66 ha hb
  have hlt := live_lt hl
  have hf0 : Fr (fun _ => False) w (w.alloc (.cells #[.string a, .string b] 66)) := (Fr.refl _ w).alloc _
  have HN' := Lib.hid (none55_any _ l (most := most) (bk := bk) (by rw [hf0.row hlt (fun e => e)]; exact h))
  have hlook := (hown.fr hf0.drew (fun e => e)).look law66 Tryz.underlying86 (Tryz.zeroValue2 _) _ hk
  rw [ho] at hlook
  simp only [Option.getD_none, Option.isSome_none] at hlook
  have e1 : decide (tx < 1) = false := decide_eq_false (by omega)
  have e2 : decide (sn < 0) = false := decide_eq_false (by omega)
  have e3 : decide (la < 0) = false := decide_eq_false (by omega)
  unfold lkRow at h
  by_cases hls : sn < la
  · have e4 : decide (sn < la) = true := decide_eq_true hls
    go_enter Tryz.func32, Tryz.ntmps32
    go_wp2_with fail
    refine HN'.out.mono ?_
    rintro e w' ⟨rfl, rfl⟩
    go_wp2_with fail
    go_region
    all_goals
      go_wp2
      go_ret
      exact .inl ⟨81, by omega, rfl, hf0.drew⟩
  · have e4 : decide (sn < la) = false := decide_eq_false hls
    obtain ⟨c, hcn, -, hlen⟩ := (hown.fr hf0.drew.drew (fun e => e)).len law66 Tryz.underlying86
    by_cases hcm : most ≤ (c : Int)
    · have e5 : decide (most ≤ (c : Int)) = true := decide_eq_true hcm
      go_enter Tryz.func32, Tryz.ntmps32
      go_wp2_with fail
      refine HN'.out.mono ?_
      rintro e w' ⟨rfl, rfl⟩
      go_wp2_with fail
      go_region
      all_goals
        go_wp2_with fail
        go_region
        all_goals
          go_wp2
          go_ret
          exact .inl ⟨4, by omega, rfl, hf0.drew.drew⟩
    · have e5 : decide (most ≤ (c : Int)) = false := decide_eq_false hcm
      obtain ⟨w3, hst, hm3, hf3⟩ := (hown.fr hf0.drew.drew.drew (fun e => e)).store law66 Tryz.underlying86 hn _ (.int .i64 tx) hk
      have hm3' := Lib.hid hm3
      have hf3' := Lib.hid hf3
      clear hm3 hf3
      go_enter Tryz.func32, Tryz.ntmps32
      go_wp2_with fail
      refine HN'.out.mono ?_
      rintro e w' ⟨rfl, rfl⟩
      go_wp2_with fail
      go_region
      all_goals
        go_wp2_with fail
        go_region
        all_goals
          go_wp2_with fail
          go_region
          all_goals
            go_wp2
            go_ret
            exact .inr ⟨rfl, by omega, hm3'.out, (hf0.drew.drew.drew.mono (fun _ _ h => h.elim)).trans hf3'.out (fun _ _ h => h)⟩
end

end Go.Proofs.YteldfmgjbgedaaaGreat
