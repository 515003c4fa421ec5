/-
  Memory by whole rows: what a block of cells holds ('rowOf'), that it may be written ('live'), what stays as it was ('Fr'); rules for the walk's simp.
-/
import Derived.WalkKit
import Derived.WalkSpells
import Derived.WalkLawsBesides
import Derived.Lib.Hide
import Derived.BigQuiet
import Derived.Deep.QuietTactic
namespace Go.Proofs.Ytflnlpbcmcfblaa
open Go.RowKit

/-- The cells of block g. -/
def rowOf (w : World) (g : Nat) : Array Value := match w.heap[g]? with | some (.cells c _ _) => c | _ => #[]
/-- Block g is a row of cells of which no string shares a byte. -/
def live (w : World) (g : Nat) : Bool := match w.heap[g]? with | some (.cells _ _ (0, 0)) => true | _ => false

theorem live_obj {w : World} {g : Nat} (h : live w g = true) : ∃ t, w.heap[g]? = some (.cells (rowOf w g) t (0, 0)) := by
  unfold live at h
  split at h
  · rename_i c t hh; exact ⟨t, by unfold rowOf; rw [hh]⟩
  · cases h

theorem live_of {w : World} {g : Nat} {c : Array Value} {t : TypeId} (h : w.heap[g]? = some (.cells c t (0, 0))) : live w g = true := by
  unfold live; rw [h]; rfl
theorem rowOf_of {w : World} {g : Nat} {c : Array Value} {t : TypeId} {f : Nat × Nat} (h : w.heap[g]? = some (.cells c t f)) : rowOf w g = c := by
  unfold rowOf; rw [h]

theorem live_lt {w : World} {g : Nat} (h : live w g = true) : g < w.heap.size := by
  obtain ⟨t, h⟩ := live_obj h
  exact (Array.getElem?_eq_some_iff.1 h).1

theorem rowOf_congr {w w' : World} {g : Nat} (h : w'.heap[g]? = w.heap[g]?) : rowOf w' g = rowOf w g := by unfold rowOf; rw [h]
theorem live_congr {w w' : World} {g : Nat} (h : w'.heap[g]? = w.heap[g]?) : live w' g = live w g := by unfold live; rw [h]

@[go_sem ↓] theorem cell?_row (w : World) (g i : Nat) : w.cell? ⟨g, i, none⟩ = (rowOf w g)[i]? := by
  unfold World.cell? rowOf
  show (match w.heap[g]? with | some (.cells c _ _) => if (none : Option Nat).isSome then none else c[i]? | _ => none) = _
  cases w.heap[g]? with
  | none => simp
  | some o => cases o <;> simp

@[go_sem ↓] theorem frozen?_row (w : World) (g i : Nat) (h : live w g = true) : w.frozen? ⟨g, i, none⟩ = false := by
  obtain ⟨t, h⟩ := live_obj h
  simp [World.frozen?, h]

@[go_sem ↓] theorem setCell_row (w : World) (g i : Nat) (v : Value) : w.setCell ⟨g, i, none⟩ v = w.setRow g ((rowOf w g).setIfInBounds i v) := by
  cases hh : w.heap[g]? with
  | none =>
    have hn : w.heap.size ≤ g := by simpa using hh
    unfold World.setCell World.setRow
    congr 1
    apply Array.ext_getElem?
    intro k
    simp only [Array.getElem?_modify]
    by_cases hk : g = k
    · subst hk; simp [hh]
    · simp [hk]
  | some o =>
    unfold World.setCell World.setRow
    congr 1
    apply Array.ext_getElem?
    intro k
    simp only [Array.getElem?_modify]
    by_cases hk : g = k
    · subst hk
      simp only [if_true, hh, Option.map_some, rowOf]
      cases o <;> simp
    · simp [hk]

@[go_sem] theorem rowOf_drew (w : World) (g : Nat) : rowOf w.drew g = rowOf w g := rowOf_congr rfl
@[go_sem] theorem live_drew (w : World) (g : Nat) : live w.drew g = live w g := live_congr rfl
@[go_sem] theorem rowOf_drewN (w : World) (n g : Nat) : rowOf (w.drewN n) g = rowOf w g := rowOf_congr rfl
@[go_sem] theorem live_drewN (w : World) (n g : Nat) : live (w.drewN n) g = live w g := live_congr rfl
@[go_sem] theorem setRow_drew (w : World) (g : Nat) (c : Array Value) : w.drew.setRow g c = (w.setRow g c).drew := rfl

theorem heap_alloc_lt (w : World) (o : Obj) (g : Nat) (h : g < w.heap.size) : (w.alloc o).heap[g]? = w.heap[g]? := Below.heap_alloc w o g h

@[go_sem] theorem rowOf_alloc_lt (w : World) (o : Obj) (g : Nat) (h : g < w.heap.size) : rowOf (w.alloc o) g = rowOf w g := rowOf_congr (heap_alloc_lt w o g h)
@[go_sem] theorem live_alloc_lt (w : World) (o : Obj) (g : Nat) (h : g < w.heap.size) : live (w.alloc o) g = live w g := live_congr (heap_alloc_lt w o g h)
@[go_sem] theorem rowOf_alloc_at (w : World) (c : Array Value) (t : TypeId) (f : Nat × Nat) (g : Nat) (h : g = w.heap.size) : rowOf (w.alloc (.cells c t f)) g = c := by
  subst h; exact rowOf_of (heap_alloc_new w _)
@[go_sem] theorem live_alloc_at (w : World) (c : Array Value) (t : TypeId) (g : Nat) (h : g = w.heap.size) : live (w.alloc (.cells c t)) g = true := by
  subst h; exact live_of (heap_alloc_new w _)

@[go_sem] theorem rowOf_setRow_ne (w : World) (g k : Nat) (c : Array Value) (h : k ≠ g) : rowOf (w.setRow g c) k = rowOf w k := rowOf_congr (setRow_other w g k c h)
@[go_sem] theorem rowOf_setRow_lt (w : World) (g k : Nat) (c : Array Value) (h : g < k) : rowOf (w.setRow g c) k = rowOf w k := rowOf_setRow_ne w g k c (by omega)
@[go_sem] theorem live_setRow (w : World) (g k : Nat) (c : Array Value) : live (w.setRow g c) k = live w k := by
  by_cases h : k = g
  · subst h
    unfold live World.setRow
    simp only [Array.getElem?_modify, if_true]
    cases hh : w.heap[k]? with
    | none => simp
    | some o =>
      cases o with
      | cells c' e f => obtain ⟨a, b⟩ := f; cases a <;> cases b <;> rfl
      | _ => rfl
  · exact live_congr (setRow_other w g k c h)
@[go_sem] theorem rowOf_setRow_same (w : World) (g : Nat) (c : Array Value) (h : live w g = true) : rowOf (w.setRow g c) g = c := by
  obtain ⟨t, h⟩ := live_obj h
  exact rowOf_of (setRow_heap w g _ c t _ h)
attribute [go_sem] setRow_setRow

@[go_sem] theorem size_setRow' (w : World) (g : Nat) (c : Array Value) : (w.setRow g c).heap.size = w.heap.size := setRow_size w g c

/-- What lies outside F, and was there, is as it was. -/
structure Fr (F : Nat → Prop) (w w' : World) : Prop where
  os : w'.os = w.os
  tape : w'.tape = w.tape
  output : w'.output = w.output
  size : w.heap.size ≤ w'.heap.size
  block : ∀ k, k < w.heap.size → ¬ F k → w'.heap[k]? = w.heap[k]?

theorem Fr.refl (F : Nat → Prop) (w : World) : Fr F w w := ⟨rfl, rfl, rfl, Nat.le_refl _, fun _ _ _ => rfl⟩
theorem Fr.trans {F G : Nat → Prop} {a b c : World} (h : Fr F a b) (k : Fr G b c) (hg : ∀ i, i < a.heap.size → G i → F i) : Fr F a c :=
  ⟨k.os.trans h.os, k.tape.trans h.tape, k.output.trans h.output, Nat.le_trans h.size k.size,
   fun i hi hF => (k.block i (Nat.lt_of_lt_of_le hi h.size) (fun hG => hF (hg i hi hG))).trans (h.block i hi hF)⟩
theorem Fr.mono {F G : Nat → Prop} {a b : World} (h : Fr F a b) (hg : ∀ i, i < a.heap.size → F i → G i) : Fr G a b :=
  ⟨h.os, h.tape, h.output, h.size, fun i hi hG => h.block i hi (fun hF => hG (hg i hi hF))⟩
theorem Fr.drew {F : Nat → Prop} {a w : World} (h : Fr F a w) : Fr F a w.drew := ⟨h.os, h.tape, h.output, h.size, h.block⟩
theorem Fr.drewN {F : Nat → Prop} {a w : World} (h : Fr F a w) (n : Nat) : Fr F a (w.drewN n) := ⟨h.os, h.tape, h.output, h.size, h.block⟩
theorem Fr.alloc {F : Nat → Prop} {a w : World} (h : Fr F a w) (o : Obj) : Fr F a (w.alloc o) :=
  ⟨h.os, h.tape, h.output, by have := h.size; simp; omega, fun k hk hF => (heap_alloc_lt w o k (Nat.lt_of_lt_of_le hk h.size)).trans (h.block k hk hF)⟩
theorem Fr.setRow {F : Nat → Prop} {a w : World} (h : Fr F a w) (g : Nat) (c : Array Value) (hg : g < a.heap.size → F g) : Fr F a (w.setRow g c) :=
  ⟨h.os, h.tape, h.output, by have := h.size; simp; omega, fun k hk hF => (setRow_other w g k c (fun e => hF (e ▸ hg (e ▸ hk)))).trans (h.block k hk hF)⟩
theorem Fr.setNew {F : Nat → Prop} {a w : World} (h : Fr F a w) {g : Nat} (hg : a.heap.size ≤ g) (c : Array Value) : Fr F a (w.setRow g c) := h.setRow g c (fun hh => absurd hh (by omega))
theorem Fr.below {F : Nat → Prop} {w w' : World} {B : Nat} (h : Fr F w w') (hB : B ≤ w.heap.size) (hF : ∀ k, k < B → ¬ F k) : Below B w w' :=
  ⟨h.os, h.tape, h.output, h.size, fun k hk => h.block k (Nat.lt_of_lt_of_le hk hB) (hF k hk)⟩
theorem Below.fr {w w' : World} (h : Below w.heap.size w w') : Fr (fun _ => False) w w' :=
  ⟨h.os, h.tape, h.output, h.size, fun k hk _ => h.block k hk⟩
theorem Fr.row {F : Nat → Prop} {w w' : World} (h : Fr F w w') {g : Nat} (hg : g < w.heap.size) (hF : ¬ F g) : rowOf w' g = rowOf w g := rowOf_congr (h.block g hg hF)
theorem Fr.liv {F : Nat → Prop} {w w' : World} (h : Fr F w w') {g : Nat} (hg : g < w.heap.size) (hF : ¬ F g) : live w' g = live w g := live_congr (h.block g hg hF)

end Go.Proofs.Ytflnlpbcmcfblaa
