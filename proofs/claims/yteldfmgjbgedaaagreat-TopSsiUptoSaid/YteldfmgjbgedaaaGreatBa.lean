/-
  Memory by whole rows: what a block of cells holds ('rowOf'), that it may be written ('live'), what stays as it was ('Fr'); rules for the walk's simp.
  Laws for operations on wide values and on slices, said of whole rows.
-/
import Derived.WalkKit
import Derived.WalkSpells
import Derived.WalkLawsBesides
import Derived.Lib.Hide
import Derived.BigQuiet
import Derived.Deep.QuietTactic
namespace Go.Proofs.YteldfmgjbgedaaaGreat
open Go.RowKit

/-- The cells of block g. -/
def rowOf (w : World) (g : Nat) : Array Value := match w.heap[g]? with | some (.cells c _ _) => c | _ => #[]
/-- Block g is a row of cells of which no string shares a byte. -/
def live (w : World) (g : Nat) : Bool := match w.heap[g]? with | some (.cells _ _ (0, 0)) => true | _ => false

theorem live_obj {w : World} {g : Nat} (h : live w g = true) : ∃ t, w.heap[g]? = some (.cells (rowOf w g) t (0, 0)) := by
  unfold live at h
  split at h
  · rename_i c t hh; exact ⟨t, by unfold rowOf; rw [hh]⟩
  · cases h

theorem live_of {w : World} {g : Nat} {c : Array Value} {t : TypeId} (h : w.heap[g]? = some (.cells c t (0, 0))) : live w g = true := by
  unfold live; rw [h]; rfl
theorem rowOf_of {w : World} {g : Nat} {c : Array Value} {t : TypeId} {f : Nat × Nat} (h : w.heap[g]? = some (.cells c t f)) : rowOf w g = c := by
  unfold rowOf; rw [h]

theorem live_lt {w : World} {g : Nat} (h : live w g = true) : g < w.heap.size := by
  obtain ⟨t, h⟩ := live_obj h
  exact (Array.getElem?_eq_some_iff.1 h).1

theorem rowOf_congr {w w' : World} {g : Nat} (h : w'.heap[g]? = w.heap[g]?) : rowOf w' g = rowOf w g := by unfold rowOf; rw [h]
theorem live_congr {w w' : World} {g : Nat} (h : w'.heap[g]? = w.heap[g]?) : live w' g = live w g := by unfold live; rw [h]

@[go_sem ↓] theorem cell?_row (w : World) (g i : Nat) : w.cell? ⟨g, i, none⟩ = (rowOf w g)[i]? := by
  unfold World.cell? rowOf
  show (match w.heap[g]? with | some (.cells c _ _) => if (none : Option Nat).isSome then none else c[i]? | _ => none) = _
  cases w.heap[g]? with
  | none => simp
  | some o => cases o <;> simp

@[go_sem ↓] theorem frozen?_row (w : World) (g i : Nat) (h : live w g = true) : w.frozen? ⟨g, i, none⟩ = false := by
  obtain ⟨t, h⟩ := live_obj h
  simp [World.frozen?, h]

@[go_sem ↓] theorem setCell_row (w : World) (g i : Nat) (v : Value) : w.setCell ⟨g, i, none⟩ v = w.setRow g ((rowOf w g).setIfInBounds i v) := by
  cases hh : w.heap[g]? with
  | none =>
    have hn : w.heap.size ≤ g := by simpa using hh
    unfold World.setCell World.setRow
    congr 1
    apply Array.ext_getElem?
    intro k
    simp only [Array.getElem?_modify]
    by_cases hk : g = k
    · subst hk; simp [hh]
    · simp [hk]
  | some o =>
    unfold World.setCell World.setRow
    congr 1
    apply Array.ext_getElem?
    intro k
    simp only [Array.getElem?_modify]
    by_cases hk : g = k
    · subst hk
      simp only [if_true, hh, Option.map_some, rowOf]
      cases o <;> simp
    · simp [hk]

@[go_sem] theorem rowOf_drew (w : World) (g : Nat) : rowOf w.drew g = rowOf w g := rowOf_congr rfl
@[go_sem] theorem live_drew (w : World) (g : Nat) : live w.drew g = live w g := live_congr rfl
@[go_sem] theorem rowOf_drewN (w : World) (n g : Nat) : rowOf (w.drewN n) g = rowOf w g := rowOf_congr rfl
@[go_sem] theorem live_drewN (w : World) (n g : Nat) : live (w.drewN n) g = live w g := live_congr rfl
@[go_sem] theorem setRow_drew (w : World) (g : Nat) (c : Array Value) : w.drew.setRow g c = (w.setRow g c).drew := rfl

theorem heap_alloc_lt (w : World) (o : Obj) (g : Nat) (h : g < w.heap.size) : (w.alloc o).heap[g]? = w.heap[g]? := Below.heap_alloc w o g h

@[go_sem] theorem rowOf_alloc_lt (w : World) (o : Obj) (g : Nat) (h : g < w.heap.size) : rowOf (w.alloc o) g = rowOf w g := rowOf_congr (heap_alloc_lt w o g h)
@[go_sem] theorem live_alloc_lt (w : World) (o : Obj) (g : Nat) (h : g < w.heap.size) : live (w.alloc o) g = live w g := live_congr (heap_alloc_lt w o g h)
@[go_sem] theorem rowOf_alloc_at (w : World) (c : Array Value) (t : TypeId) (f : Nat × Nat) (g : Nat) (h : g = w.heap.size) : rowOf (w.alloc (.cells c t f)) g = c := by
  subst h; exact rowOf_of (heap_alloc_new w _)
@[go_sem] theorem live_alloc_at (w : World) (c : Array Value) (t : TypeId) (g : Nat) (h : g = w.heap.size) : live (w.alloc (.cells c t)) g = true := by
  subst h; exact live_of (heap_alloc_new w _)

@[go_sem] theorem rowOf_setRow_ne (w : World) (g k : Nat) (c : Array Value) (h : k ≠ g) : rowOf (w.setRow g c) k = rowOf w k := rowOf_congr (setRow_other w g k c h)
@[go_sem] theorem rowOf_setRow_lt (w : World) (g k : Nat) (c : Array Value) (h : g < k) : rowOf (w.setRow g c) k = rowOf w k := rowOf_setRow_ne w g k c (by omega)
@[go_sem] theorem live_setRow (w : World) (g k : Nat) (c : Array Value) : live (w.setRow g c) k = live w k := by
  by_cases h : k = g
  · subst h
    unfold live World.setRow
    simp only [Array.getElem?_modify, if_true]
    cases hh : w.heap[k]? with
    | none => simp
    | some o =>
      cases o with
      | cells c' e f => obtain ⟨a, b⟩ := f; cases a <;> cases b <;> rfl
      | _ => rfl
  · exact live_congr (setRow_other w g k c h)
@[go_sem] theorem rowOf_setRow_same (w : World) (g : Nat) (c : Array Value) (h : live w g = true) : rowOf (w.setRow g c) g = c := by
  obtain ⟨t, h⟩ := live_obj h
  exact rowOf_of (setRow_heap w g _ c t _ h)
attribute [go_sem] setRow_setRow

@[go_sem] theorem size_setRow' (w : World) (g : Nat) (c : Array Value) : (w.setRow g c).heap.size = w.heap.size := setRow_size w g c

/-- What lies outside F, and was there, is as it was. -/
structure Fr (F : Nat → Prop) (w w' : World) : Prop where
  os : w'.os = w.os
  tape : w'.tape = w.tape
  output : w'.output = w.output
  size : w.heap.size ≤ w'.heap.size
  block : ∀ k, k < w.heap.size → ¬ F k → w'.heap[k]? = w.heap[k]?

theorem Fr.refl (F : Nat → Prop) (w : World) : Fr F w w := ⟨rfl, rfl, rfl, Nat.le_refl _, fun _ _ _ => rfl⟩
theorem Fr.trans {F G : Nat → Prop} {a b c : World} (h : Fr F a b) (k : Fr G b c) (hg : ∀ i, i < a.heap.size → G i → F i) : Fr F a c :=
  ⟨k.os.trans h.os, k.tape.trans h.tape, k.output.trans h.output, Nat.le_trans h.size k.size,
   fun i hi hF => (k.block i (Nat.lt_of_lt_of_le hi h.size) (fun hG => hF (hg i hi hG))).trans (h.block i hi hF)⟩
theorem Fr.mono {F G : Nat → Prop} {a b : World} (h : Fr F a b) (hg : ∀ i, i < a.heap.size → F i → G i) : Fr G a b :=
  ⟨h.os, h.tape, h.output, h.size, fun i hi hG => h.block i hi (fun hF => hG (hg i hi hF))⟩
theorem Fr.drew {F : Nat → Prop} {a w : World} (h : Fr F a w) : Fr F a w.drew := ⟨h.os, h.tape, h.output, h.size, h.block⟩
theorem Fr.drewN {F : Nat → Prop} {a w : World} (h : Fr F a w) (n : Nat) : Fr F a (w.drewN n) := ⟨h.os, h.tape, h.output, h.size, h.block⟩
theorem Fr.alloc {F : Nat → Prop} {a w : World} (h : Fr F a w) (o : Obj) : Fr F a (w.alloc o) :=
  ⟨h.os, h.tape, h.output, by have := h.size; simp; omega, fun k hk hF => (heap_alloc_lt w o k (Nat.lt_of_lt_of_le hk h.size)).trans (h.block k hk hF)⟩
theorem Fr.setRow {F : Nat → Prop} {a w : World} (h : Fr F a w) (g : Nat) (c : Array Value) (hg : g < a.heap.size → F g) : Fr F a (w.setRow g c) :=
  ⟨h.os, h.tape, h.output, by have := h.size; simp; omega, fun k hk hF => (setRow_other w g k c (fun e => hF (e ▸ hg (e ▸ hk)))).trans (h.block k hk hF)⟩
theorem Fr.setNew {F : Nat → Prop} {a w : World} (h : Fr F a w) {g : Nat} (hg : a.heap.size ≤ g) (c : Array Value) : Fr F a (w.setRow g c) := h.setRow g c (fun hh => absurd hh (by omega))
theorem Fr.below {F : Nat → Prop} {w w' : World} {B : Nat} (h : Fr F w w') (hB : B ≤ w.heap.size) (hF : ∀ k, k < B → ¬ F k) : Below B w w' :=
  ⟨h.os, h.tape, h.output, h.size, fun k hk => h.block k (Nat.lt_of_lt_of_le hk hB) (hF k hk)⟩
theorem Below.fr {w w' : World} (h : Below w.heap.size w w') : Fr (fun _ => False) w w' :=
  ⟨h.os, h.tape, h.output, h.size, fun k hk _ => h.block k hk⟩
theorem Fr.row {F : Nat → Prop} {w w' : World} (h : Fr F w w') {g : Nat} (hg : g < w.heap.size) (hF : ¬ F g) : rowOf w' g = rowOf w g := rowOf_congr (h.block g hg hF)
theorem Fr.liv {F : Nat → Prop} {w w' : World} (h : Fr F w w') {g : Nat} (hg : g < w.heap.size) (hF : ¬ F g) : live w' g = live w g := live_congr (h.block g hg hF)

end Go.Proofs.YteldfmgjbgedaaaGreat

namespace Go.Proofs.YteldfmgjbgedaaaGreat
open Go.RowKit

/-- n cells from place off on. -/
def cut (cur : Array Value) (off n : Nat) : Array Value := cur.extract off (off + n)
/-- The row with cs laid over it from place off on. -/
def blit (cur : Array Value) (off : Nat) (cs : Array Value) : Array Value := (cur.toList.take off ++ cs.toList ++ cur.toList.drop (off + cs.size)).toArray

def ones (cs : Array Value) : Prop := ∀ v ∈ cs, v.oneCell' = true

theorem cut_size {cur : Array Value} {off n : Nat} (h : off + n ≤ cur.size) : (cut cur off n).size = n := by simp [cut]; omega
theorem cut_get {cur : Array Value} {off n : Nat} (h : off + n ≤ cur.size) (i : Nat) (hi : i < n) : (cut cur off n)[i]? = cur[off + i]? := by
  simp [cut, Array.getElem?_extract]; omega
theorem blit_size {cur cs : Array Value} {off : Nat} (h : off + cs.size ≤ cur.size) : (blit cur off cs).size = cur.size := by simp [blit]; omega
theorem blit_in {cur cs : Array Value} {off : Nat} (h : off + cs.size ≤ cur.size) (i : Nat) (hi : i < cs.size) : (blit cur off cs)[off + i]? = cs[i]? := by
  simp only [blit, List.getElem?_toArray]
  rw [List.append_assoc, List.getElem?_append_right (by simp; omega), List.getElem?_append_left (by simp; omega)]
  simp; congr 1; omega
theorem blit_out {cur cs : Array Value} {off : Nat} (h : off + cs.size ≤ cur.size) (i : Nat) (hi : i < off ∨ off + cs.size ≤ i) : (blit cur off cs)[i]? = cur[i]? := by
  simp only [blit, List.getElem?_toArray]
  rcases hi with hi | hi
  · rw [List.append_assoc, List.getElem?_append_left (by simp; omega), List.getElem?_take]; simp [hi]
  · rw [List.getElem?_append_right (by simp; omega), List.getElem?_drop]
    simp; congr 1; omega
theorem blit_all {cur cs : Array Value} (h : cs.size = cur.size) : blit cur 0 cs = cs := by
  apply Array.ext'
  simp [blit, h]

theorem cut_ext {cur : Array Value} {off n : Nat} {l : Array Value} (hs : l.size = n) (h : off + n ≤ cur.size) (hh : ∀ i, i < n → cur[off + i]? = l[i]?) : cut cur off n = l := by
  apply Array.ext_getElem?
  intro i
  by_cases hi : i < n
  · rw [cut_get h i hi, hh i hi]
  · rw [Array.getElem?_eq_none (by rw [cut_size h]; omega), Array.getElem?_eq_none (by omega)]

theorem cut_blit_same {cur cs : Array Value} {off n : Nat} (hn : cs.size = n) (h : off + n ≤ cur.size) : cut (blit cur off cs) off n = cs := by
  subst hn
  exact cut_ext rfl (by rw [blit_size h]; omega) (fun i hi => blit_in h i hi)

theorem cut_blit_other {cur cs : Array Value} {off k n : Nat} (h : off + cs.size ≤ cur.size) (h2 : k + n ≤ cur.size) (hd : k + n ≤ off ∨ off + cs.size ≤ k) : cut (blit cur off cs) k n = cut cur k n := by
  apply cut_ext (cut_size h2) (by rw [blit_size h]; exact h2)
  intro i hi
  rw [blit_out h _ (by omega), cut_get h2 i hi]

section
variable {P : Program} (w : World)

theorem run_loadCells_row (g off n : Nat) (h : off + n ≤ (rowOf w g).size) : (loadCells ⟨g, off, none⟩ n).run P w = .ok (cut (rowOf w g) off n) w := by
  have hl := run_loadCells_list (P := P) w ⟨g, off, none⟩ (cut (rowOf w g) off n).toList (fun j v hv => by
    have hj : j < n := by
      have := List.getElem?_eq_some_iff.1 hv
      obtain ⟨hj, _⟩ := this
      simp [cut_size h] at hj
      exact hj
    rw [Addr.add_lit, cell?_row, ← cut_get h j hj]
    simpa using hv)
  simpa [cut_size h] using hl

theorem run_loadAt_big (t : TypeId) (n : Nat) {d : TypeDesc} (hu : P.underlying t = some d) (hd : (match d with | .struct _ | .array _ _ => true | _ => false) = true)
    (hi : (P.info? t).map (·.size) = some n) (g off : Nat) (h : off + n ≤ (rowOf w g).size) :
    (Instr.loadAt t (.pointer (some ⟨g, off, none⟩))).run P w = .ok (.agg (cut (rowOf w g) off n)) w := by
  cases hq : P.info? t with
  | none => simp [hq] at hi
  | some i =>
    have hs : i.size = n := by simpa [hq] using hi
    have hagg : (isAgg t).run P w = .ok true w := by
      unfold isAgg
      rw [Sem.run_bind, run_underlying hu w]
      cases d <;> simp_all
    simp only [Instr.loadAt, Instr.sureAddr, loadVar, Sem.run_bind, Sem.run_pure, Result.andThen_ok, hagg, if_true, sizeOf, typeInfo]
    simp [hq, hs, run_loadCells_row w g off n h]

theorem run_storeCells_row (g off : Nat) (cs : Array Value) (hl : live w g = true) (h : off + cs.size ≤ (rowOf w g).size) (h1 : ones cs) :
    (storeCells ⟨g, off, none⟩ cs.toList 0).run P w = .ok () (w.setRow g (blit (rowOf w g) off cs)) := by
  obtain ⟨t, hg⟩ := live_obj hl
  have := run_storeCells_at P g off t cs.toList 0 (rowOf w g) w hg (by simpa using h) (fun v hv => h1 v (by simpa using hv))
  simpa [blit] using this

theorem run_storeAt_big (t : TypeId) (g off : Nat) (cs : Array Value) (hi : (P.info? t).map (·.size) = some cs.size)
    (hl : live w g = true) (h : off + cs.size ≤ (rowOf w g).size) (h1 : ones cs) :
    (Instr.storeAt t (.pointer (some ⟨g, off, none⟩)) (.agg cs)).run P w = .ok () (w.setRow g (blit (rowOf w g) off cs)) := by
  cases hq : P.info? t with
  | none => simp [hq] at hi
  | some i =>
    have hs : i.size = cs.size := by simpa [hq] using hi
    simp only [Instr.storeAt, Instr.sureAddr, storeVar, Sem.run_bind, Sem.run_pure, Result.andThen_ok, sizeOf, typeInfo]
    simp [hq, hs, Value.cells, run_storeCells_row w g off cs hl h h1]

/-- A slice's first n * size cells. -/
theorem run_firstCells_row (size n : Nat) (g off len cap : Nat) (h : off + n * size ≤ (rowOf w g).size) :
    (Builtin.firstCells size n (.slice (some ⟨g, off, none⟩) len cap)).run P w = .ok (cut (rowOf w g) off (n * size)) w := by
  simp only [Builtin.firstCells]
  exact run_loadCells_row w g off (n * size) h

/-- What an append of m elements (news) to a slice of n elements (xs, from the head of a row of its own, or nil) leaves. -/
structure Appended (w w' : World) (v' : Value) (size n m : Nat) (xs news : List Value) (v : Value) : Prop where
  ex : (n + m = 0 ∧ v' = v ∧ w' = w) ∨ (∃ g' cap', v' = .slice (some ⟨g', 0, none⟩) (n + m) cap' ∧ n + m ≤ cap' ∧ cap' ≤ maxLen ∧ live w' g' = true ∧ (rowOf w' g').size = cap' * size ∧
    (rowOf w' g').toList.take ((n + m) * size) = xs ++ news ∧ (v.ownBlock = some g' ∨ w.heap.size ≤ g'))
  fr : Fr (fun k => v.ownBlock = some k) w w'

/-- A slice of n elements that lies at the head of a row of its own; or nil. -/
def OwnSl (w : World) (size : Nat) (v : Value) (n : Nat) (xs : List Value) : Prop :=
  xs.length = n * size ∧ ((v = .slice none 0 0 ∧ n = 0) ∨
    ∃ g cap, v = .slice (some ⟨g, 0, none⟩) n cap ∧ live w g = true ∧ n ≤ cap ∧ cap ≤ maxLen ∧ (rowOf w g).size = cap * size ∧ (rowOf w g).toList.take (n * size) = xs)

theorem run_append_row (t ty e : TypeId) (i : TypeInfo) (z : Value) (size bytes : Nat) (ht : P.underlying t = some (.slice e)) (hi : P.info? e = some i) (hz : i.zero = some z)
    (hsize : i.size = size) (hby : i.bytes = bytes) (hzs : z.cells.size = size) (_hsz : 0 < size)
    (v : Value) (n : Nat) (xs : List Value) (hown : OwnSl w size v n xs)
    (a : Option Addr) (m c : Nat) (news : List Value) (hl : news.length = m * size)
    (hnews : m = 0 ∨ ∃ ad, a = some ad ∧ ∀ j u, news[j]? = some u → w.cell? (ad.add j) = some u) (h1 : ∀ u ∈ news, u.oneCell' = true)
    (h63 : n + m ≤ maxLen) (hfit : ∀ cap, n ≤ cap → cap < n + m → Builtin.nextslicecap (n + m) cap * bytes ≤ 281474976710656) :
    ∃ v' w', (Builtin.append_ #[t, t] ty #[v, .slice a m c]).run P w = .ok v' w' ∧ Appended w w' v' size n m xs news v := by
  subst hsize hby
  have hsmall : n + m ≤ 9223372036854775807 := by simp only [maxLen] at h63; omega
  obtain ⟨hxl, hv⟩ := hown
  have hlen : (xs ++ news).length = (n + m) * i.size := by rw [List.length_append, hxl, hl, Nat.add_mul]
  have grown : ∀ (old : Nat), old < n + m → Appended w (w.drew.alloc (.cells (xs.toArray ++ news.toArray ++ Builtin.zeroCells z.cells (grownCap w (n + m) old e - (n + m))) e))
        (.slice (some ⟨w.heap.size, 0, none⟩) (n + m) (grownCap w (n + m) old e)) i.size n m xs news v := by
    intro old ho
    have hge := grownCap_ge w (n + m) old e
    have hcm : grownCap w (n + m) old e ≤ maxLen := grownCap_le_maxLen w (n + m) old e h63
    refine ⟨.inr ⟨w.heap.size, _, rfl, hge, hcm, live_alloc_at _ _ _ _ rfl, ?_, ?_, .inr (Nat.le_refl _)⟩, (Fr.refl _ _).drew.alloc _⟩
    · rw [rowOf_alloc_at _ _ _ _ _ (by rfl)]
      simp only [Array.size_append, List.size_toArray, size_zeroCells, hzs, hxl, hl, ← Nat.add_mul]
      congr 1
      omega
    · rw [rowOf_alloc_at _ _ _ _ _ (by rfl)]
      simp only [Array.toList_append, List.append_assoc]
      rw [← List.append_assoc, ← hlen]
      exact List.take_left
  by_cases hm : m = 0
  · subst hm
    have hn0 : news = [] := List.eq_nil_of_length_eq_zero (by simpa using hl)
    subst hn0
    have hrun : (Builtin.append_ #[t, t] ty #[v, .slice a 0 c]).run P w = .ok v w := by
      have hf : (Builtin.firstCells i.size 0 (.slice a 0 c)).run P w = .ok #[] w := by
        cases a with
        | none => simp [Builtin.firstCells]
        | some ad => simp [Builtin.firstCells, loadCells, loadCellsFrom]
      rcases hv with ⟨rfl, rfl⟩ | ⟨g, cap, rfl, hlv, hnc, hcm, hcs, htake⟩
      · simp [Builtin.append_, run_underlying ht, sizeOf, typeInfo, hi, Builtin.lenOf, hf]
      · simp [Builtin.append_, run_underlying ht, sizeOf, typeInfo, hi, Builtin.lenOf, hnc, hf, storeCells]
    refine ⟨v, w, hrun, ?_, Fr.refl _ _⟩
    rcases hv with ⟨rfl, rfl⟩ | ⟨g, cap, rfl, hlv, hnc, hcm, hcs, htake⟩
    · exact .inl ⟨rfl, rfl, rfl⟩
    · exact .inr ⟨g, cap, rfl, hnc, hcm, hlv, hcs, by simpa using htake, .inl rfl⟩
  · obtain ⟨ad, rfl, hnew⟩ := hnews.resolve_left hm
    rcases hv with ⟨rfl, rfl⟩ | ⟨g, cap, rfl, hlv, hnc, hcm, hcs, htake⟩
    · have hx : xs = [] := List.eq_nil_of_length_eq_zero (by simpa using hxl)
      subst hx
      have hr := run_append_nil (P := P) w t ty e i z ht hi hz ad m c news hl hnew (by omega) (by omega) (by have := hfit 0 (by omega) (by omega); rw [Nat.zero_add, nextslicecap_zero (by omega)] at this; exact this)
      have hgr := grown 0 (by omega)
      simp only [Nat.zero_add, Array.empty_append] at hgr ⊢
      exact ⟨_, _, hr, hgr⟩
    · obtain ⟨t', hg⟩ := live_obj hlv
      by_cases hroom : n + m ≤ cap
      · have hfit2 : n * i.size + news.length ≤ (rowOf w g).size := by rw [hl, hcs, ← Nat.add_mul]; exact Nat.mul_le_mul_right _ hroom
        have hf := run_firstCells_some (P := P) w i.size m ad m c news hl hnew
        have hst := run_storeCells_at P g (n * i.size) t' news 0 (rowOf w g) w hg (by simpa using hfit2) h1
        simp only [Nat.add_zero] at hst
        have hr : (Builtin.append_ #[t, t] ty #[.slice (some ⟨g, 0, none⟩) n cap, .slice (some ad) m c]).run P w =
            .ok (.slice (some ⟨g, 0, none⟩) (n + m) cap) (w.setRow g ((rowOf w g).toList.take (n * i.size) ++ news ++ (rowOf w g).toList.drop (n * i.size + news.length)).toArray) := by
          simp [Builtin.append_, run_underlying ht, sizeOf, typeInfo, hi, Builtin.lenOf, hroom, hf, Addr.add_lit, hst]
        refine ⟨_, _, hr, .inr ⟨g, cap, rfl, hroom, hcm, by rw [live_setRow]; exact hlv, ?_, ?_, .inl rfl⟩, (Fr.refl _ _).setRow _ _ (fun _ => rfl)⟩
        · rw [rowOf_setRow_same w g _ hlv]
          simp only [List.size_toArray, List.length_append, List.length_take, List.length_drop, Array.length_toList]
          omega
        · rw [rowOf_setRow_same w g _ hlv, htake, ← hlen]
          exact List.take_left
      · have hholds : ∀ j u, xs[j]? = some u → w.cell? ((⟨g, 0, none⟩ : Addr).add j) = some u := by
          intro j u hu
          rw [Addr.add_lit, cell?_row, Nat.zero_add]
          rw [← htake, List.getElem?_take] at hu
          split at hu
          · simpa using hu
          · cases hu
        have hr := run_append_grow (P := P) w t ty e i z ht hi hz ⟨g, 0, none⟩ n cap xs hxl hholds ad m c news hl hnew (by omega) (by omega) (hfit cap hnc (by omega))
        exact ⟨_, _, hr, grown cap (by omega)⟩

end

end Go.Proofs.YteldfmgjbgedaaaGreat
