/-
  The wide types of package disk: a block of 64 bytes (110), a write (112): their operations as single laws for the walk.
-/
import Derived.Test.YtflnlpbcmcfblaaBase2
import Derived.Test.YtflnlpbcmcfblaaRows
namespace Go.Proofs.Ytflnlpbcmcfblaa
open Go.RowKit

def loadBig (t : TypeId) (v : Value) : Sem Value := Instr.loadAt t v
def storeBig (t : TypeId) (a v : Value) : Sem Unit := Instr.storeAt t a v
def allocBig (t : TypeId) : Sem Value := Instr.alloc t true (.tuple #[])
def buildBig (t : TypeId) (x y : Value) : Sem Value := Instr.build t #[(0, x), (1, y)]
def buildSliceBig (t : TypeId) (x : Value) : Sem Value := Instr.buildSlice t 1 #[(0, x)]

section
variable (ρ : Operand → Value) (dst : Option Tmp) (x y : Operand) (type : TypeId) (pos : String) (after : Array Edge) (guard : Option (Nat × Bool))
@[go_sem ↓] theorem execOp_load110 : execOp ρ { dst, op := .load 110 x, type, pos, after, guard } = (do pure (.value (← loadBig 110 (ρ x)))) := rfl
@[go_sem ↓] theorem execOp_load112 : execOp ρ { dst, op := .load 112 x, type, pos, after, guard } = (do pure (.value (← loadBig 112 (ρ x)))) := rfl
@[go_sem ↓] theorem execOp_store110 : execOp ρ { dst, op := .store 110 x y, type, pos, after, guard } = (do storeBig 110 (ρ x) (ρ y); pure .skip) := rfl
@[go_sem ↓] theorem execOp_store112 : execOp ρ { dst, op := .store 112 x y, type, pos, after, guard } = (do storeBig 112 (ρ x) (ρ y); pure .skip) := rfl
@[go_sem ↓] theorem execOp_alloc110 : execOp ρ { dst, op := .alloc 110, type, pos, after, guard } = (do pure (.value (← allocBig 110))) := rfl
@[go_sem ↓] theorem execOp_alloc112 : execOp ρ { dst, op := .alloc 112, type, pos, after, guard } = (do pure (.value (← allocBig 112))) := rfl
@[go_sem ↓] theorem execOp_build112 : execOp ρ { dst, op := .build 112 #[(0, x), (1, y)], type, pos, after, guard } = (do pure (.value (← buildBig 112 (ρ x) (ρ y)))) := by simp [execOp, buildBig]
@[go_sem ↓] theorem execOp_buildSlice67 : execOp ρ { dst, op := .buildSlice 67 1 #[(0, x)], type, pos, after, guard } = (do pure (.value (← buildSliceBig 67 (ρ x)))) := by simp [execOp, buildSliceBig]
end
attribute [go_sem high] execOp_load110 execOp_load112 execOp_store110 execOp_store112 execOp_alloc110 execOp_alloc112 execOp_build112 execOp_buildSlice67

/-- The cells of a write. -/
def wrC (n : Int) (cs : Array Value) : Array Value := #[.int .i64 n] ++ cs
theorem wrC_size (n : Int) (cs : Array Value) : (wrC n cs).size = cs.size + 1 := by simp [wrC]; omega
@[go_sem] theorem wrC_get0 (n : Int) (cs : Array Value) (h : 0 < (wrC n cs).size) : (wrC n cs)[0] = .int .i64 n := by simp [wrC]
theorem wrC_0 (n : Int) (cs : Array Value) : (wrC n cs)[0]? = some (.int .i64 n) := by simp [wrC, Array.getElem?_append]
theorem wrC_cut (n : Int) (cs : Array Value) (h : cs.size = 64) : cut (wrC n cs) 1 64 = cs := by
  apply cut_ext h (by rw [wrC_size]; omega)
  intro i hi
  simp [wrC, Array.getElem?_append]
theorem wrC_ones {n : Int} {cs : Array Value} (h : ones cs) : ones (wrC n cs) := by
  intro v hv
  simp [wrC] at hv
  rcases hv with rfl | hv
  · rfl
  · exact h v hv

theorem size110 : (Try.prog.info? 110).map (·.size) = some 64 := by kernel_rfl
theorem size112 : (Try.prog.info? 112).map (·.size) = some 65 := by kernel_rfl
theorem info110 : (Try.prog.info? 110).map (fun i => (i.zero, i.size, i.bytes)) = some (some (.agg (Array.replicate 64 (.int .u8 0))), 64, 64) := by kernel_rfl
def zero112 : Array Value := wrC 0 (Array.replicate 64 (.int .u8 0))
@[go_sem] theorem zero112_size : zero112.size = 65 := by simp [zero112, wrC_size]
theorem info112 : (Try.prog.info? 112).map (fun i => (i.zero, i.size, i.bytes)) = some (some (.agg zero112), 65, 72) := by kernel_rfl

section
variable (w : World)
@[go_sem] theorem run_load110 (g off : Nat) (h : off + 64 ≤ (rowOf w g).size) :
    (loadBig 110 (.pointer (some ⟨g, off, none⟩))).run Try.prog w = .ok (.agg (cut (rowOf w g) off 64)) w :=
  run_loadAt_big w 110 64 Try.underlying110 rfl size110 g off h
@[go_sem] theorem run_load112 (g off : Nat) (h : off + 65 ≤ (rowOf w g).size) :
    (loadBig 112 (.pointer (some ⟨g, off, none⟩))).run Try.prog w = .ok (.agg (cut (rowOf w g) off 65)) w :=
  run_loadAt_big w 112 65 Try.underlying112 rfl size112 g off h
@[go_sem] theorem run_store110 (g off : Nat) (cs : Array Value) (hs : cs.size = 64) (hl : live w g = true) (h : off + 64 ≤ (rowOf w g).size) (h1 : ones cs) :
    (storeBig 110 (.pointer (some ⟨g, off, none⟩)) (.agg cs)).run Try.prog w = .ok () (w.setRow g (blit (rowOf w g) off cs)) :=
  run_storeAt_big w 110 g off cs (by rw [hs]; exact size110) hl (by omega) h1
@[go_sem] theorem run_store112 (g off : Nat) (cs : Array Value) (hs : cs.size = 65) (hl : live w g = true) (h : off + 65 ≤ (rowOf w g).size) (h1 : ones cs) :
    (storeBig 112 (.pointer (some ⟨g, off, none⟩)) (.agg cs)).run Try.prog w = .ok () (w.setRow g (blit (rowOf w g) off cs)) :=
  run_storeAt_big w 112 g off cs (by rw [hs]; exact size112) hl (by omega) h1
@[go_sem] theorem run_alloc110 : (allocBig 110).run Try.prog w = .ok (.pointer (some ⟨w.heap.size, 0, none⟩)) (w.alloc (.cells (Array.replicate 64 (.int .u8 0)) 110)) := by
  obtain ⟨i, hi, hz, hs, hb⟩ := info_parts info110
  simp [allocBig, Instr.alloc, zeroValue, typeInfo, hi, hz, newVar, newRow, Value.cells]
@[go_sem] theorem run_alloc112 : (allocBig 112).run Try.prog w = .ok (.pointer (some ⟨w.heap.size, 0, none⟩)) (w.alloc (.cells zero112 112)) := by
  obtain ⟨i, hi, hz, hs, hb⟩ := info_parts info112
  simp [allocBig, Instr.alloc, zeroValue, typeInfo, hi, hz, newVar, newRow, Value.cells]

/-- A store of a whole new variable. -/
@[go_sem] theorem setRow_alloc_at (o : Array Value) (t : TypeId) (g : Nat) (c : Array Value) (h : g = w.heap.size) :
    (w.alloc (.cells o t)).setRow g c = w.alloc (.cells c t) := by
  subst h
  unfold World.setRow World.alloc
  congr 1
  apply Array.ext_getElem?
  intro k
  rw [Array.getElem?_modify]
  by_cases hk : w.heap.size = k
  · subst hk; simp
  · have hk' : k ≠ w.heap.size := fun e => hk e.symm
    simp [hk, hk', Array.getElem?_push]
@[go_sem] theorem blit_zero112 (cs : Array Value) (h : cs.size = 65) : blit zero112 0 cs = cs := blit_all (by rw [h, zero112_size])
@[go_sem] theorem blit_zero110 (cs : Array Value) (h : cs.size = 64) : blit (Array.replicate 64 (.int .u8 0)) 0 cs = cs := blit_all (by simp [h])

theorem foldl_set (cs : List Value) : ∀ (cur : Array Value) (o : Nat), o + cs.length ≤ cur.size →
    (cs.zipIdx.foldl (fun c (p : Value × Nat) => c.setIfInBounds (o + p.2) p.1) cur) = (cur.toList.take o ++ cs ++ cur.toList.drop (o + cs.length)).toArray := by
  intro cur o
  have key : ∀ (cs : List Value) (cur : Array Value) (k : Nat), o + k + cs.length ≤ cur.size →
      ((cs.zipIdx k).foldl (fun c (p : Value × Nat) => c.setIfInBounds (o + p.2) p.1) cur) = (cur.toList.take (o + k) ++ cs ++ cur.toList.drop (o + k + cs.length)).toArray := by
    intro cs
    induction cs with
    | nil => intro cur k _; simp
    | cons v rest ih =>
      intro cur k h
      simp only [List.zipIdx_cons, List.foldl_cons]
      rw [ih (cur.setIfInBounds (o + k) v) (k + 1) (by simp at h ⊢; omega)]
      have e := list_seg_step cur.toList (o + k) v rest (by simp at h ⊢; omega)
      congr 1
      simpa [Array.toList_setIfInBounds, Nat.add_assoc] using e
  intro h
  simpa using key cs cur 0 (by simpa using h)

theorem foldl_setA (cs cur : Array Value) (o : Nat) (h : o + cs.size ≤ cur.size) :
    cs.zipIdx.foldl (fun c (p : Value × Nat) => c.setIfInBounds (o + p.2) p.1) cur = blit cur o cs := by
  have := foldl_set cs.toList cur o (by simpa using h)
  rw [← Array.foldl_toList, Array.toList_zipIdx, this]
  simp [blit]

theorem fill_step (place : Nat → Option (Nat × Nat)) (cells : Array Value) (i : Nat) (v : Value) (rest : List (Nat × Value)) (off size : Nat)
    (hp : place i = some (off, size)) (hs : v.cells.size = size) (hf : off + v.cells.size ≤ cells.size) :
    Instr.fill place cells ((i, v) :: rest) = Instr.fill place (blit cells off v.cells) rest := by
  rw [Instr.fill, hp]
  show (if v.cells.size ≠ size || off + v.cells.size > cells.size then none else Instr.fill place (v.cells.zipIdx.foldl (fun cs (x : Value × Nat) => cs.setIfInBounds (off + x.2) x.1) cells) rest) = _
  rw [if_neg (by simp [hs] at hf ⊢; omega), foldl_setA _ _ _ hf]

theorem blit_wrC (n : Int) (cs : Array Value) (h : cs.size = 64) : blit (blit zero112 0 #[.int .i64 n]) 1 cs = wrC n cs := by
  apply Array.ext_getElem?
  intro k
  have hz1 : (blit zero112 0 #[Value.int IntKind.i64 n]).size = 65 := by rw [blit_size (by simp [zero112_size]), zero112_size]
  by_cases hk : k = 0
  · subst hk
    rw [blit_out (by rw [hz1]; omega) 0 (by omega), wrC_0]
    have := blit_in (cur := zero112) (cs := #[Value.int IntKind.i64 n]) (off := 0) (by simp [zero112_size]) 0 (by simp)
    simpa using this
  · by_cases hk2 : k < 65
    · obtain ⟨j, rfl⟩ : ∃ j, k = 1 + j := ⟨k - 1, by omega⟩
      rw [blit_in (by rw [hz1]; omega) j (by omega)]
      simp [wrC, Array.getElem?_append]
    · rw [Array.getElem?_eq_none (by rw [blit_size (by rw [hz1]; omega), hz1]; omega), Array.getElem?_eq_none (by rw [wrC_size]; omega)]

/-- The same build as the elder walk of a region leaves it. -/
@[go_sem] theorem fold112 (n : Int) (cs : Array Value) (h : cs.size = 64) :
    Array.foldl (fun (cs : Array Value) (x : Value × Nat) => cs.setIfInBounds (1 + x.snd) x.fst) (Try.zeroCells112.setIfInBounds 0 (.int .i64 n)) cs.zipIdx 0 64 = wrC n cs := by
  have hz : Try.zeroCells112 = zero112 := by kernel_rfl
  have e : zero112.setIfInBounds 0 (.int .i64 n) = blit zero112 0 #[.int .i64 n] := by
    rw [← foldl_setA _ _ _ (by simp [zero112_size])]; simp
  have h2 : cs.zipIdx.size = 64 := by simp [h]
  rw [hz, e, ← blit_wrC n cs h, ← foldl_setA cs _ 1 (by rw [blit_size (by simp [zero112_size]), zero112_size]; omega), h2]

@[go_sem] theorem run_build112 (n : Int) (cs : Array Value) (h : cs.size = 64) :
    (buildBig 112 (.int .i64 n) (.agg cs)).run Try.prog w = .ok (.agg (wrC n cs)) w := by
  refine run_build (P := Try.prog) w 112 #[(0, .int .i64 n), (1, .agg cs)] (wrC n cs) ?_
  obtain ⟨i, hi, hz, hs, hb⟩ := info_parts info112
  have h3 : (Try.prog.info? 3).map (·.size) = some 1 := by kernel_rfl
  cases h3' : Try.prog.info? 3 with
  | none => simp [h3'] at h3
  | some i3 =>
    cases h4' : Try.prog.info? 110 with
    | none => have := size110; simp [h4'] at this
    | some i4 =>
      have e3 : i3.size = 1 := by simpa [h3'] using h3
      have e4 : i4.size = 64 := by simpa [h4'] using size110
      simp only [Program.built, hi, Try.underlying112, hz]
      simp only [List.mapM_cons, List.mapM_nil, h3', h4', Option.map_some, e3, e4]
      simp only [Option.bind_eq_bind, Option.bind_some, Option.pure_def]
      rw [fill_step _ _ 0 _ _ 0 1 (by simp) (by rfl) (by simp [Value.cells, zero112_size])]
      rw [fill_step _ _ 1 _ _ 1 64 (by simp) (by simpa [Value.cells] using h) (by rw [blit_size (by simp [Value.cells, zero112_size])]; simp [Value.cells, zero112_size, h])]
      simp only [Instr.fill, Value.cells, Option.some.injEq]
      exact blit_wrC n cs h

@[go_sem] theorem run_buildSlice67 (cs : Array Value) (h : cs.size = 65) :
    (buildSliceBig 67 (.agg cs)).run Try.prog w = .ok (.slice (some ⟨w.heap.size, 0, none⟩) 1 1) (w.alloc (.cells cs 112)) := by
  obtain ⟨i, hi, hz, hs, hb⟩ := info_parts info112
  unfold buildSliceBig Instr.buildSlice
  have e1 : (Array.map (fun x => zero112[x % zero112.size]!) (Array.range (1 * 65))).size = 65 := by simp
  simp only [Sem.run_bind, run_underlying Try.underlying67, Result.andThen_ok, sizeOf, typeInfo, zeroValue]
  simp [hi, hs, hz, Value.cells, newRow]
  rw [fill_step _ _ 0 _ _ 0 65 (by simp) (by simpa [Value.cells] using h) (by simp [Value.cells, h])]
  simp only [Instr.fill, Value.cells]
  rw [blit_all (by simp [h])]
  simp

@[go_sem] theorem run_arrayAt110 (a : Option Addr) (len cap : Nat) (h : 64 ≤ len) : (Instr.arrayAt 110 (.slice a len cap)).run Try.prog w = .ok (.pointer a) w := by
  have : ¬ (len < 64) := by omega
  simp [Instr.arrayAt, run_underlying Try.underlying110, this]

end

end Go.Proofs.Ytflnlpbcmcfblaa
