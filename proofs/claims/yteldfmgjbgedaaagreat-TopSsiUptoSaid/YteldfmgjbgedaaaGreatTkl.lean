/-
  The library's sorts, at slices of the call's own: from rows to the shelf's words, and back.
  The library's sorts of numbers, the search, Compact: proved from the shelf.
-/
import Derived.Test.YteldfmgjbgedaaaGreatTaf
import Derived.Shelf.SlSortCmp.WholeK
import Derived.Shelf.SlSortCmp.Whole1
import Derived.Shelf.SlGeneric
import Derived.Shelf.SortM.Plain
import Derived.Shelf.SortM.SortNone
import Derived.Shelf.SlicesG.SearchI
import Derived.Shelf.SlicesG.CompactI
import Derived.Shelf.SlicesG.Cmp
import Derived.Shelf.SlSortCmp.NoneTotal
import Derived.Ground.SlgmProg
import Derived.Ground.SlgnProg
import Derived.Ground.SlsfProg
import Derived.Ground.SlgcProg
namespace Go.Proofs.YteldfmgjbgedaaaGreat
open Go.RowKit Go.Maps Go.Sort

/-- A row laid, the world grown: what is there. -/
theorem putRow_facts {w : World} {g : Nat} (hl : live w g = true) (F : Array Value) (m : Nat) (os : Array Obj) :
    live (grow (putRow id (Sort.ahead w m) g 0 F) os) g = true ∧ rowOf (grow (putRow id (Sort.ahead w m) g 0 F) os) g = putCells id 0 F (rowOf w g) ∧ Fr (fun k => k = g) w (grow (putRow id (Sort.ahead w m) g 0 F) os) := by
  obtain ⟨t, ht⟩ := live_obj hl
  have hlt := live_lt hl
  have hg : (grow (putRow id (Sort.ahead w m) g 0 F) os).heap[g]? = some (.cells (putCells id 0 F (rowOf w g)) t (0, 0)) := by
    show ((w.heap.modify g (onCells (putCells id 0 F))) ++ os)[g]? = _
    rw [Array.getElem?_append_left (by rw [Array.size_modify]; exact hlt), Array.getElem?_modify, if_pos rfl, ht]
    rfl
  refine ⟨by unfold live; rw [hg]; rfl, rowOf_of hg, rfl, rfl, rfl, ?_, fun k hk hn => ?_⟩
  · show w.heap.size ≤ ((w.heap.modify g (onCells (putCells id 0 F))) ++ os).size
    rw [Array.size_append, Array.size_modify]; omega
  · show ((w.heap.modify g (onCells (putCells id 0 F))) ++ os)[k]? = _
    rw [Array.getElem?_append_left (by rw [Array.size_modify]; exact hk), Array.getElem?_modify, if_neg (fun e => hn e.symm)]

theorem putRow_map {α : Type} [Inhabited α] (enc : α → Value) (w : World) (blk : Nat) (d : Array α) : putRow enc w blk 0 d = putRow id w blk 0 (d.map enc) := by
  unfold putRow
  congr 1
  funext c
  unfold putCells
  congr 1
  funext k x
  simp only [Nat.zero_le, true_and, Nat.zero_add, Nat.sub_zero, Array.size_map, id]
  by_cases h : k < d.size
  · rw [if_pos h, if_pos h, getElem!_pos d k h, getElem!_pos (d.map enc) k (by simpa using h), Array.getElem_map]
  · rw [if_neg h, if_neg h]

theorem get_putCells {F c : Array Value} {j : Nat} (h1 : j < F.size) (h2 : j < c.size) : (putCells id 0 F c)[j]? = some F[j]! := by
  unfold putCells
  rw [Array.getElem?_mapIdx, Array.getElem?_eq_getElem h2]
  simp [h1]
theorem size_putCells (F c : Array Value) : (putCells id 0 F c).size = c.size := by simp [putCells]

def encRows {α : Type} (enc : α → List Value) (xs : List α) : List (Array Value) := xs.map fun x => (enc x).toArray
theorem encRows_length {α : Type} (enc : α → List Value) (xs : List α) : (encRows enc xs).length = xs.length := by simp [encRows]

section
variable {α : Type} [Inhabited α] {enc : α → List Value} {k : Nat} {w : World} {g n cap base : Nat} {xs ys : List α}

theorem flat_get (hk : ∀ x, (enc x).length = k) {i c : Nat} (hi : i < xs.length) (hc : c < k) : i * k + c < xs.length * k ∧ some (flatK enc k xs.toArray)[i * k + c]! = ((encRows enc xs)[i]'(by rw [encRows_length]; exact hi))[c]? := by
  have lt : i * k + c < xs.length * k := by
    have := Nat.mul_le_mul_right k (show i + 1 ≤ xs.length from hi); rw [Nat.add_mul, Nat.one_mul] at this; omega
  have e1 : (i * k + c) / k = i := (blk_iff k i _ (by omega)).1 ⟨by omega, by omega⟩
  have e2 : (i * k + c) % k = c := by rw [Nat.mod_eq_sub_div_mul, e1]; omega
  refine ⟨lt, ?_⟩
  rw [get_flatK _ _ _ _ (by simpa using lt), e1, e2]
  simp only [encRows, List.getElem_map, List.getElem?_toArray]
  rw [getElem!_pos xs.toArray i (by simpa using hi), List.getElem_toArray, getElem!_pos (enc xs[i]) c (by rw [hk]; exact hc), List.getElem?_eq_getElem (by rw [hk]; exact hc)]

theorem own_holds (hk : ∀ x, (enc x).length = k) (h : OwnRows w (.slice (some ⟨g, 0, none⟩) n cap) k (encRows enc xs) base) : HoldsK enc k w g 0 xs.toArray := by
  intro j hj
  rw [size_flatK] at hj
  have hj : j < xs.length * k := by simpa using hj
  have k0 : 0 < k := by rcases Nat.eq_zero_or_pos k with e | e; · subst e; simp at hj
                        · exact e
  have hi : j / k < xs.length := Nat.div_lt_of_lt_mul (by rwa [Nat.mul_comm] at hj)
  have hc : j % k < k := Nat.mod_lt _ k0
  have ej : j / k * k + j % k = j := by rw [Nat.mul_comm]; exact Nat.div_add_mod j k
  obtain ⟨g', he, -, hl, -, -, -, hget⟩ := h.get (k := j / k) (by rw [encRows_length]; exact hi)
  injection he with he
  injection he with he _ _
  subst he
  have h1 := hget (j % k) hc
  rw [ej] at h1
  have h2 := (flat_get hk hi hc).2
  rw [ej] at h2
  rw [Nat.zero_add]
  refine ⟨?_, frozen?_row w g j hl⟩
  rw [cell?_row, h1, ← h2]; rfl

theorem own_sorted (hk : ∀ x, (enc x).length = k) (_k0 : 0 < k) (h : OwnRows w (.slice (some ⟨g, 0, none⟩) n cap) k (encRows enc xs) base) (hl : ys.length = xs.length) (m : Nat) (os : Array Obj) :
    OwnRows (sortWorldK enc k w g 0 m ys.toArray os) (.slice (some ⟨g, 0, none⟩) n cap) k (encRows enc ys) base ∧ Fr (fun i => i = g) w (sortWorldK enc k w g 0 m ys.toArray os) := by
  rcases h with ⟨e, -⟩ | ⟨g', cap', e, h1, h2, h3, h4, h5, h6⟩
  · cases e
  · injection e with e1 e2 e3
    injection e1 with e1
    injection e1 with e1 _ _
    subst e1 e2 e3
    rw [encRows_length] at h3
    obtain ⟨a1, a2, a3⟩ := putRow_facts h2 (flatK enc k ys.toArray) m os
    refine ⟨.inr ⟨g, cap, by rw [encRows_length, encRows_length, hl], h1, a1, by rw [encRows_length, hl]; exact h3, h4, ?_, fun i hi => ?_⟩, a3⟩
    · show (rowOf (grow (putRow id (Sort.ahead w m) g 0 (flatK enc k ys.toArray)) os) g).size = _
      rw [a2, size_putCells]; exact h5
    · rw [encRows_length] at hi
      show cut (rowOf (grow (putRow id (Sort.ahead w m) g 0 (flatK enc k ys.toArray)) os) g) (i * k) k = _
      rw [a2]
      have hb : i * k + k ≤ cap * k := by have := Nat.mul_le_mul_right k (show i + 1 ≤ cap by omega); rw [Nat.add_mul, Nat.one_mul] at this; exact this
      refine cut_ext (by simp [encRows, hk]) (by rw [size_putCells, h5]; exact hb) (fun q hq => ?_)
      obtain ⟨f1, f2⟩ := flat_get hk hi hq
      rw [get_putCells (by simpa using f1) (by rw [h5]; omega), f2]

theorem flat_one (enc : α → Value) (d : Array α) : flatK (fun x => [enc x]) 1 d = d.map enc := by
  refine Array.ext (by simp) (fun i h1 h2 => ?_)
  have hi : i < d.size := by simpa using h2
  have := get_flatK (fun x => [enc x]) 1 d i (by omega)
  rw [getElem!_pos _ i h1] at this
  rw [this, Array.getElem_map, Nat.div_one, Nat.mod_one, getElem!_pos d i hi]; rfl
theorem sortWorld_one (enc : α → Value) (w : World) (g m : Nat) (d : Array α) (os : Array Obj) : sortWorld enc w g 0 m d os = sortWorldK (fun x => [enc x]) 1 w g 0 m d os := by
  unfold sortWorld sortWorldK putRowK
  rw [putRow_map, flat_one]
theorem holds_one (enc : α → Value) {d : Array α} (h : HoldsK (fun x => [enc x]) 1 w g 0 d) : Holds enc w g 0 d := by
  intro j hj
  have := h j (by rw [size_flatK]; omega)
  rw [flat_one, getElem!_pos (d.map enc) j (by simpa using hj), Array.getElem_map] at this
  rw [getElem!_pos d j hj]; exact this
theorem permIn_perm {d d' : Array α} (h : PermIn 0 d.size d d') : d'.toList.Perm d.toList := by
  obtain ⟨h1, -, h3⟩ := h
  have e1 : d'.extract 0 d.size = d' := by rw [← h1, Array.extract_size]
  rw [e1, Array.extract_size] at h3
  exact h3
theorem sortedIn_pairwise {lt : α → α → Bool} {d : Array α} (h : SortedIn lt 0 d.size d) : d.toList.Pairwise (fun a b => lt b a = false) := by
  rw [List.pairwise_iff_getElem]
  intro i j hi hj hij
  have := h i j (Nat.zero_le _) hij (by simpa using hj)
  rw [getElem!_pos d i (by simpa using hi), getElem!_pos d j (by simpa using hj)] at this
  simpa using this
end
end Go.Proofs.YteldfmgjbgedaaaGreat

namespace Go.Proofs.YteldfmgjbgedaaaGreat
open Go.Shelf Go.RowKit Go.Lib Go.Sort
/- the library's contracts, laid (printed by the kit's tool) -/
def lay83_ren : Go.Shelf.Ren := ⟨fun | 5 => 83 | 8 => 87 | 7 => 110 | 19 => 120 | 20 => 121 | 10 => 153 | 11 => 154 | 12 => 155 | 13 => 156 | 14 => 157 | 15 => 158 | 16 => 108 | 17 => 159 | 18 => 160 | 30 => 180 | 31 => 162 | 32 => 163 | 33 => 181 | 34 => 182 | 35 => 103 | 40 => 189 | n => n, fun | 23 => 32 | 25 => 3 | 3 => 3 | 32 => 178 | 22 => 32 | 0 => 0 | 44 => 205 | 46 => 207 | 4 => 4 | 36 => 198 | 35 => 197 | 41 => 161 | 5 => 5 | 9 => 9 | 53 => 239 | 57 => 243 | 63 => 258 | 64 => 259 | n => n, fun | n => n⟩
theorem lay83 : SlLaysM.n5 Tryz.prog lay83_ren := {
  mixed := by kernel_rfl
  f5 := ⟨Tryz.f83.name, by decide, Tryz.func83.trans (congrArg some (by kernel_rfl))⟩
  f7 := ⟨Tryz.f110.name, by decide, Tryz.func110.trans (congrArg some (by kernel_rfl))⟩
  f8 := Tryz.func87.trans (congrArg some (by kernel_rfl))
  f10 := ⟨Tryz.f153.name, by decide, Tryz.func153.trans (congrArg some (by kernel_rfl))⟩
  f11 := ⟨Tryz.f154.name, by decide, Tryz.func154.trans (congrArg some (by kernel_rfl))⟩
  f12 := ⟨Tryz.f155.name, by decide, Tryz.func155.trans (congrArg some (by kernel_rfl))⟩
  f13 := ⟨Tryz.f156.name, by decide, Tryz.func156.trans (congrArg some (by kernel_rfl))⟩
  f14 := ⟨Tryz.f157.name, by decide, Tryz.func157.trans (congrArg some (by kernel_rfl))⟩
  f15 := ⟨Tryz.f158.name, by decide, Tryz.func158.trans (congrArg some (by kernel_rfl))⟩
  f16 := ⟨Tryz.f108.name, by decide, Tryz.func108.trans (congrArg some (by kernel_rfl))⟩
  f17 := ⟨Tryz.f159.name, by decide, Tryz.func159.trans (congrArg some (by kernel_rfl))⟩
  f18 := ⟨Tryz.f160.name, by decide, Tryz.func160.trans (congrArg some (by kernel_rfl))⟩
  f19 := Tryz.func120.trans (congrArg some (by kernel_rfl))
  f20 := Tryz.func121.trans (congrArg some (by kernel_rfl))
  f30 := ⟨Tryz.f180.name, by decide, Tryz.func180.trans (congrArg some (by kernel_rfl))⟩
  f31 := Tryz.func162.trans (congrArg some (by kernel_rfl))
  f32 := Tryz.func163.trans (congrArg some (by kernel_rfl))
  f33 := ⟨Tryz.f181.name, by decide, Tryz.func181.trans (congrArg some (by kernel_rfl))⟩
  f34 := ⟨Tryz.f182.name, by decide, Tryz.func182.trans (congrArg some (by kernel_rfl))⟩
  f35 := ⟨Tryz.f103.name, by decide, Tryz.func103.trans (congrArg some (by kernel_rfl))⟩
  f40 := ⟨Tryz.f189.name, by decide, Tryz.func189.trans (congrArg some (by kernel_rfl))⟩
  t0 := Tryz.underlying0
  a0 := Tryz.isAgg0
  z0 := Tryz.sizeOf0
  v0 := Tryz.zeroValue0
  t3 := Tryz.underlying3
  a3 := Tryz.isAgg3
  z3 := Tryz.sizeOf3
  v3 := Tryz.zeroValue3
  t4 := Tryz.underlying4
  a4 := Tryz.isAgg4
  z4 := Tryz.sizeOf4
  v4 := Tryz.zeroValue4
  t5 := Tryz.underlying5
  a5 := Tryz.isAgg5
  z5 := Tryz.sizeOf5
  v5 := Tryz.zeroValue5
  t9 := Tryz.underlying9
  a9 := Tryz.isAgg9
  z9 := Tryz.sizeOf9
  v9 := Tryz.zeroValue9
  t22 := Tryz.underlying32
  a22 := Tryz.isAgg32
  z22 := Tryz.sizeOf32
  v22 := Tryz.zeroValue32
  t23 := Tryz.underlying32
  a23 := Tryz.isAgg32
  z23 := Tryz.sizeOf32
  v23 := Tryz.zeroValue32
  t25 := Tryz.underlying3
  a25 := Tryz.isAgg3
  z25 := Tryz.sizeOf3
  v25 := Tryz.zeroValue3
  t32 := Tryz.underlying178
  a32 := Tryz.isAgg178
  z32 := Tryz.sizeOf178
  v32 := Tryz.zeroValue178
  t35 := Tryz.underlying197
  a35 := Tryz.isAgg197
  z35 := Tryz.sizeOf197
  v35 := Tryz.zeroValue197
  t36 := Tryz.underlying198
  a36 := Tryz.isAgg198
  z36 := Tryz.sizeOf198
  v36 := Tryz.zeroValue198
  t41 := Tryz.underlying161
  a41 := Tryz.isAgg161
  z41 := Tryz.sizeOf161
  v41 := Tryz.zeroValue161
  t44 := Tryz.underlying205
  a44 := Tryz.isAgg205
  z44 := Tryz.sizeOf205
  v44 := Tryz.zeroValue205
  t46 := Tryz.underlying207
  a46 := Tryz.isAgg207
  z46 := Tryz.sizeOf207
  v46 := Tryz.zeroValue207
  t53 := Tryz.underlying239
  a53 := Tryz.isAgg239
  z53 := Tryz.sizeOf239
  v53 := Tryz.zeroValue239
  t57 := Tryz.underlying243
  a57 := Tryz.isAgg243
  z57 := Tryz.sizeOf243
  v57 := Tryz.zeroValue243
  t63 := Tryz.underlying258
  a63 := Tryz.isAgg258
  z63 := Tryz.sizeOf258
  v63 := Tryz.zeroValue258
  t64 := Tryz.underlying259
  a64 := Tryz.isAgg259
  z64 := Tryz.sizeOf259
  v64 := Tryz.zeroValue259
  }
def lay53_ren : Go.Shelf.Ren := ⟨fun | 5 => 53 | 8 => 87 | 7 => 86 | 19 => 120 | 20 => 121 | 10 => 111 | 11 => 112 | 12 => 113 | 13 => 114 | 14 => 115 | 15 => 116 | 16 => 117 | 17 => 118 | 18 => 119 | 30 => 161 | 31 => 162 | 32 => 163 | 33 => 164 | 34 => 165 | 35 => 166 | 40 => 183 | n => n, fun | 23 => 83 | 25 => 2 | 3 => 3 | 32 => 178 | 22 => 83 | 0 => 0 | 44 => 205 | 46 => 207 | 4 => 4 | 36 => 198 | 35 => 197 | 41 => 161 | 5 => 5 | 9 => 9 | 53 => 239 | 57 => 243 | 63 => 258 | 64 => 259 | n => n, fun | n => n⟩
theorem lay53 : SlLaysM.n5 Tryz.prog lay53_ren := {
  mixed := by kernel_rfl
  f5 := ⟨Tryz.f53.name, by decide, Tryz.func53.trans (congrArg some (by kernel_rfl))⟩
  f7 := ⟨Tryz.f86.name, by decide, Tryz.func86.trans (congrArg some (by kernel_rfl))⟩
  f8 := Tryz.func87.trans (congrArg some (by kernel_rfl))
  f10 := ⟨Tryz.f111.name, by decide, Tryz.func111.trans (congrArg some (by kernel_rfl))⟩
  f11 := ⟨Tryz.f112.name, by decide, Tryz.func112.trans (congrArg some (by kernel_rfl))⟩
  f12 := ⟨Tryz.f113.name, by decide, Tryz.func113.trans (congrArg some (by kernel_rfl))⟩
  f13 := ⟨Tryz.f114.name, by decide, Tryz.func114.trans (congrArg some (by kernel_rfl))⟩
  f14 := ⟨Tryz.f115.name, by decide, Tryz.func115.trans (congrArg some (by kernel_rfl))⟩
  f15 := ⟨Tryz.f116.name, by decide, Tryz.func116.trans (congrArg some (by kernel_rfl))⟩
  f16 := ⟨Tryz.f117.name, by decide, Tryz.func117.trans (congrArg some (by kernel_rfl))⟩
  f17 := ⟨Tryz.f118.name, by decide, Tryz.func118.trans (congrArg some (by kernel_rfl))⟩
  f18 := ⟨Tryz.f119.name, by decide, Tryz.func119.trans (congrArg some (by kernel_rfl))⟩
  f19 := Tryz.func120.trans (congrArg some (by kernel_rfl))
  f20 := Tryz.func121.trans (congrArg some (by kernel_rfl))
  f30 := ⟨Tryz.f161.name, by decide, Tryz.func161.trans (congrArg some (by kernel_rfl))⟩
  f31 := Tryz.func162.trans (congrArg some (by kernel_rfl))
  f32 := Tryz.func163.trans (congrArg some (by kernel_rfl))
  f33 := ⟨Tryz.f164.name, by decide, Tryz.func164.trans (congrArg some (by kernel_rfl))⟩
  f34 := ⟨Tryz.f165.name, by decide, Tryz.func165.trans (congrArg some (by kernel_rfl))⟩
  f35 := ⟨Tryz.f166.name, by decide, Tryz.func166.trans (congrArg some (by kernel_rfl))⟩
  f40 := ⟨Tryz.f183.name, by decide, Tryz.func183.trans (congrArg some (by kernel_rfl))⟩
  t0 := Tryz.underlying0
  a0 := Tryz.isAgg0
  z0 := Tryz.sizeOf0
  v0 := Tryz.zeroValue0
  t3 := Tryz.underlying3
  a3 := Tryz.isAgg3
  z3 := Tryz.sizeOf3
  v3 := Tryz.zeroValue3
  t4 := Tryz.underlying4
  a4 := Tryz.isAgg4
  z4 := Tryz.sizeOf4
  v4 := Tryz.zeroValue4
  t5 := Tryz.underlying5
  a5 := Tryz.isAgg5
  z5 := Tryz.sizeOf5
  v5 := Tryz.zeroValue5
  t9 := Tryz.underlying9
  a9 := Tryz.isAgg9
  z9 := Tryz.sizeOf9
  v9 := Tryz.zeroValue9
  t22 := Tryz.underlying83
  a22 := Tryz.isAgg83
  z22 := Tryz.sizeOf83
  v22 := Tryz.zeroValue83
  t23 := Tryz.underlying83
  a23 := Tryz.isAgg83
  z23 := Tryz.sizeOf83
  v23 := Tryz.zeroValue83
  t25 := Tryz.underlying2
  a25 := Tryz.isAgg2
  z25 := Tryz.sizeOf2
  v25 := Tryz.zeroValue2
  t32 := Tryz.underlying178
  a32 := Tryz.isAgg178
  z32 := Tryz.sizeOf178
  v32 := Tryz.zeroValue178
  t35 := Tryz.underlying197
  a35 := Tryz.isAgg197
  z35 := Tryz.sizeOf197
  v35 := Tryz.zeroValue197
  t36 := Tryz.underlying198
  a36 := Tryz.isAgg198
  z36 := Tryz.sizeOf198
  v36 := Tryz.zeroValue198
  t41 := Tryz.underlying161
  a41 := Tryz.isAgg161
  z41 := Tryz.sizeOf161
  v41 := Tryz.zeroValue161
  t44 := Tryz.underlying205
  a44 := Tryz.isAgg205
  z44 := Tryz.sizeOf205
  v44 := Tryz.zeroValue205
  t46 := Tryz.underlying207
  a46 := Tryz.isAgg207
  z46 := Tryz.sizeOf207
  v46 := Tryz.zeroValue207
  t53 := Tryz.underlying239
  a53 := Tryz.isAgg239
  z53 := Tryz.sizeOf239
  v53 := Tryz.zeroValue239
  t57 := Tryz.underlying243
  a57 := Tryz.isAgg243
  z57 := Tryz.sizeOf243
  v57 := Tryz.zeroValue243
  t63 := Tryz.underlying258
  a63 := Tryz.isAgg258
  z63 := Tryz.sizeOf258
  v63 := Tryz.zeroValue258
  t64 := Tryz.underlying259
  a64 := Tryz.isAgg259
  z64 := Tryz.sizeOf259
  v64 := Tryz.zeroValue259
  }
def lay82_ren : Go.Shelf.Ren := ⟨fun | 49 => 82 | 59 => 108 | 60 => 109 | 68 => 103 | n => n, fun | 22 => 32 | 23 => 3 | 3 => 3 | 4 => 4 | 51 => 178 | 0 => 0 | n => n, fun | n => n⟩
theorem lay82 : SlLaysN.n49 Tryz.prog lay82_ren := {
  mixed := by kernel_rfl
  f49 := ⟨Tryz.f82.name, by decide, Tryz.func82.trans (congrArg some (by kernel_rfl))⟩
  f59 := ⟨Tryz.f108.name, by decide, Tryz.func108.trans (congrArg some (by kernel_rfl))⟩
  f60 := ⟨Tryz.f109.name, by decide, Tryz.func109.trans (congrArg some (by kernel_rfl))⟩
  f68 := ⟨Tryz.f103.name, by decide, Tryz.func103.trans (congrArg some (by kernel_rfl))⟩
  t0 := Tryz.underlying0
  a0 := Tryz.isAgg0
  z0 := Tryz.sizeOf0
  v0 := Tryz.zeroValue0
  t3 := Tryz.underlying3
  a3 := Tryz.isAgg3
  z3 := Tryz.sizeOf3
  v3 := Tryz.zeroValue3
  t4 := Tryz.underlying4
  a4 := Tryz.isAgg4
  z4 := Tryz.sizeOf4
  v4 := Tryz.zeroValue4
  t22 := Tryz.underlying32
  a22 := Tryz.isAgg32
  z22 := Tryz.sizeOf32
  v22 := Tryz.zeroValue32
  t23 := Tryz.underlying3
  a23 := Tryz.isAgg3
  z23 := Tryz.sizeOf3
  v23 := Tryz.zeroValue3
  t51 := Tryz.underlying178
  a51 := Tryz.isAgg178
  z51 := Tryz.sizeOf178
  v51 := Tryz.zeroValue178
  }
def lay84_ren : Go.Shelf.Ren := ⟨fun | 43 => 84 | n => n, fun | 22 => 32 | 23 => 3 | 3 => 3 | 4 => 4 | 0 => 0 | n => n, fun | n => n⟩
theorem lay84 : SlLaysN.n43 Tryz.prog lay84_ren := {
  mixed := by kernel_rfl
  f43 := ⟨Tryz.f84.name, by decide, Tryz.func84.trans (congrArg some (by kernel_rfl))⟩
  t0 := Tryz.underlying0
  a0 := Tryz.isAgg0
  z0 := Tryz.sizeOf0
  v0 := Tryz.zeroValue0
  t3 := Tryz.underlying3
  a3 := Tryz.isAgg3
  z3 := Tryz.sizeOf3
  v3 := Tryz.zeroValue3
  t4 := Tryz.underlying4
  a4 := Tryz.isAgg4
  z4 := Tryz.sizeOf4
  v4 := Tryz.zeroValue4
  t22 := Tryz.underlying32
  a22 := Tryz.isAgg32
  z22 := Tryz.sizeOf32
  v22 := Tryz.zeroValue32
  t23 := Tryz.underlying3
  a23 := Tryz.isAgg3
  z23 := Tryz.sizeOf3
  v23 := Tryz.zeroValue3
  i23 := by kernel_rfl
  }
def lay77_ren : Go.Shelf.Ren := ⟨fun | 6 => 77 | 15 => 87 | 14 => 104 | 28 => 120 | 29 => 121 | 20 => 144 | 21 => 145 | 22 => 146 | 23 => 147 | 24 => 148 | 25 => 149 | 26 => 150 | 27 => 151 | 46 => 177 | 47 => 162 | 48 => 163 | 49 => 178 | 50 => 179 | 57 => 188 | n => n, fun | 22 => 32 | 24 => 3 | 25 => 152 | 3 => 3 | 39 => 178 | 0 => 0 | 53 => 205 | 55 => 207 | 4 => 4 | 46 => 198 | 45 => 197 | 50 => 161 | 5 => 5 | 9 => 9 | 66 => 239 | 70 => 243 | 76 => 258 | 77 => 259 | n => n, fun | n => n⟩
theorem lay77 : SlLaysF.n6 Tryz.prog lay77_ren := {
  mixed := by kernel_rfl
  f6 := ⟨Tryz.f77.name, by decide, Tryz.func77.trans (congrArg some (by kernel_rfl))⟩
  f14 := ⟨Tryz.f104.name, by decide, Tryz.func104.trans (congrArg some (by kernel_rfl))⟩
  f15 := Tryz.func87.trans (congrArg some (by kernel_rfl))
  f20 := ⟨Tryz.f144.name, by decide, Tryz.func144.trans (congrArg some (by kernel_rfl))⟩
  f21 := ⟨Tryz.f145.name, by decide, Tryz.func145.trans (congrArg some (by kernel_rfl))⟩
  f22 := ⟨Tryz.f146.name, by decide, Tryz.func146.trans (congrArg some (by kernel_rfl))⟩
  f23 := ⟨Tryz.f147.name, by decide, Tryz.func147.trans (congrArg some (by kernel_rfl))⟩
  f24 := ⟨Tryz.f148.name, by decide, Tryz.func148.trans (congrArg some (by kernel_rfl))⟩
  f25 := ⟨Tryz.f149.name, by decide, Tryz.func149.trans (congrArg some (by kernel_rfl))⟩
  f26 := ⟨Tryz.f150.name, by decide, Tryz.func150.trans (congrArg some (by kernel_rfl))⟩
  f27 := ⟨Tryz.f151.name, by decide, Tryz.func151.trans (congrArg some (by kernel_rfl))⟩
  f28 := Tryz.func120.trans (congrArg some (by kernel_rfl))
  f29 := Tryz.func121.trans (congrArg some (by kernel_rfl))
  f46 := ⟨Tryz.f177.name, by decide, Tryz.func177.trans (congrArg some (by kernel_rfl))⟩
  f47 := Tryz.func162.trans (congrArg some (by kernel_rfl))
  f48 := Tryz.func163.trans (congrArg some (by kernel_rfl))
  f49 := ⟨Tryz.f178.name, by decide, Tryz.func178.trans (congrArg some (by kernel_rfl))⟩
  f50 := ⟨Tryz.f179.name, by decide, Tryz.func179.trans (congrArg some (by kernel_rfl))⟩
  f57 := ⟨Tryz.f188.name, by decide, Tryz.func188.trans (congrArg some (by kernel_rfl))⟩
  t0 := Tryz.underlying0
  a0 := Tryz.isAgg0
  z0 := Tryz.sizeOf0
  v0 := Tryz.zeroValue0
  t3 := Tryz.underlying3
  a3 := Tryz.isAgg3
  z3 := Tryz.sizeOf3
  v3 := Tryz.zeroValue3
  t4 := Tryz.underlying4
  a4 := Tryz.isAgg4
  z4 := Tryz.sizeOf4
  v4 := Tryz.zeroValue4
  t5 := Tryz.underlying5
  a5 := Tryz.isAgg5
  z5 := Tryz.sizeOf5
  v5 := Tryz.zeroValue5
  t9 := Tryz.underlying9
  a9 := Tryz.isAgg9
  z9 := Tryz.sizeOf9
  v9 := Tryz.zeroValue9
  t22 := Tryz.underlying32
  a22 := Tryz.isAgg32
  z22 := Tryz.sizeOf32
  v22 := Tryz.zeroValue32
  a24 := Tryz.isAgg3
  z24 := Tryz.sizeOf3
  t25 := Tryz.underlying152
  a25 := Tryz.isAgg152
  z25 := Tryz.sizeOf152
  v25 := Tryz.zeroValue152
  t39 := Tryz.underlying178
  a39 := Tryz.isAgg178
  z39 := Tryz.sizeOf178
  v39 := Tryz.zeroValue178
  t45 := Tryz.underlying197
  a45 := Tryz.isAgg197
  z45 := Tryz.sizeOf197
  v45 := Tryz.zeroValue197
  t46 := Tryz.underlying198
  a46 := Tryz.isAgg198
  z46 := Tryz.sizeOf198
  v46 := Tryz.zeroValue198
  t50 := Tryz.underlying161
  a50 := Tryz.isAgg161
  z50 := Tryz.sizeOf161
  v50 := Tryz.zeroValue161
  t53 := Tryz.underlying205
  a53 := Tryz.isAgg205
  z53 := Tryz.sizeOf205
  v53 := Tryz.zeroValue205
  t55 := Tryz.underlying207
  a55 := Tryz.isAgg207
  z55 := Tryz.sizeOf207
  v55 := Tryz.zeroValue207
  t66 := Tryz.underlying239
  a66 := Tryz.isAgg239
  z66 := Tryz.sizeOf239
  v66 := Tryz.zeroValue239
  t70 := Tryz.underlying243
  a70 := Tryz.isAgg243
  z70 := Tryz.sizeOf243
  v70 := Tryz.zeroValue243
  t76 := Tryz.underlying258
  a76 := Tryz.isAgg258
  z76 := Tryz.sizeOf258
  v76 := Tryz.zeroValue258
  t77 := Tryz.underlying259
  a77 := Tryz.isAgg259
  z77 := Tryz.sizeOf259
  v77 := Tryz.zeroValue259
  }
def lay74_ren : Go.Shelf.Ren := ⟨fun | 5 => 74 | 7 => 103 | n => n, fun | 22 => 3 | 3 => 3 | 4 => 4 | n => n, fun | n => n⟩
theorem lay74 : SlLaysC2.n5 Tryz.prog lay74_ren := {
  mixed := by kernel_rfl
  f5 := ⟨Tryz.f74.name, by decide, Tryz.func74.trans (congrArg some (by kernel_rfl))⟩
  f7 := ⟨Tryz.f103.name, by decide, Tryz.func103.trans (congrArg some (by kernel_rfl))⟩
  t3 := Tryz.underlying3
  a3 := Tryz.isAgg3
  z3 := Tryz.sizeOf3
  v3 := Tryz.zeroValue3
  t4 := Tryz.underlying4
  a4 := Tryz.isAgg4
  z4 := Tryz.sizeOf4
  v4 := Tryz.zeroValue4
  t22 := Tryz.underlying3
  a22 := Tryz.isAgg3
  z22 := Tryz.sizeOf3
  v22 := Tryz.zeroValue3
  }
end Go.Proofs.YteldfmgjbgedaaaGreat
namespace Go.Proofs.YteldfmgjbgedaaaGreat
open Go.RowKit Go.Maps Go.Sort

def encN (i : Nat) : List Value := [.int .i64 (i : Nat)]
def encZ1 (i : Int) : List Value := [.int .i64 i]
theorem natRows_encZ (xs : List Nat) : natRows xs = encRows encZ1 (xs.map Int.ofNat) := by simp [natRows, encRows, encZ1]

/-- Sorting Ints that are Nats. -/
theorem sort_nat (xs : List Nat) : ∃ ys : List Nat, (xs.map Int.ofNat).mergeSort (fun x y => decide (x ≤ y)) = ys.map Int.ofNat ∧ ys.Perm xs ∧ ys.Pairwise (· ≤ ·) := by
  have hp := List.mergeSort_perm (xs.map Int.ofNat) (fun x y => decide (x ≤ y))
  have hs := List.pairwise_mergeSort (le := fun (x y : Int) => decide (x ≤ y)) (fun a b c h1 h2 => by simp at *; omega) (fun a b => by simp; omega) (xs.map Int.ofNat)
  refine ⟨((xs.map Int.ofNat).mergeSort (fun x y => decide (x ≤ y))).map Int.toNat, ?_, ?_, ?_⟩
  · rw [List.map_map]
    symm
    refine (List.map_congr_left (g := id) (fun a ha => ?_)).trans (List.map_id _)
    obtain ⟨i, -, rfl⟩ := List.mem_map.1 (hp.mem_iff.1 ha)
    simp
  · have := hp.map Int.toNat
    rw [List.map_map] at this
    refine this.trans ?_
    rw [show (Int.toNat ∘ Int.ofNat) = id from by funext i; simp, List.map_id]
  · rw [List.pairwise_map]
    refine hs.imp (fun {a b} h => ?_)
    simp at h; omega

theorem sort_row {w : World} {g n cap base : Nat} {xs : List Nat} (h : OwnRows w (.slice (some ⟨g, 0, none⟩) n cap) 1 (natRows xs) base) : Holds (Value.int .i64) w g 0 (xs.map Int.ofNat).toArray ∧ n = xs.length := by
  have hn : n = xs.length := by
    obtain ⟨a, c, e⟩ := h.len
    injection e with _ e _
    rw [e, natRows_length]
  rw [natRows_encZ] at h
  exact ⟨holds_one (Value.int .i64) (own_holds (enc := fun x => [Value.int .i64 x]) (fun _ => rfl) h), hn⟩

theorem sorted_row {w : World} {g n cap base : Nat} {xs ys : List Nat} (h : OwnRows w (.slice (some ⟨g, 0, none⟩) n cap) 1 (natRows xs) base) (hl : ys.length = xs.length) (m : Nat) (os : Array Obj) :
    OwnRows (grow (putRow (Value.int .i64) (Sort.ahead w m) g 0 (ys.map Int.ofNat).toArray) os) (.slice (some ⟨g, 0, none⟩) n cap) 1 (natRows ys) base ∧ Fr (fun i => i = g) w (grow (putRow (Value.int .i64) (Sort.ahead w m) g 0 (ys.map Int.ofNat).toArray) os) := by
  rw [natRows_encZ] at h ⊢
  have := own_sorted (enc := fun x => [Value.int .i64 x]) (k := 1) (fun _ => rfl) Nat.one_pos h (ys := ys.map Int.ofNat) (by simp [hl]) m os
  rw [← sortWorld_one (Value.int .i64)] at this
  exact this

theorem frOwn {w w' : World} {g n c : Nat} (h : Fr (fun i => i = g) w w') : Fr (fun k => (Value.slice (some ⟨g, 0, none⟩) n c).ownBlock = some k) w w' :=
  h.mono (fun k _ e => by subst e; rfl)

theorem sorts83 : Sorts83 := by
  intro w v xs base h hlt
  rcases h with ⟨rfl, hx⟩ | ⟨g, cap, rfl, h1⟩
  · obtain rfl : xs = [] := List.eq_nil_of_length_eq_zero (by rw [← natRows_length, hx]; rfl)
    have := AnyM.slices_Sort_int_none lay83 none 0 w
    change Calls Tryz.prog 83 _ _ _ at this
    refine this.mono ?_
    rintro e w' ⟨rfl, rfl⟩
    exact ⟨rfl, [], List.Perm.refl _, List.Pairwise.nil, OwnRows.nil _ _ _, Fr.refl _ _⟩
  · have h : OwnRows w (.slice (some ⟨g, 0, none⟩) (natRows xs).length cap) 1 (natRows xs) base := .inr ⟨g, cap, rfl, h1⟩
    have hl := live_lt h1.2.1
    obtain ⟨hH, hn⟩ := sort_row h
    have := AnyM.slices_Sort_int lay83 g 0 cap (xs.map Int.ofNat) w hH hl (by simp; omega)
    change Calls Tryz.prog 83 _ _ _ at this
    obtain ⟨ys, e1, e2, e3⟩ := sort_nat xs
    rw [e1, List.length_map, ← hn] at this
    refine this.mono ?_
    rintro e w' ⟨rfl, m, os, rfl⟩
    obtain ⟨a1, a2⟩ := sorted_row h e2.length_eq m os
    exact ⟨rfl, ys, e2, e3, a1, frOwn a2⟩

theorem sorts53 : Sorts53 := by
  intro w v xs base h hlt
  rcases h with ⟨rfl, hx⟩ | ⟨g, cap, rfl, h1⟩
  · obtain rfl : xs = [] := List.eq_nil_of_length_eq_zero (by rw [← natRows_length, hx]; rfl)
    have := AnyM.slices_Sort_int_none lay53 none 0 w
    change Calls Tryz.prog 53 _ _ _ at this
    refine this.mono ?_
    rintro e w' ⟨rfl, rfl⟩
    exact ⟨rfl, [], List.Perm.refl _, OwnRows.nil _ _ _, Fr.refl _ _⟩
  · have h : OwnRows w (.slice (some ⟨g, 0, none⟩) (natRows xs).length cap) 1 (natRows xs) base := .inr ⟨g, cap, rfl, h1⟩
    have hl := live_lt h1.2.1
    obtain ⟨hH, hn⟩ := sort_row h
    have := AnyM.slices_Sort_int lay53 g 0 cap (xs.map Int.ofNat) w hH hl (by simp; omega)
    change Calls Tryz.prog 53 _ _ _ at this
    obtain ⟨ys, e1, e2, e3⟩ := sort_nat xs
    rw [e1, List.length_map, ← hn] at this
    refine this.mono ?_
    rintro e w' ⟨rfl, m, os, rfl⟩
    obtain ⟨a1, a2⟩ := sorted_row h e2.length_eq m os
    exact ⟨rfl, ys, e2, a1, frOwn a2⟩

theorem fr_drewN (w : World) (q : Nat) (F : Nat → Prop) : Fr F w (w.drewN q) := ⟨rfl, rfl, rfl, Nat.le_refl _, fun _ _ _ => rfl⟩

theorem count_lt {xs : List Nat} (hs : xs.Pairwise (· ≤ ·)) (hnd : xs.Nodup) {i t : Nat} (hi : i < xs.length) (ht : xs[i] = t) : (xs.map Int.ofNat).countP (fun x => decide (x < (t : Int))) = i := by
  have hlt : xs.Pairwise (· < ·) := by
    refine (hs.and hnd).imp (fun {a b} h => ?_)
    have := h.1; have := h.2; omega
  rw [List.countP_map]
  have e := List.take_append_drop i xs
  have hd : xs.drop i = xs[i] :: xs.drop (i + 1) := List.drop_eq_getElem_cons hi
  rw [← e, List.pairwise_append] at hlt
  obtain ⟨h1, h2, h3⟩ := hlt
  have e0 : xs.countP ((fun x : Int => decide (x < (t : Int))) ∘ Int.ofNat) = (xs.take i ++ xs.drop i).countP ((fun x : Int => decide (x < (t : Int))) ∘ Int.ofNat) := by rw [e]
  rw [e0, List.countP_append]
  have c1 : (xs.take i).countP ((fun x : Int => decide (x < (t : Int))) ∘ Int.ofNat) = (xs.take i).length := by
    rw [List.countP_eq_length]
    intro a ha
    have := h3 a ha xs[i] (by rw [hd]; exact List.mem_cons_self ..)
    simp; omega
  have c2 : (xs.drop i).countP ((fun x : Int => decide (x < (t : Int))) ∘ Int.ofNat) = 0 := by
    rw [List.countP_eq_zero]
    intro a ha
    rw [hd] at ha h2
    rcases List.mem_cons.1 ha with rfl | ha
    · simp; omega
    · have := (List.pairwise_cons.1 h2).1 a ha
      simp; omega
  rw [c1, c2, List.length_take]; omega

theorem search82 : Search82 := by
  intro w v xs base h hlt hs hnd i t hit
  have hi := (List.getElem?_eq_some_iff.1 hit).1
  rcases h with ⟨rfl, hx⟩ | ⟨g, cap, rfl, h1⟩
  · have : xs.length = 0 := by rw [← natRows_length, hx]; rfl
    omega
  · have h : OwnRows w (.slice (some ⟨g, 0, none⟩) (natRows xs).length cap) 1 (natRows xs) base := .inr ⟨g, cap, rfl, h1⟩
    obtain ⟨hH, hn⟩ := sort_row h
    have hc : ∀ j, j < (xs.map Int.ofNat).length → w.cell? ⟨g, 0 + j, none⟩ = some (.int .i64 ((xs.map Int.ofNat).getD j 0)) := fun j hj => by
      have := (hH j (by simpa using hj)).1
      rw [this, getElem!_pos _ j (by simpa using hj), List.getElem_toArray, List.getD_eq_getElem?_getD, List.getElem?_eq_getElem hj]; rfl
    have := AnyG.slices_BinarySearch_int lay82 g 0 xs.length cap (xs.map Int.ofNat) t w (by simp) (by omega) hc (by rw [List.take_of_length_le (by simp), List.pairwise_map]; exact hs.imp (fun h => by simpa using h))
    change Calls Tryz.prog 82 _ _ _ at this
    rw [← hn] at this
    refine this.mono ?_
    rintro e w' ⟨rfl, q, rfl⟩
    refine ⟨?_, fr_drewN _ _ _⟩
    rw [List.take_of_length_le (by simp [natRows_length]), count_lt hs hnd hi (by rw [← (List.getElem?_eq_some_iff.1 hit).2])]
    have : (xs.map Int.ofNat).contains (t : Int) = true := by
      rw [List.contains_iff_mem]
      exact List.mem_map.2 ⟨t, List.mem_of_getElem? hit, rfl⟩
    rw [this]

/-- Compact of an ascending list. -/
theorem compact_spec (xs : List Nat) (hs : xs.Pairwise (· ≤ ·)) : ∃ ys : List Nat, Lib.compact (xs.map Int.ofNat) = ys.map Int.ofNat ∧ ys.Nodup ∧ (∀ x, x ∈ ys ↔ x ∈ xs) ∧ ys.length ≤ xs.length ∧ (0 < xs.length → 0 < ys.length) := by
  have hg : ∀ j (hj : j < xs.length), (xs.map Int.ofNat).toArray[j]! = Int.ofNat xs[j] := fun j hj => by
    rw [getElem!_pos _ j (by simpa using hj), List.getElem_toArray, List.getElem_map]
  have hle : ∀ i j (hi : i < xs.length) (hj : j < xs.length), i ≤ j → xs[i] ≤ xs[j] := fun i j hi hj hij => by
    rcases Nat.lt_or_eq_of_le hij with h | h
    · exact List.pairwise_iff_getElem.1 hs i j hi hj h
    · subst h; exact Nat.le_refl _
  have key : ∀ m, m ≤ xs.length → ∃ ys : List Nat, Lib.compactUpTo (xs.map Int.ofNat).toArray m = ys.map Int.ofNat ∧ ys.Nodup ∧ (∀ x, x ∈ ys ↔ x ∈ xs.take m) ∧ ys.length ≤ m ∧ (0 < m → 0 < ys.length) := by
    intro m
    induction m with
    | zero => intro _; exact ⟨[], rfl, List.Pairwise.nil, fun x => by simp, Nat.le_refl _, fun h => absurd h (Nat.lt_irrefl _)⟩
    | succ m ih =>
      intro hm
      obtain ⟨ys, e1, e2, e3, e4, e5⟩ := ih (by omega)
      have hml : m < xs.length := by omega
      have htk : xs.take (m + 1) = xs.take m ++ [xs[m]] := List.take_succ_eq_append_getElem hml
      rw [Lib.compactUpTo_succ, e1]
      by_cases hk : Lib.keeps (xs.map Int.ofNat).toArray m = true
      · have hnew : xs[m] ∉ ys := fun hin => by
          rw [e3] at hin
          obtain ⟨i, hi, e⟩ := List.getElem_of_mem hin
          rw [List.length_take] at hi
          rw [List.getElem_take] at e
          have hm0 : m ≠ 0 := by omega
          unfold Lib.keeps at hk
          rw [decide_eq_true_eq] at hk
          have h1 := hk.resolve_left hm0
          rw [hg m hml, hg (m - 1) (by omega)] at h1
          have h2 := hle i (m - 1) (by omega) (by omega) (by omega)
          have h3 := hle (m - 1) m (by omega) hml (by omega)
          have h4 : xs[m] ≠ xs[m - 1] := fun e => h1 (by rw [e])
          omega
        refine ⟨ys ++ [xs[m]], by rw [if_pos hk, hg m hml]; simp, List.nodup_append.2 ⟨e2, by simp, fun a ha b hb e => ?_⟩, fun x => ?_, by simp; omega, fun _ => by simp⟩
        · rw [List.mem_singleton] at hb; subst hb; subst e; exact hnew ha
        · rw [htk, List.mem_append, List.mem_append, e3]
      · refine ⟨ys, by rw [if_neg hk, List.append_nil], e2, fun x => ?_, by omega, fun _ => ?_⟩
        · rw [htk, List.mem_append, List.mem_singleton, e3]
          refine ⟨.inl, fun h => h.elim id fun h => ?_⟩
          subst h
          unfold Lib.keeps at hk
          rw [decide_eq_true_eq] at hk
          have hm0 : m ≠ 0 := fun e => hk (.inl e)
          have h1 : (xs.map Int.ofNat).toArray[m]! = (xs.map Int.ofNat).toArray[m - 1]! := Classical.byContradiction fun h => hk (.inr h)
          rw [hg m hml, hg (m - 1) (by omega)] at h1
          have h2 : xs[m] = xs[m - 1] := by
            have h3 : ((xs[m] : Nat) : Int) = ((xs[m - 1] : Nat) : Int) := h1
            omega
          rw [h2, List.mem_take_iff_getElem]
          exact ⟨m - 1, by omega, rfl⟩
        · have hm0 : 0 < m := by
            rcases Nat.eq_zero_or_pos m with h | h
            · subst h; exact absurd (by unfold Lib.keeps; simp) hk
            · exact h
          exact e5 hm0
  obtain ⟨ys, e1, e2, e3, e4, e5⟩ := key xs.length (Nat.le_refl _)
  refine ⟨ys, ?_, e2, fun x => by rw [e3, List.take_length], e4, e5⟩
  unfold Lib.compact
  rw [List.length_map]; exact e1

theorem compact84 : Compact84 := by
  intro w v xs base h hlt hs
  rcases h with ⟨rfl, hx⟩ | ⟨g, cap, rfl, h1⟩
  · obtain rfl : xs = [] := List.eq_nil_of_length_eq_zero (by rw [← natRows_length, hx]; rfl)
    have := AnyG.slices_Compact_int_empty lay84 none 0 w
    change Calls Tryz.prog 84 _ _ _ at this
    refine this.mono ?_
    rintro e w' ⟨rfl, rfl⟩
    exact ⟨_, [], rfl, OwnRows.nil _ _ _, List.Pairwise.nil, fun _ => Iff.rfl, fun _ h => h, Fr.refl _ _⟩
  · have h : OwnRows w (.slice (some ⟨g, 0, none⟩) (natRows xs).length cap) 1 (natRows xs) base := .inr ⟨g, cap, rfl, h1⟩
    have hl := live_lt h1.2.1
    obtain ⟨hH, hn⟩ := sort_row h
    have hcap := h1.2.2.1.1
    have hpos := h1.2.2.1.2
    rw [natRows_length] at hcap hpos
    have := AnyG.slices_Compact_int lay84 g 0 cap (xs.map Int.ofNat) w hH (by simp; omega) (by simpa using hcap)
    change Calls Tryz.prog 84 _ _ _ at this
    obtain ⟨ys, e1, e2, e3, e4, e5⟩ := compact_spec xs hs
    rw [e1, List.length_map, List.length_map, ← hn] at this
    refine this.mono ?_
    rintro e w' ⟨rfl, q, rfl⟩
    have e0 : ys.map Int.ofNat ++ List.replicate ((natRows xs).length - ys.length) (0 : Int) = (ys ++ List.replicate ((natRows xs).length - ys.length) 0).map Int.ofNat := by simp
    rw [e0]
    obtain ⟨a1, a2⟩ := sorted_row (ys := ys ++ List.replicate ((natRows xs).length - ys.length) 0) h (by simp [natRows_length]; omega) q #[]
    rw [grow_empty] at a1 a2
    refine ⟨_, ys, rfl, ?_, e2, e3, fun i hi => by simpa [Value.ownBlock] using hi, frOwn a2⟩
    rcases a1 with ⟨e, -⟩ | ⟨g', cap', e, b1, b2, b3, b4, b5, b6⟩
    · cases e
    · injection e with e1' _ e3'
      injection e1' with e1'
      injection e1' with e1' _ _
      subst e1' e3'
      refine .inr ⟨g, cap, by rw [natRows_length], b1, b2, by rw [natRows_length]; exact ⟨by omega, e5 hpos⟩, b4, b5, fun i hi => ?_⟩
      rw [natRows_length] at hi
      rw [b6 i (by rw [natRows_length, List.length_append]; omega)]
      simp only [natRows, List.getElem_map, List.getElem_append_left hi]
end Go.Proofs.YteldfmgjbgedaaaGreat
