/-
  Sorting by several keys: cmp.Compare of strings, cmp.Or, the closures.
-/
import Derived.Test.YteldfmgjbgedaaaGreatTm
import Derived.Test.YteldfmgjbgedaaaGreatMyz
import Derived.StillTailTactics
import Derived.Laws.Cover1
namespace Go.Proofs.YteldfmgjbgedaaaGreat
open Go.Shelf Go.RowKit Go.Lib Go.Sort
/- the library's contracts, laid (printed by the kit's tool) -/
def lay68_ren : Go.Shelf.Ren := ⟨fun | 6 => 68 | 15 => 87 | 14 => 100 | 28 => 120 | 29 => 121 | 20 => 128 | 21 => 129 | 22 => 130 | 23 => 131 | 24 => 132 | 25 => 133 | 26 => 134 | 27 => 135 | 46 => 171 | 47 => 162 | 48 => 163 | 49 => 172 | 50 => 173 | 57 => 186 | n => n, fun | 22 => 95 | 24 => 66 | 25 => 150 | 3 => 3 | 39 => 178 | 0 => 0 | 53 => 205 | 55 => 207 | 4 => 4 | 46 => 198 | 45 => 197 | 50 => 161 | 5 => 5 | 9 => 9 | 66 => 239 | 70 => 243 | 76 => 258 | 77 => 259 | n => n, fun | n => n⟩
theorem lay68 : SlLaysF0.n6 Tryz.prog lay68_ren := {
  mixed := by kernel_rfl
  f6 := ⟨Tryz.f68.name, by decide, Tryz.func68.trans (congrArg some (by kernel_rfl))⟩
  f14 := ⟨Tryz.f100.name, by decide, Tryz.func100.trans (congrArg some (by kernel_rfl))⟩
  f15 := Tryz.func87.trans (congrArg some (by kernel_rfl))
  f20 := ⟨Tryz.f128.name, by decide, Tryz.func128.trans (congrArg some (by kernel_rfl))⟩
  f21 := ⟨Tryz.f129.name, by decide, Tryz.func129.trans (congrArg some (by kernel_rfl))⟩
  f22 := ⟨Tryz.f130.name, by decide, Tryz.func130.trans (congrArg some (by kernel_rfl))⟩
  f23 := ⟨Tryz.f131.name, by decide, Tryz.func131.trans (congrArg some (by kernel_rfl))⟩
  f24 := ⟨Tryz.f132.name, by decide, Tryz.func132.trans (congrArg some (by kernel_rfl))⟩
  f25 := ⟨Tryz.f133.name, by decide, Tryz.func133.trans (congrArg some (by kernel_rfl))⟩
  f26 := ⟨Tryz.f134.name, by decide, Tryz.func134.trans (congrArg some (by kernel_rfl))⟩
  f27 := ⟨Tryz.f135.name, by decide, Tryz.func135.trans (congrArg some (by kernel_rfl))⟩
  f28 := Tryz.func120.trans (congrArg some (by kernel_rfl))
  f29 := Tryz.func121.trans (congrArg some (by kernel_rfl))
  f46 := ⟨Tryz.f171.name, by decide, Tryz.func171.trans (congrArg some (by kernel_rfl))⟩
  f47 := Tryz.func162.trans (congrArg some (by kernel_rfl))
  f48 := Tryz.func163.trans (congrArg some (by kernel_rfl))
  f49 := ⟨Tryz.f172.name, by decide, Tryz.func172.trans (congrArg some (by kernel_rfl))⟩
  f50 := ⟨Tryz.f173.name, by decide, Tryz.func173.trans (congrArg some (by kernel_rfl))⟩
  f57 := ⟨Tryz.f186.name, by decide, Tryz.func186.trans (congrArg some (by kernel_rfl))⟩
  t0 := Tryz.underlying0
  a0 := Tryz.isAgg0
  z0 := Tryz.sizeOf0
  v0 := Tryz.zeroValue0
  t3 := Tryz.underlying3
  a3 := Tryz.isAgg3
  z3 := Tryz.sizeOf3
  v3 := Tryz.zeroValue3
  t4 := Tryz.underlying4
  a4 := Tryz.isAgg4
  z4 := Tryz.sizeOf4
  v4 := Tryz.zeroValue4
  t5 := Tryz.underlying5
  a5 := Tryz.isAgg5
  z5 := Tryz.sizeOf5
  v5 := Tryz.zeroValue5
  t9 := Tryz.underlying9
  a9 := Tryz.isAgg9
  z9 := Tryz.sizeOf9
  v9 := Tryz.zeroValue9
  t22 := Tryz.underlying95
  a22 := Tryz.isAgg95
  z22 := Tryz.sizeOf95
  v22 := Tryz.zeroValue95
  t25 := Tryz.underlying150
  a25 := Tryz.isAgg150
  z25 := Tryz.sizeOf150
  v25 := Tryz.zeroValue150
  t39 := Tryz.underlying178
  a39 := Tryz.isAgg178
  z39 := Tryz.sizeOf178
  v39 := Tryz.zeroValue178
  t45 := Tryz.underlying197
  a45 := Tryz.isAgg197
  z45 := Tryz.sizeOf197
  v45 := Tryz.zeroValue197
  t46 := Tryz.underlying198
  a46 := Tryz.isAgg198
  z46 := Tryz.sizeOf198
  v46 := Tryz.zeroValue198
  t50 := Tryz.underlying161
  a50 := Tryz.isAgg161
  z50 := Tryz.sizeOf161
  v50 := Tryz.zeroValue161
  t53 := Tryz.underlying205
  a53 := Tryz.isAgg205
  z53 := Tryz.sizeOf205
  v53 := Tryz.zeroValue205
  t55 := Tryz.underlying207
  a55 := Tryz.isAgg207
  z55 := Tryz.sizeOf207
  v55 := Tryz.zeroValue207
  t66 := Tryz.underlying239
  a66 := Tryz.isAgg239
  z66 := Tryz.sizeOf239
  v66 := Tryz.zeroValue239
  t70 := Tryz.underlying243
  a70 := Tryz.isAgg243
  z70 := Tryz.sizeOf243
  v70 := Tryz.zeroValue243
  t76 := Tryz.underlying258
  a76 := Tryz.isAgg258
  z76 := Tryz.sizeOf258
  v76 := Tryz.zeroValue258
  t77 := Tryz.underlying259
  a77 := Tryz.isAgg259
  z77 := Tryz.sizeOf259
  v77 := Tryz.zeroValue259
  }
def lay72_ren : Go.Shelf.Ren := ⟨fun | 6 => 72 | 15 => 87 | 14 => 102 | 28 => 120 | 29 => 121 | 20 => 136 | 21 => 137 | 22 => 138 | 23 => 139 | 24 => 140 | 25 => 141 | 26 => 142 | 27 => 143 | 46 => 174 | 47 => 162 | 48 => 163 | 49 => 175 | 50 => 176 | 57 => 187 | n => n, fun | 22 => 117 | 24 => 104 | 25 => 153 | 3 => 3 | 39 => 178 | 0 => 0 | 53 => 205 | 55 => 207 | 4 => 4 | 46 => 198 | 45 => 197 | 50 => 161 | 5 => 5 | 9 => 9 | 66 => 239 | 70 => 243 | 76 => 258 | 77 => 259 | n => n, fun | n => n⟩
theorem lay72 : SlLaysF0.n6 Tryz.prog lay72_ren := {
  mixed := by kernel_rfl
  f6 := ⟨Tryz.f72.name, by decide, Tryz.func72.trans (congrArg some (by kernel_rfl))⟩
  f14 := ⟨Tryz.f102.name, by decide, Tryz.func102.trans (congrArg some (by kernel_rfl))⟩
  f15 := Tryz.func87.trans (congrArg some (by kernel_rfl))
  f20 := ⟨Tryz.f136.name, by decide, Tryz.func136.trans (congrArg some (by kernel_rfl))⟩
  f21 := ⟨Tryz.f137.name, by decide, Tryz.func137.trans (congrArg some (by kernel_rfl))⟩
  f22 := ⟨Tryz.f138.name, by decide, Tryz.func138.trans (congrArg some (by kernel_rfl))⟩
  f23 := ⟨Tryz.f139.name, by decide, Tryz.func139.trans (congrArg some (by kernel_rfl))⟩
  f24 := ⟨Tryz.f140.name, by decide, Tryz.func140.trans (congrArg some (by kernel_rfl))⟩
  f25 := ⟨Tryz.f141.name, by decide, Tryz.func141.trans (congrArg some (by kernel_rfl))⟩
  f26 := ⟨Tryz.f142.name, by decide, Tryz.func142.trans (congrArg some (by kernel_rfl))⟩
  f27 := ⟨Tryz.f143.name, by decide, Tryz.func143.trans (congrArg some (by kernel_rfl))⟩
  f28 := Tryz.func120.trans (congrArg some (by kernel_rfl))
  f29 := Tryz.func121.trans (congrArg some (by kernel_rfl))
  f46 := ⟨Tryz.f174.name, by decide, Tryz.func174.trans (congrArg some (by kernel_rfl))⟩
  f47 := Tryz.func162.trans (congrArg some (by kernel_rfl))
  f48 := Tryz.func163.trans (congrArg some (by kernel_rfl))
  f49 := ⟨Tryz.f175.name, by decide, Tryz.func175.trans (congrArg some (by kernel_rfl))⟩
  f50 := ⟨Tryz.f176.name, by decide, Tryz.func176.trans (congrArg some (by kernel_rfl))⟩
  f57 := ⟨Tryz.f187.name, by decide, Tryz.func187.trans (congrArg some (by kernel_rfl))⟩
  t0 := Tryz.underlying0
  a0 := Tryz.isAgg0
  z0 := Tryz.sizeOf0
  v0 := Tryz.zeroValue0
  t3 := Tryz.underlying3
  a3 := Tryz.isAgg3
  z3 := Tryz.sizeOf3
  v3 := Tryz.zeroValue3
  t4 := Tryz.underlying4
  a4 := Tryz.isAgg4
  z4 := Tryz.sizeOf4
  v4 := Tryz.zeroValue4
  t5 := Tryz.underlying5
  a5 := Tryz.isAgg5
  z5 := Tryz.sizeOf5
  v5 := Tryz.zeroValue5
  t9 := Tryz.underlying9
  a9 := Tryz.isAgg9
  z9 := Tryz.sizeOf9
  v9 := Tryz.zeroValue9
  t22 := Tryz.underlying117
  a22 := Tryz.isAgg117
  z22 := Tryz.sizeOf117
  v22 := Tryz.zeroValue117
  t25 := Tryz.underlying153
  a25 := Tryz.isAgg153
  z25 := Tryz.sizeOf153
  v25 := Tryz.zeroValue153
  t39 := Tryz.underlying178
  a39 := Tryz.isAgg178
  z39 := Tryz.sizeOf178
  v39 := Tryz.zeroValue178
  t45 := Tryz.underlying197
  a45 := Tryz.isAgg197
  z45 := Tryz.sizeOf197
  v45 := Tryz.zeroValue197
  t46 := Tryz.underlying198
  a46 := Tryz.isAgg198
  z46 := Tryz.sizeOf198
  v46 := Tryz.zeroValue198
  t50 := Tryz.underlying161
  a50 := Tryz.isAgg161
  z50 := Tryz.sizeOf161
  v50 := Tryz.zeroValue161
  t53 := Tryz.underlying205
  a53 := Tryz.isAgg205
  z53 := Tryz.sizeOf205
  v53 := Tryz.zeroValue205
  t55 := Tryz.underlying207
  a55 := Tryz.isAgg207
  z55 := Tryz.sizeOf207
  v55 := Tryz.zeroValue207
  t66 := Tryz.underlying239
  a66 := Tryz.isAgg239
  z66 := Tryz.sizeOf239
  v66 := Tryz.zeroValue239
  t70 := Tryz.underlying243
  a70 := Tryz.isAgg243
  z70 := Tryz.sizeOf243
  v70 := Tryz.zeroValue243
  t76 := Tryz.underlying258
  a76 := Tryz.isAgg258
  z76 := Tryz.sizeOf258
  v76 := Tryz.zeroValue258
  t77 := Tryz.underlying259
  a77 := Tryz.isAgg259
  z77 := Tryz.sizeOf259
  v77 := Tryz.zeroValue259
  }
def lay168_ren : Go.Shelf.Ren := ⟨fun | 6 => 168 | 15 => 87 | 14 => 185 | 28 => 120 | 29 => 121 | 20 => 190 | 21 => 191 | 22 => 192 | 23 => 193 | 24 => 194 | 25 => 195 | 26 => 196 | 27 => 197 | 46 => 198 | 47 => 162 | 48 => 163 | 49 => 199 | 50 => 200 | 57 => 201 | n => n, fun | 22 => 211 | 24 => 138 | 25 => 216 | 3 => 3 | 39 => 178 | 0 => 0 | 53 => 205 | 55 => 207 | 4 => 4 | 46 => 198 | 45 => 197 | 50 => 161 | 5 => 5 | 9 => 9 | 66 => 239 | 70 => 243 | 76 => 258 | 77 => 259 | n => n, fun | n => n⟩
theorem lay168 : SlLaysF0.n6 Tryz.prog lay168_ren := {
  mixed := by kernel_rfl
  f6 := ⟨Tryz.f168.name, by decide, Tryz.func168.trans (congrArg some (by kernel_rfl))⟩
  f14 := ⟨Tryz.f185.name, by decide, Tryz.func185.trans (congrArg some (by kernel_rfl))⟩
  f15 := Tryz.func87.trans (congrArg some (by kernel_rfl))
  f20 := ⟨Tryz.f190.name, by decide, Tryz.func190.trans (congrArg some (by kernel_rfl))⟩
  f21 := ⟨Tryz.f191.name, by decide, Tryz.func191.trans (congrArg some (by kernel_rfl))⟩
  f22 := ⟨Tryz.f192.name, by decide, Tryz.func192.trans (congrArg some (by kernel_rfl))⟩
  f23 := ⟨Tryz.f193.name, by decide, Tryz.func193.trans (congrArg some (by kernel_rfl))⟩
  f24 := ⟨Tryz.f194.name, by decide, Tryz.func194.trans (congrArg some (by kernel_rfl))⟩
  f25 := ⟨Tryz.f195.name, by decide, Tryz.func195.trans (congrArg some (by kernel_rfl))⟩
  f26 := ⟨Tryz.f196.name, by decide, Tryz.func196.trans (congrArg some (by kernel_rfl))⟩
  f27 := ⟨Tryz.f197.name, by decide, Tryz.func197.trans (congrArg some (by kernel_rfl))⟩
  f28 := Tryz.func120.trans (congrArg some (by kernel_rfl))
  f29 := Tryz.func121.trans (congrArg some (by kernel_rfl))
  f46 := ⟨Tryz.f198.name, by decide, Tryz.func198.trans (congrArg some (by kernel_rfl))⟩
  f47 := Tryz.func162.trans (congrArg some (by kernel_rfl))
  f48 := Tryz.func163.trans (congrArg some (by kernel_rfl))
  f49 := ⟨Tryz.f199.name, by decide, Tryz.func199.trans (congrArg some (by kernel_rfl))⟩
  f50 := ⟨Tryz.f200.name, by decide, Tryz.func200.trans (congrArg some (by kernel_rfl))⟩
  f57 := ⟨Tryz.f201.name, by decide, Tryz.func201.trans (congrArg some (by kernel_rfl))⟩
  t0 := Tryz.underlying0
  a0 := Tryz.isAgg0
  z0 := Tryz.sizeOf0
  v0 := Tryz.zeroValue0
  t3 := Tryz.underlying3
  a3 := Tryz.isAgg3
  z3 := Tryz.sizeOf3
  v3 := Tryz.zeroValue3
  t4 := Tryz.underlying4
  a4 := Tryz.isAgg4
  z4 := Tryz.sizeOf4
  v4 := Tryz.zeroValue4
  t5 := Tryz.underlying5
  a5 := Tryz.isAgg5
  z5 := Tryz.sizeOf5
  v5 := Tryz.zeroValue5
  t9 := Tryz.underlying9
  a9 := Tryz.isAgg9
  z9 := Tryz.sizeOf9
  v9 := Tryz.zeroValue9
  t22 := Tryz.underlying211
  a22 := Tryz.isAgg211
  z22 := Tryz.sizeOf211
  v22 := Tryz.zeroValue211
  t25 := Tryz.underlying216
  a25 := Tryz.isAgg216
  z25 := Tryz.sizeOf216
  v25 := Tryz.zeroValue216
  t39 := Tryz.underlying178
  a39 := Tryz.isAgg178
  z39 := Tryz.sizeOf178
  v39 := Tryz.zeroValue178
  t45 := Tryz.underlying197
  a45 := Tryz.isAgg197
  z45 := Tryz.sizeOf197
  v45 := Tryz.zeroValue197
  t46 := Tryz.underlying198
  a46 := Tryz.isAgg198
  z46 := Tryz.sizeOf198
  v46 := Tryz.zeroValue198
  t50 := Tryz.underlying161
  a50 := Tryz.isAgg161
  z50 := Tryz.sizeOf161
  v50 := Tryz.zeroValue161
  t53 := Tryz.underlying205
  a53 := Tryz.isAgg205
  z53 := Tryz.sizeOf205
  v53 := Tryz.zeroValue205
  t55 := Tryz.underlying207
  a55 := Tryz.isAgg207
  z55 := Tryz.sizeOf207
  v55 := Tryz.zeroValue207
  t66 := Tryz.underlying239
  a66 := Tryz.isAgg239
  z66 := Tryz.sizeOf239
  v66 := Tryz.zeroValue239
  t70 := Tryz.underlying243
  a70 := Tryz.isAgg243
  z70 := Tryz.sizeOf243
  v70 := Tryz.zeroValue243
  t76 := Tryz.underlying258
  a76 := Tryz.isAgg258
  z76 := Tryz.sizeOf258
  v76 := Tryz.zeroValue258
  t77 := Tryz.underlying259
  a77 := Tryz.isAgg259
  z77 := Tryz.sizeOf259
  v77 := Tryz.zeroValue259
  }
def lay170_ren : Go.Shelf.Ren := ⟨fun | 5 => 170 | 7 => 166 | n => n, fun | 22 => 2 | 3 => 3 | 4 => 4 | n => n, fun | n => n⟩
theorem lay170 : SlLaysC2.n5 Tryz.prog lay170_ren := {
  mixed := by kernel_rfl
  f5 := ⟨Tryz.f170.name, by decide, Tryz.func170.trans (congrArg some (by kernel_rfl))⟩
  f7 := ⟨Tryz.f166.name, by decide, Tryz.func166.trans (congrArg some (by kernel_rfl))⟩
  t3 := Tryz.underlying3
  a3 := Tryz.isAgg3
  z3 := Tryz.sizeOf3
  v3 := Tryz.zeroValue3
  t4 := Tryz.underlying4
  a4 := Tryz.isAgg4
  z4 := Tryz.sizeOf4
  v4 := Tryz.zeroValue4
  t22 := Tryz.underlying2
  a22 := Tryz.isAgg2
  z22 := Tryz.sizeOf2
  v22 := Tryz.zeroValue2
  }
end Go.Proofs.YteldfmgjbgedaaaGreat
namespace Go.Proofs.YteldfmgjbgedaaaGreat
open Go.RowKit Go.Maps Go.Sort Go.Shelf

/-! ### three-way comparisons -/
structure TW {α : Type} (c : α → α → Int) : Prop where
  refl : ∀ x, c x x = 0
  sym : ∀ x y, 0 < c x y ↔ c y x < 0
  tr : ∀ x y z, c x y ≤ 0 → c y z ≤ 0 → c x z ≤ 0

theorem TW.swo {α : Type} {c : α → α → Int} (h : TW c) : SWO (ltOf c) where
  irrefl x := by unfold ltOf; rw [h.refl]; rfl
  trans x y z h1 h2 := by
    unfold ltOf at *
    rw [decide_eq_true_eq] at *
    refine Classical.byContradiction fun hc => ?_
    have h3 : c z x ≤ 0 := Classical.byContradiction fun h4 => by
      have := (h.sym z x).1 (by omega); omega
    have h5 := h.tr y z x (by omega) h3
    have := (h.sym y x).2 h1
    omega
  ntrans x y z h1 h2 := by
    unfold ltOf at *
    rw [decide_eq_false_iff_not] at *
    have a1 : c y x ≤ 0 := Classical.byContradiction fun h4 => by have := (h.sym y x).1 (by omega); omega
    have a2 : c z y ≤ 0 := Classical.byContradiction fun h4 => by have := (h.sym z y).1 (by omega); omega
    have a3 := h.tr z y x a2 a1
    intro h3
    have := (h.sym z x).2 h3
    omega

def orI (a b : Int) : Int := if a = 0 then b else a
theorem TW.or {α : Type} {c d : α → α → Int} (h : TW c) (k : TW d) : TW (fun x y => orI (c x y) (d x y)) where
  refl x := by unfold orI; rw [h.refl, if_pos rfl, k.refl]
  sym x y := by
    unfold orI
    have h1 := h.sym x y
    have h2 := h.sym y x
    have h3 := k.sym x y
    by_cases e : c x y = 0
    · have e2 : c y x = 0 := by omega
      rw [if_pos e, if_pos e2]; exact h3
    · have e2 : c y x ≠ 0 := by omega
      rw [if_neg e, if_neg e2]; exact h1
  tr x y z := by
    unfold orI
    have h1 := h.sym x y
    have h2 := h.sym y x
    have h3 := h.sym y z
    have h4 := h.sym z y
    have h5 := h.sym x z
    have h6 := h.sym z x
    have t1 := h.tr x y z
    have t2 := h.tr y z x
    have t3 := h.tr z x y
    have t4 := k.tr x y z
    intro a b
    by_cases e1 : c x y = 0 <;> by_cases e2 : c y z = 0 <;> by_cases e3 : c x z = 0 <;> simp only [e1, e2, e3, if_true, if_false] at a b ⊢ <;> omega
theorem TW.key {α β : Type} {c : β → β → Int} (h : TW c) (f : α → β) : TW (fun x y => c (f x) (f y)) := ⟨fun _ => h.refl _, fun _ _ => h.sym _ _, fun _ _ _ => h.tr _ _ _⟩

theorem TW.int : TW Lib.compareInt where
  refl x := by unfold Lib.compareInt; simp
  sym x y := by unfold Lib.compareInt; split <;> split <;> (try split) <;> omega
  tr x y z := by unfold Lib.compareInt; split <;> split <;> (try split) <;> (try split) <;> (try split) <;> omega

def cmpS (a b : Key) : Int := if Op.bytesLess a b = true then -1 else if Op.bytesLess b a = true then 1 else 0
theorem cmpS_le {a b : Key} : cmpS a b ≤ 0 ↔ Op.bytesLess b a = false := by
  unfold cmpS
  by_cases h : Op.bytesLess a b = true
  · rw [if_pos h]
    refine ⟨fun _ => ?_, fun _ => by omega⟩
    cases h2 : Op.bytesLess b a with
    | false => rfl
    | true => have := lt_trans h h2; rw [lt_irrefl] at this; cases this
  · rw [if_neg h]
    cases h2 : Op.bytesLess b a <;> simp
theorem TW.str : TW cmpS where
  refl x := by unfold cmpS; rw [lt_irrefl]; rfl
  sym x y := by
    have h1 : 0 < cmpS x y ↔ Op.bytesLess y x = true := by
      have := cmpS_le (a := x) (b := y)
      cases h : Op.bytesLess y x
      · rw [h] at this; simp at this; simp; omega
      · rw [h] at this; simp at this; simp; omega
    rw [h1]
    unfold cmpS
    cases h : Op.bytesLess y x
    · simp; split <;> omega
    · simp
  tr x y z h1 h2 := by
    rw [cmpS_le] at *
    exact le_le h1 h2

/-! ### the library's functions -/
set_option maxRecDepth 20000 in
set_option maxHeartbeats 2000000 in
theorem nan101 (W : World) (a : Key) : Calls Tryz.prog 101 #[.string ⟨a.toArray⟩] W fun e w' => e = .returned (.bool false) ∧ w' = W := by
  go_enter Tryz.func101, Tryz.ntmps101
  go_wp2
  go_ret
  exact ⟨rfl, rfl⟩

set_option maxRecDepth 20000 in
set_option maxHeartbeats 2000000 in
theorem cmp71 (W : World) (a b : Key) : Calls Tryz.prog 71 #[.string ⟨a.toArray⟩, .string ⟨b.toArray⟩] W fun e w' => e = .returned (.int .i64 (cmpS a b)) ∧ w' = W := by
  have H := fun W (a : Key) => nan101 W a
  have HN := Lib.hid H
  clear H
  have hle := le_eq a b
  unfold cmpS
  cases h1 : Op.bytesLess a b with
  | true =>
    go_enter Tryz.func71, Tryz.ntmps71
    go_wp2_with (go_at_call 101; refine (HN.out _ _).mono ?_; rintro e w1 ⟨rfl, rfl⟩)
    go_ret
    exact ⟨rfl, rfl⟩
  | false =>
    cases h2 : Op.bytesLess b a with
    | true =>
      rw [h1, h2] at hle
      go_enter Tryz.func71, Tryz.ntmps71
      go_wp2_with (go_at_call 101; refine (HN.out _ _).mono ?_; rintro e w1 ⟨rfl, rfl⟩)
      go_ret
      exact ⟨rfl, rfl⟩
    | false =>
      rw [h1, h2] at hle
      go_enter Tryz.func71, Tryz.ntmps71
      go_wp2_with (go_at_call 101; refine (HN.out _ _).mono ?_; rintro e w1 ⟨rfl, rfl⟩)
      go_ret
      exact ⟨rfl, rfl⟩

def orL : List Int → Int
  | [] => 0
  | x :: r => orI x (orL r)

set_option maxRecDepth 20000 in
set_option maxHeartbeats 2000000 in
theorem or70 (W : World) (g c : Nat) (L : List Int) (h : rowOf W g = (L.map (Value.int .i64)).toArray) (hl : L.length ≤ 100) : Calls Tryz.prog 70 #[.slice (some ⟨g, 0, none⟩) L.length c] W fun e w' => e = .returned (.int .i64 (orL L)) ∧ w' = W := by
  have H := Lib.hid h
  clear h
  go_enter Tryz.func70, Tryz.ntmps70
  go_wp2
  go_loopw [8] (fun t8 wr => ∃ j : Nat, t8 = .int .i64 (j : Nat) ∧ j ≤ L.length ∧ orL (L.drop j) = orL L ∧ wr = W) (fun t8 _ => L.length - (intOf t8).toNat)
  case atStart => exact ⟨0, rfl, Nat.zero_le _, rfl, rfl⟩
  case round =>
    obtain ⟨j, rfl, hj, ho, rfl⟩ := hrel
    have HO := Lib.hid ho
    clear ho
    by_cases hlt : j < L.length
    · have c0 : (rowOf wr g)[j]? = some (.int .i64 L[j]) := by rw [H.out, List.getElem?_toArray, List.getElem?_map, List.getElem?_eq_getElem hlt]; rfl
      have HD := Lib.hid (List.drop_eq_getElem_cons hlt)
      have HLT := Lib.hid hlt
      have hji : (j : Int) < (L.length : Int) := by omega
      generalize L[j] = x at c0 HD
      by_cases hx : x = 0
      · subst hx
        go_wp2_with fail
        go_roundw
        case rel => exact ⟨j + 1, by go_num, by have := HLT.out; omega, by rw [← HO.out, HD.out]; rfl, trivial⟩
        case measure => (have := HLT.out; simp only [intOf]; omega)
      · have hx1 : (x == 0) = false := by rw [beq_eq_false_iff_ne]; exact hx
        go_wp2_with fail
        go_ret
        refine ⟨?_, rfl⟩
        rw [← HO.out, HD.out]
        simp [orL, orI, hx]
    · obtain rfl : j = L.length := by omega
      go_wp2_with fail
      go_ret
      refine ⟨?_, rfl⟩
      rw [← HO.out, List.drop_length]; rfl

theorem two_new (w : World) (z y : Array Value) (t : TypeId) : rowOf ((w.alloc (.cells z t)).alloc (.cells y t)) w.heap.size = z ∧ rowOf ((w.alloc (.cells z t)).alloc (.cells y t)) (w.heap.size + 1) = y := by
  refine ⟨?_, rowOf_alloc_at _ _ _ _ _ (by simp)⟩
  rw [rowOf_alloc_lt _ _ _ (by simp)]; exact rowOf_alloc_at _ _ _ _ _ rfl
theorem grown_two (w : World) (a b c : Obj) : ∃ q os', (((w.alloc a).alloc b).alloc c).drew = grow (w.drewN q) os' := ⟨1, _, by rw [alloc_eq_grow, alloc_eq_grow, alloc_eq_grow, grow_grow, grow_grow]; rfl⟩

set_option maxRecDepth 20000 in
set_option maxHeartbeats 2000000 in
theorem closure69 (W : World) (x y : Key) : Calls Tryz.prog 69 #[.agg #[.string ⟨#[116]⟩, .string ⟨x.toArray⟩], .agg #[.string ⟨#[116]⟩, .string ⟨y.toArray⟩]] W fun e w' => e = .returned (.int .i64 (orL [cmpS [116] [116], cmpS x y])) ∧ ∃ q os', w' = grow (W.drewN q) os' := by
  have h1 : ∀ W, Calls Tryz.prog 71 #[.string ⟨#[116]⟩, .string ⟨#[116]⟩] W fun e w' => e = .returned (.int .i64 (cmpS [116] [116])) ∧ w' = W := fun W => cmp71 W [116] [116]
  have h2 := fun W => cmp71 W x y
  generalize cmpS [116] [116] = u at h1 ⊢
  generalize cmpS x y = v at h2 ⊢
  have H1 := Lib.hid h1
  have H2 := Lib.hid h2
  clear h1 h2
  obtain ⟨r1, r2⟩ := two_new W #[.string ⟨#[116]⟩, .string ⟨x.toArray⟩] #[.string ⟨#[116]⟩, .string ⟨y.toArray⟩] 66
  have hg := grown_two W (.cells #[.string ⟨#[116]⟩, .string ⟨x.toArray⟩] 66) (.cells #[.string ⟨#[116]⟩, .string ⟨y.toArray⟩] 66) (.cells #[.int .i64 u, .int .i64 v] 3)
  have HG := Lib.hid hg
  clear hg
  go_enter Tryz.func69, Tryz.ntmps69
  go_upto_region 1 with fail
  generalize (W.alloc (.cells #[.string ⟨#[116]⟩, .string ⟨x.toArray⟩] 66)).alloc (.cells #[.string ⟨#[116]⟩, .string ⟨y.toArray⟩] 66) = W2 at *
  refine wp_region_still_tail 10 (by kernel_rfl) (by kernel_rfl) ?_
  simp only [List.take_succ_cons, List.take_zero, List.drop_succ_cons, List.drop_zero]
  still_step
  still_step
  still_step
  still_step
  still_call (H1.out _)
  still_step
  still_step
  still_step
  still_step
  still_call (H2.out _)
  refine wpStill_nil ?_
  change wpList _ _ _ _ _ W2.drew
  go_wp2_with (go_at_call 70; refine (or70 _ W2.heap.size 2 [u, v] (by simp [go_sem]) (by simp)).mono ?_; rintro e w1 ⟨rfl, rfl⟩)
  go_ret
  exact ⟨rfl, HG.out⟩

def encR (y : RdT) : List Value := [.string ⟨#[116]⟩, .int .i64 y.kind, .string ⟨y.lo.toArray⟩, .string ⟨y.hi.toArray⟩]
def cfR (x y : RdT) : Int := orL [cmpS [116] [116], Lib.compareInt x.kind y.kind, cmpS x.lo y.lo, cmpS x.hi y.hi]
set_option maxRecDepth 20000 in
set_option maxHeartbeats 4000000 in
theorem closure73 (W : World) (x y : RdT) : Calls Tryz.prog 73 #[.agg #[.string ⟨#[116]⟩, .int .i64 x.kind, .string ⟨x.lo.toArray⟩, .string ⟨x.hi.toArray⟩], .agg #[.string ⟨#[116]⟩, .int .i64 y.kind, .string ⟨y.lo.toArray⟩, .string ⟨y.hi.toArray⟩]] W fun e w' => e = .returned (.int .i64 (cfR x y)) ∧ ∃ q os', w' = grow (W.drewN q) os' := by
  have h1 : ∀ W, Calls Tryz.prog 71 #[.string ⟨#[116]⟩, .string ⟨#[116]⟩] W fun e w' => e = .returned (.int .i64 (cmpS [116] [116])) ∧ w' = W := fun W => cmp71 W [116] [116]
  have h2 : ∀ W, Calls Tryz.prog 74 #[.int .i64 x.kind, .int .i64 y.kind] W fun e w' => e = .returned (.int .i64 (Lib.compareInt x.kind y.kind)) ∧ w' = W := fun W => AnyG.cmp_Compare_int lay74 x.kind y.kind W
  have h3 := fun W => cmp71 W x.lo y.lo
  have h4 := fun W => cmp71 W x.hi y.hi
  unfold cfR
  obtain ⟨xk, xl, xh⟩ := x
  obtain ⟨yk, yl, yh⟩ := y
  simp only at h2 h3 h4 ⊢
  generalize cmpS [116] [116] = u1 at h1 ⊢
  generalize Lib.compareInt xk yk = u2 at h2 ⊢
  generalize cmpS xl yl = u3 at h3 ⊢
  generalize cmpS xh yh = u4 at h4 ⊢
  have H1 := Lib.hid h1
  have H2 := Lib.hid h2
  have H3 := Lib.hid h3
  have H4 := Lib.hid h4
  clear h1 h2 h3 h4
  obtain ⟨r1, r2⟩ := two_new W #[.string ⟨#[116]⟩, .int .i64 xk, .string ⟨xl.toArray⟩, .string ⟨xh.toArray⟩] #[.string ⟨#[116]⟩, .int .i64 yk, .string ⟨yl.toArray⟩, .string ⟨yh.toArray⟩] 104
  have HG := Lib.hid (grown_two W (.cells #[.string ⟨#[116]⟩, .int .i64 xk, .string ⟨xl.toArray⟩, .string ⟨xh.toArray⟩] 104) (.cells #[.string ⟨#[116]⟩, .int .i64 yk, .string ⟨yl.toArray⟩, .string ⟨yh.toArray⟩] 104) (.cells #[.int .i64 u1, .int .i64 u2, .int .i64 u3, .int .i64 u4] 3))
  go_enter Tryz.func73, Tryz.ntmps73
  go_upto_region 1 with fail
  generalize (W.alloc (.cells #[.string ⟨#[116]⟩, .int .i64 xk, .string ⟨xl.toArray⟩, .string ⟨xh.toArray⟩] 104)).alloc (.cells #[.string ⟨#[116]⟩, .int .i64 yk, .string ⟨yl.toArray⟩, .string ⟨yh.toArray⟩] 104) = W2 at *
  refine wp_region_still_tail 20 (by kernel_rfl) (by kernel_rfl) ?_
  simp only [List.take_succ_cons, List.take_zero, List.drop_succ_cons, List.drop_zero]
  still_step
  still_step
  still_step
  still_step
  still_call (H1.out _)
  still_step
  still_step
  still_step
  still_step
  still_call (H2.out _)
  still_step
  still_step
  still_step
  still_step
  still_call (H3.out _)
  still_step
  still_step
  still_step
  still_step
  still_call (H4.out _)
  refine wpStill_nil ?_
  change wpList _ _ _ _ _ W2.drew
  go_wp2_with (go_at_call 70; refine (or70 _ W2.heap.size 4 [u1, u2, u3, u4] (by simp [go_sem]) (by simp)).mono ?_; rintro e w1 ⟨rfl, rfl⟩)
  go_ret
  exact ⟨rfl, HG.out⟩

set_option maxRecDepth 20000 in
set_option maxHeartbeats 4000000 in
theorem closure126 (W : World) (x y : Nat) : Calls Tryz.prog 126 #[.agg #[.int .i64 (x : Nat), .string ⟨#[116]⟩], .agg #[.int .i64 (y : Nat), .string ⟨#[116]⟩]] W fun e w' => e = .returned (.int .i64 (orL [Lib.compareInt x y, cmpS [116] [116]])) ∧ ∃ q os', w' = grow (W.drewN q) os' := by
  have h1 : ∀ W, Calls Tryz.prog 170 #[.int .i64 (x : Nat), .int .i64 (y : Nat)] W fun e w' => e = .returned (.int .i64 (Lib.compareInt x y)) ∧ w' = W := fun W => AnyG.cmp_Compare_int lay170 x y W
  have h2 : ∀ W, Calls Tryz.prog 71 #[.string ⟨#[116]⟩, .string ⟨#[116]⟩] W fun e w' => e = .returned (.int .i64 (cmpS [116] [116])) ∧ w' = W := fun W => cmp71 W [116] [116]
  generalize Lib.compareInt x y = u at h1 ⊢
  generalize cmpS [116] [116] = v at h2 ⊢
  have H1 := Lib.hid h1
  have H2 := Lib.hid h2
  clear h1 h2
  obtain ⟨r1, r2⟩ := two_new W #[.int .i64 (x : Nat), .string ⟨#[116]⟩] #[.int .i64 (y : Nat), .string ⟨#[116]⟩] 138
  have HG := Lib.hid (grown_two W (.cells #[.int .i64 (x : Nat), .string ⟨#[116]⟩] 138) (.cells #[.int .i64 (y : Nat), .string ⟨#[116]⟩] 138) (.cells #[.int .i64 u, .int .i64 v] 3))
  go_enter Tryz.func126, Tryz.ntmps126
  go_upto_region 1 with fail
  generalize (W.alloc (.cells #[.int .i64 (x : Nat), .string ⟨#[116]⟩] 138)).alloc (.cells #[.int .i64 (y : Nat), .string ⟨#[116]⟩] 138) = W2 at *
  refine wp_region_still_tail 10 (by kernel_rfl) (by kernel_rfl) ?_
  simp only [List.take_succ_cons, List.take_zero, List.drop_succ_cons, List.drop_zero]
  still_step
  still_step
  still_step
  still_step
  still_call (H1.out _)
  still_step
  still_step
  still_step
  still_step
  still_call (H2.out _)
  refine wpStill_nil ?_
  change wpList _ _ _ _ _ W2.drew
  go_wp2_with (go_at_call 70; refine (or70 _ W2.heap.size 2 [u, v] (by simp [go_sem]) (by simp)).mono ?_; rintro e w1 ⟨rfl, rfl⟩)
  go_ret
  exact ⟨rfl, HG.out⟩

/-! ### the sorts -/
theorem sorts_of {α : Type} [Inhabited α] {enc : α → List Value} {k : Nat} (hk : ∀ x, (enc x).length = k) (k0 : 0 < k) {cf : α → α → Int} {fid : FuncId} {fv : Value}
    (hnone : ∀ w, Calls Tryz.prog fid #[.slice none 0 0, fv] w fun e w' => e = .returned (.tuple #[]) ∧ w' = w)
    (hcon : ∀ (g cap : Nat) (d : Array α) (w : World), HoldsK enc k w g 0 d → g < w.heap.size → d.size < 4611686018427387904 → Calls Tryz.prog fid #[.slice (some ⟨g, 0, none⟩) d.size cap, fv] w fun e w' => e = .returned (.tuple #[]) ∧ ∃ d' n os, PermIn 0 d.size d d' ∧ SortedIn (ltOf cf) 0 d.size d' ∧ w' = sortWorldK enc k w g 0 n d' os)
    (w : World) (v : Value) (xs : List α) (base : Nat) (ho : OwnRows w v k (encRows enc xs) base) (hlt : xs.length < 2 ^ 41) :
    Calls Tryz.prog fid #[v, fv] w fun e w' => e = .returned (.tuple #[]) ∧ ∃ ys, ys.Perm xs ∧ OwnRows w' v k (encRows enc ys) base ∧ Fr (fun i => v.ownBlock = some i) w w' := by
  rcases ho with ⟨rfl, hx⟩ | ⟨g, cap, rfl, h1⟩
  · obtain rfl : xs = [] := List.eq_nil_of_length_eq_zero (by rw [← encRows_length enc, hx]; rfl)
    refine (hnone w).mono ?_
    rintro e w' ⟨rfl, rfl⟩
    exact ⟨rfl, [], List.Perm.refl _, OwnRows.nil _ _ _, Fr.refl _ _⟩
  · have h : OwnRows w (.slice (some ⟨g, 0, none⟩) (encRows enc xs).length cap) k (encRows enc xs) base := .inr ⟨g, cap, rfl, h1⟩
    have hlen : (encRows enc xs).length = xs.toArray.size := by rw [encRows_length]; simp
    have := hcon g cap xs.toArray w (own_holds hk h) (live_lt h1.2.1) (by simp at hlt ⊢; omega)
    rw [← hlen] at this
    refine this.mono ?_
    rintro e w' ⟨rfl, d', m, os, hpm, -, rfl⟩
    rw [hlen] at hpm
    have hpe := permIn_perm hpm
    obtain ⟨a1, a2⟩ := own_sorted hk k0 h (ys := d'.toList) (by have := hpe.length_eq; simpa using this) m os
    rw [Array.toArray_toList] at a1 a2
    exact ⟨rfl, d'.toList, hpe, a1, frOwn a2⟩

def encL (s : Key) : List Value := [.string ⟨#[116]⟩, .string ⟨s.toArray⟩]
theorem TW.orL2 {α : Type} {c d : α → α → Int} (h : TW c) (k : TW d) : TW (fun x y => orL [c x y, d x y]) := by
  have e : (fun x y => orL [c x y, d x y]) = (fun x y => orI (c x y) (orI (d x y) 0)) := rfl
  rw [e]
  exact h.or (k.or ⟨fun _ => rfl, fun _ _ => by simp, fun _ _ _ _ _ => Int.le_refl _⟩)

theorem sorts68 : Sorts68 := by
  intro w v xs base ho hlt
  have := sorts_of (enc := encL) (k := 2) (cf := fun x y => orL [cmpS [116] [116], cmpS x y]) (fid := 68) (fv := .func (.func 69) #[] #[]) (fun _ => rfl) (by omega)
    (fun w => AnyF.slices_SortFunc_none { lay68 with } none 0 _ w)
    (fun g cap d w hH hb hs => AnyQ.slices_SortFunc lay68 2 Tryz.isAgg66 Tryz.sizeOf66 encL (fun _ => rfl) (fun x u hu => by simp [encL] at hu; rcases hu with rfl | rfl <;> rfl) _ (TW.orL2 (TW.str.key (fun _ : Key => ([116] : Key))) TW.str).swo 69 #[] g 0 cap d w (enters_of Tryz.func69 (by kernel_rfl) rfl) (fun _ _ _ _ x y => closure69 _ x y) hH hb hs)
    w v xs base ho hlt
  exact this

theorem sorts72 : Sorts72 := by
  intro w v xs base ho hlt
  letI : Inhabited RdT := ⟨⟨0, [], []⟩⟩
  have hT : TW cfR := by
    have e : cfR = (fun x y => orI (cmpS [116] [116]) (orI (Lib.compareInt x.kind y.kind) (orI (cmpS x.lo y.lo) (orI (cmpS x.hi y.hi) 0)))) := rfl
    rw [e]
    exact (TW.str.key (fun _ : RdT => ([116] : Key))).or ((TW.int.key RdT.kind).or ((TW.str.key RdT.lo).or ((TW.str.key RdT.hi).or ⟨fun _ => rfl, fun _ _ => by simp, fun _ _ _ _ _ => Int.le_refl _⟩)))
  have := sorts_of (enc := encR) (k := 4) (cf := cfR) (fid := 72) (fv := .func (.func 73) #[] #[]) (fun _ => rfl) (by omega)
    (fun w => AnyF.slices_SortFunc_none { lay72 with } none 0 _ w)
    (fun g cap d w hH hb hs => AnyQ.slices_SortFunc lay72 4 Tryz.isAgg104 Tryz.sizeOf104 encR (fun _ => rfl) (fun x u hu => by simp [encR] at hu; rcases hu with rfl | rfl | rfl | rfl <;> rfl) _ hT.swo 73 #[] g 0 cap d w (enters_of Tryz.func73 (by kernel_rfl) rfl) (fun _ _ _ _ x y => closure73 _ x y) hH hb hs)
    w v xs base ho hlt
  exact this
end Go.Proofs.YteldfmgjbgedaaaGreat
