/-
  Sorting a history's writers by their places: proved from the shelf.
-/
import Derived.Test.YteldfmgjbgedaaaGreatTkl
import Derived.Deep.QuietTactic
import Derived.BigQuiet
namespace Go.Proofs.YteldfmgjbgedaaaGreat
open Go.RowKit Go.Maps Go.Sort Go.Shelf

/-- Numbers of transactions. -/
abbrev TN := { x : Nat // x < 2 ^ 40 }
instance : Inhabited TN := ⟨⟨0, by omega⟩⟩
def encT (x : TN) : Value := .int .i64 (x.1 : Nat)
def cfP (pl : Nat → Option Nat) (x y : TN) : Int := Lib.compareInt ((pl x.1).getD 0 : Nat) ((pl y.1).getD 0 : Nat)
theorem ltP (pl : Nat → Option Nat) (x y : TN) : ltOf (cfP pl) x y = decide ((pl x.1).getD 0 < (pl y.1).getD 0) := by
  unfold ltOf cfP Lib.compareInt
  by_cases h1 : (pl x.1).getD 0 < (pl y.1).getD 0
  · simp [h1]
  · by_cases h2 : (pl y.1).getD 0 < (pl x.1).getD 0
    · simp [h1, h2]
    · simp [h1, h2]
theorem swoP (pl : Nat → Option Nat) : SWO (ltOf (cfP pl)) where
  irrefl x := by rw [ltP]; simp
  trans x y z h1 h2 := by rw [ltP] at *; simp at *; omega
  ntrans x y z h1 h2 := by rw [ltP] at *; simp at *; omega

set_option maxRecDepth 20000 in
set_option maxHeartbeats 2000000 in
theorem closure78 (W : World) {bx p bp n : Nat} {pl : Nat → Option Nat} {m2 m3 : Value} (hx : rowOf W bx = #[.pointer (some ⟨p, 0, none⟩)]) (hp : rowOf W p = #[.map (some bp), m2, m3]) (hP : PlaceAt W bp n pl) (x y : TN) :
    Calls Tryz.prog 78 #[.int .i64 (x.1 : Nat), .int .i64 (y.1 : Nat), .pointer (some ⟨bx, 0, none⟩)] W fun e w' => e = .returned (.int .i64 (cfP pl x y)) ∧ ∃ q os', w' = grow (W.drewN q) os' := by
  have hcon : ∀ W', Calls Tryz.prog 74 #[.int .i64 ((pl x.1).getD 0 : Nat), .int .i64 ((pl y.1).getD 0 : Nat)] W' fun e w' => e = .returned (.int .i64 (cfP pl x y)) ∧ w' = W' := fun W' => AnyG.cmp_Compare_int lay74 ((pl x.1).getD 0 : Nat) ((pl y.1).getD 0 : Nat) W'
  have hl1 : ∀ q, (Instr.lookup 156 (.map (some bp)) (.int .i64 (x.1 : Nat)) false).run Tryz.prog (W.drewN q) = .ok (.int .i64 (((pl x.1).getD 0 : Nat) : Int)) (W.drewN q) := fun q => (hP.fr (fr_drewN W q (fun _ => False)) (fun e => e)).look1 x.2
  have hl2 : ∀ q, (Instr.lookup 156 (.map (some bp)) (.int .i64 (y.1 : Nat)) false).run Tryz.prog (W.drewN q) = .ok (.int .i64 (((pl y.1).getD 0 : Nat) : Int)) (W.drewN q) := fun q => (hP.fr (fr_drewN W q (fun _ => False)) (fun e => e)).look1 y.2
  generalize cfP pl x y = r at hcon ⊢
  generalize (pl x.1).getD 0 = u at *
  generalize (pl y.1).getD 0 = v at *
  have HC := Lib.hid hcon
  obtain ⟨fs160, hu160⟩ := und160
  clear hcon hP
  go_enter Tryz.func78, Tryz.ntmps78
  go_wp2_with fail
  go_quiet (first | (go_at_call 74; refine Calls.quiet_of_same (HC.out _)))
  go_wp2
  go_ret
  exact ⟨rfl, _, #[], by rw [grow_empty]⟩

theorem natRows_encT (xs : List TN) : natRows (xs.map Subtype.val) = encRows (fun x => [encT x]) xs := by simp [natRows, encRows, encT]
theorem lift_TN (xs : List Nat) (h : ∀ x ∈ xs, x < 2 ^ 40) : ∃ zs : List TN, zs.map Subtype.val = xs := ⟨xs.attach.map (fun x => ⟨x.1, h x.1 x.2⟩), by simp⟩

theorem sorts77 : Sorts77 := by
  intro w v xs base bx p bp n pl m2 m3 ho hlt hx40 hbx lbx hp lp hP hnb hnp
  rcases ho with ⟨rfl, hx⟩ | ⟨g, cap, rfl, h1⟩
  · obtain rfl : xs = [] := List.eq_nil_of_length_eq_zero (by rw [← natRows_length, hx]; rfl)
    have := AnyF.slices_SortFunc_none { lay77 with } none 0 (.func (.func 78) #[] #[.pointer (some ⟨bx, 0, none⟩)]) w
    change Calls Tryz.prog 77 _ _ _ at this
    refine this.mono ?_
    rintro e w' ⟨rfl, rfl⟩
    exact ⟨rfl, [], List.Perm.refl _, List.Pairwise.nil, OwnRows.nil _ _ _, Fr.refl _ _⟩
  · have h : OwnRows w (.slice (some ⟨g, 0, none⟩) (natRows xs).length cap) 1 (natRows xs) base := .inr ⟨g, cap, rfl, h1⟩
    have hl := h1.2.1
    obtain ⟨zs, rfl⟩ := lift_TN xs hx40
    rw [natRows_encT] at h hnb hnp ⊢
    have hH := holds_one encT (own_holds (enc := fun x => [encT x]) (fun _ => rfl) h)
    have hgb : g ≠ bx := fun e => hnb (by rw [e]; rfl)
    have hgp : g ≠ p := fun e => hnp (by rw [e]; rfl)
    have hcmp : CmpLays1 Tryz.prog 78 #[.pointer (some ⟨bx, 0, none⟩)] encT (cfP pl) g 0 zs.toArray.size w := by
      intro m os dk hs x y
      have := (own_sorted (enc := fun x => [encT x]) (k := 1) (fun _ => rfl) Nat.one_pos h (ys := dk.toList) (by simpa using hs) m os).2
      rw [← sortWorld_one encT, Array.toArray_toList] at this
      exact closure78 _ ((this.row (live_lt lbx) hgb.symm).trans hbx) ((this.row (live_lt lp) hgp.symm).trans hp) (hP.fr this (hP.elim fun f h => (h.1.ne_live hl).symm)) x y
    have hlen : (encRows (fun x : TN => [encT x]) zs).length = zs.toArray.size := by rw [encRows_length]; simp
    have := Any.slices_SortFunc lay77 encT (fun _ => rfl) (cfP pl) (swoP pl) 78 #[.pointer (some ⟨bx, 0, none⟩)] g 0 cap zs.toArray w (enters_of Tryz.func78 (by kernel_rfl) rfl) hcmp hH (live_lt hl) (by simp at hlt ⊢; omega)
    change Calls Tryz.prog 77 _ _ _ at this
    rw [← hlen] at this
    refine this.mono ?_
    rintro e w' ⟨rfl, d', m, os, hpm, hst, rfl⟩
    rw [hlen] at hpm hst
    have hpe := permIn_perm hpm
    have hsz : d'.size = zs.length := by have := hpe.length_eq; simpa using this
    obtain ⟨a1, a2⟩ := own_sorted (enc := fun x => [encT x]) (k := 1) (fun _ => rfl) Nat.one_pos h (ys := d'.toList) (by simpa using hsz) m os
    rw [← sortWorld_one encT, Array.toArray_toList] at a1 a2
    refine ⟨rfl, d'.toList.map Subtype.val, hpe.map _, ?_, by rw [natRows_encT]; exact a1, frOwn a2⟩
    rw [List.pairwise_map]
    have hst2 : SortedIn (ltOf (cfP pl)) 0 d'.size d' := by rw [hsz]; simpa using hst
    refine (sortedIn_pairwise hst2).imp (fun {a b} hab => ?_)
    rw [ltP] at hab
    simp at hab; omega
end Go.Proofs.YteldfmgjbgedaaaGreat
