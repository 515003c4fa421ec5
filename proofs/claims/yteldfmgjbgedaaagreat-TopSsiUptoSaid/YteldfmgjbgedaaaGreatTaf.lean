/-
  slices.Clone of numbers.
  Package serial: a web in memory; what the library's functions do (to be proved).
-/
import Derived.Test.YteldfmgjbgedaaaGreatMst
import Derived.Test.YteldfmgjbgedaaaGreatTe
namespace Go.Proofs.YteldfmgjbgedaaaGreat
open Go.RowKit Go.Maps

def intRows (xs : List Int) : List (Array Value) := xs.map fun i => #[.int .i64 i]
theorem intRows_length (xs : List Int) : (intRows xs).length = xs.length := by simp [intRows]

@[go_sem] theorem run_eqlNil32 (w : World) (a : Option Addr) (n c : Nat) : (binOp .eql 32 (.slice a n c) (.slice none 0 0)).run Tryz.prog w = .ok (.bool a.isNone) w :=
  Lib.run_eql_slice_nil w 32 3 a n c 0 0 Tryz.underlying32

set_option maxRecDepth 20000 in
set_option maxHeartbeats 2000000 in
theorem clone85_nil (w : World) : Calls Tryz.prog 85 #[.slice none 0 0] w fun e w' => e = .returned (.slice none 0 0) ∧ w = w' := by
  go_enter Tryz.func85, Tryz.ntmps85
  go_wp2
  go_ret
  exact ⟨rfl, rfl⟩

set_option maxRecDepth 20000 in
set_option maxHeartbeats 2000000 in
theorem clone85_some (w : World) (g n c : Nat) (hn : 0 < n) (hx : n * 1 ≤ (rowOf w g).size) (hb : n ≤ 1073741824) :
    Calls Tryz.prog 85 #[.slice (some ⟨g, 0, none⟩) n c] w fun e w' => ∃ g' cap, e = .returned (.slice (some ⟨g', 0, none⟩) n cap) ∧ n ≤ cap ∧ cap ≤ maxLen ∧ live w' g' = true ∧ (rowOf w' g').size = cap * 1 ∧ cut (rowOf w' g') 0 (n * 1) = cut (rowOf w g) 0 (n * 1) ∧ w.heap.size ≤ g' ∧ Fr (fun _ => False) w w' := by
  have hzz : w.heap.size < w.heap.size + 1 := by omega
  have hgl : g < w.heap.size := by
    by_cases h : g < w.heap.size
    · exact h
    · exfalso
      unfold rowOf at hx
      rw [Array.getElem?_eq_none (by omega)] at hx
      simp at hx; omega
  have hx' : 0 + n * 1 ≤ (rowOf (w.alloc (.cells #[] 3)) g).size := by rw [rowOf_alloc_lt _ _ _ hgl]; omega
  have hr := Lib.hid (rowOf_alloc_lt w (.cells #[] 3) g hgl)
  go_enter Tryz.func85, Tryz.ntmps85
  go_wp2_with (at_builtin; refine wpList_append_fresh rfl (.tmp 5) (.tmp 6) 32 rfl 3 _ 1 8 Tryz.underlying32 ti3 (some ⟨w.heap.size, 0, none⟩) g 0 n c rfl rfl (.inr ⟨_, rfl, live_alloc_at _ _ _ _ rfl⟩) hn hx' (by simp only [maxLen]; omega) (by omega) ?_; intro cap cur c1 c2 c3 c4 c5)
  go_ret
  refine ⟨w.heap.size + 1, cap, by simp, c1, c2, by simp [go_sem], by simp [go_sem, c3], ?_, by omega, ((Fr.refl (fun _ => False) w).alloc _).alloc _ |>.drew⟩
  have := c4.out
  rw [hr.out] at this
  rw [← this]
  simp [go_sem]

theorem clone85_any {w : World} {v : Value} {L : List Int} {base : Nat} (h : OwnRows w v 1 (intRows L) base) (hb : L.length ≤ 1073741824) :
    Calls Tryz.prog 85 #[v] w fun e w' => ∃ v', e = .returned v' ∧ OwnRows w' v' 1 (intRows L) w.heap.size ∧ Fr (fun _ => False) w w' := by
  rcases h with ⟨rfl, h⟩ | ⟨g, cap, rfl, h1, h2, h3, h4, h5, h6⟩
  · refine (clone85_nil w).mono ?_
    rintro e w' ⟨rfl, rfl⟩
    exact ⟨_, rfl, .inl ⟨rfl, h⟩, Fr.refl _ _⟩
  · have hl := intRows_length L
    have hm := Nat.mul_le_mul_right 1 h3.1
    refine (clone85_some w g (intRows L).length cap h3.2 (by omega) (by omega)).mono ?_
    rintro e w' ⟨g', cap', rfl, a1, a2, a3, a4, a5, a6, a7⟩
    refine ⟨_, rfl, .inr ⟨g', cap', rfl, a6, a3, ⟨a1, h3.2⟩, a2, a4, fun i hi => ?_⟩, a7⟩
    rw [← h6 i hi]
    have hm' := Nat.mul_le_mul_right 1 a1
    have hi4 : i * 1 + 1 ≤ (intRows L).length * 1 := by have := Nat.mul_le_mul_right 1 hi; rw [Nat.succ_mul] at this; exact this
    refine cut_ext (cut_size (by omega)) (by omega) (fun j hj => ?_)
    rw [cut_get (by omega) j hj]
    have e1 := cut_get (cur := rowOf w' g') (off := 0) (n := (intRows L).length * 1) (by omega) (i * 1 + j) (by omega)
    have e2 := cut_get (cur := rowOf w g) (off := 0) (n := (intRows L).length * 1) (by omega) (i * 1 + j) (by omega)
    rw [Nat.zero_add] at e1 e2
    rw [← e1, ← e2, a5]

end Go.Proofs.YteldfmgjbgedaaaGreat

namespace Go.Proofs.YteldfmgjbgedaaaGreat
open Go.RowKit Go.Maps

def Sorted79 : Prop := ∀ (w : World) (v : Value) (xs : List Nat) (base bx : Nat), OwnRows w v 1 (natRows xs) base → xs.length < 2 ^ 36 → rowOf w bx = #[v] → live w bx = true →
  Calls Tryz.prog 79 #[.func (.func 106) #[] #[.pointer (some ⟨bx, 0, none⟩)]] w fun e w' => ∃ v' ys, e = .returned v' ∧ OwnRows w' v' 1 (natRows ys) w.heap.size ∧ ys.Perm xs ∧ ys.Pairwise (· ≤ ·) ∧ Fr (fun _ => False) w w'
def Sorts83 : Prop := ∀ (w : World) (v : Value) (xs : List Nat) (base : Nat), OwnRows w v 1 (natRows xs) base → xs.length < 2 ^ 41 →
  Calls Tryz.prog 83 #[v] w fun e w' => e = .returned (.tuple #[]) ∧ ∃ ys, ys.Perm xs ∧ ys.Pairwise (· ≤ ·) ∧ OwnRows w' v 1 (natRows ys) base ∧ Fr (fun k => v.ownBlock = some k) w w'
def Search82 : Prop := ∀ (w : World) (v : Value) (xs : List Nat) (base : Nat), OwnRows w v 1 (natRows xs) base → xs.length < 2 ^ 41 → xs.Pairwise (· ≤ ·) → xs.Nodup → ∀ i t, xs[i]? = some t →
  Calls Tryz.prog 82 #[v, .int .i64 (t : Nat)] w fun e w' => e = .returned (.tuple #[.int .i64 (i : Nat), .bool true]) ∧ Fr (fun _ => False) w w'
def Compact84 : Prop := ∀ (w : World) (v : Value) (xs : List Nat) (base : Nat), OwnRows w v 1 (natRows xs) base → xs.length < 2 ^ 41 → xs.Pairwise (· ≤ ·) →
  Calls Tryz.prog 84 #[v] w fun e w' => ∃ v' ys, e = .returned v' ∧ OwnRows w' v' 1 (natRows ys) base ∧ ys.Nodup ∧ (∀ x, x ∈ ys ↔ x ∈ xs) ∧ (∀ i, v'.ownBlock = some i → v.ownBlock = some i) ∧ Fr (fun k => v.ownBlock = some k) w w'

/-- A web in memory. -/
structure WebAt (w : World) (p gn gi : Nat) (tv : Value) (ws : List Nat) (vs : List Value) (N : List (List Nat)) (I : List Int) (base : Nat) : Prop where
  rp : rowOf w p = #[tv, .slice (some ⟨gn, 0, none⟩) ws.length ws.length, .slice (some ⟨gi, 0, none⟩) ws.length ws.length]
  lp : live w p = true
  tx : OwnRows w tv 1 (natRows ws) base
  rn : rowOf w gn = vs.toArray
  ln : live w gn = true
  ri : rowOf w gi = (I.map (Value.int .i64)).toArray
  li : live w gi = true
  vn : vs.length = ws.length
  nn : N.length = ws.length
  ii : I.length = ws.length
  own : ∀ (i : Nat) (v : Value) (l : List Nat), vs[i]? = some v → N[i]? = some l → OwnRows w v 1 (natRows l) base
  inj : ∀ (i j : Nat) (v u : Value) (k : Nat), vs[i]? = some v → vs[j]? = some u → v.ownBlock = some k → u.ownBlock = some k → i = j
  sep : ∀ (i : Nat) (v : Value) (k : Nat), vs[i]? = some v → v.ownBlock = some k → k ≠ p ∧ k ≠ gn ∧ k ≠ gi ∧ tv.ownBlock ≠ some k
  ne : p ≠ gn ∧ p ≠ gi ∧ gn ≠ gi
  tn : ∀ k, tv.ownBlock = some k → k ≠ p ∧ k ≠ gn ∧ k ≠ gi
  bs : base ≤ p ∧ base ≤ gn ∧ base ≤ gi

section
variable {w w' : World} {p gn gi : Nat} {tv : Value} {ws : List Nat} {vs : List Value} {N : List (List Nat)} {I : List Int} {base : Nat}
theorem WebAt.get (h : WebAt w p gn gi tv ws vs N I base) {i : Nat} (hi : i < ws.length) : ∃ v l, vs[i]? = some v ∧ N[i]? = some l :=
  ⟨_, _, List.getElem?_eq_getElem (by rw [h.vn]; exact hi), List.getElem?_eq_getElem (by rw [h.nn]; exact hi)⟩
theorem WebAt.lt (h : WebAt w p gn gi tv ws vs N I base) {i : Nat} {v : Value} (hv : vs[i]? = some v) : i < ws.length := by
  rw [← h.vn]; exact (List.getElem?_eq_some_iff.1 hv).1
theorem WebAt.old (h : WebAt w p gn gi tv ws vs N I base) {i : Nat} {v : Value} (hv : vs[i]? = some v) {k : Nat} (hk : v.ownBlock = some k) : base ≤ k ∧ k < w.heap.size := by
  obtain ⟨_, l, _, hl⟩ := h.get (h.lt hv)
  exact (h.own i v l hv hl).lt hk

theorem WebAt.fr0 (h : WebAt w p gn gi tv ws vs N I base) (hf : Fr (fun _ => False) w w') : WebAt w' p gn gi tv ws vs N I base where
  rp := (hf.row (live_lt h.lp) (fun e => e)).trans h.rp
  lp := (hf.liv (live_lt h.lp) (fun e => e)).trans h.lp
  tx := h.tx.keep hf (fun _ _ e => e)
  rn := (hf.row (live_lt h.ln) (fun e => e)).trans h.rn
  ln := (hf.liv (live_lt h.ln) (fun e => e)).trans h.ln
  ri := (hf.row (live_lt h.li) (fun e => e)).trans h.ri
  li := (hf.liv (live_lt h.li) (fun e => e)).trans h.li
  vn := h.vn
  nn := h.nn
  ii := h.ii
  own := fun i v l hv hl => (h.own i v l hv hl).keep hf (fun _ _ e => e)
  inj := h.inj
  sep := h.sep
  ne := h.ne
  tn := h.tn
  bs := h.bs

/-- One row's slice is another one. -/
theorem WebAt.setRow (h : WebAt w p gn gi tv ws vs N I base) {i : Nat} {v v' : Value} {l' : List Nat} (hv : vs[i]? = some v) (hf : Fr (fun k => v.ownBlock = some k) w w') (ho : OwnRows w' v' 1 (natRows l') base) (hn : ∀ k, v'.ownBlock = some k → v.ownBlock = some k ∨ w.heap.size ≤ k) :
    WebAt (w'.setRow gn ((rowOf w' gn).setIfInBounds i v')) p gn gi tv ws (vs.set i v') (N.set i l') I base := by
  have hilt := h.lt hv
  have hnv : ∀ k, k = p ∨ k = gn ∨ k = gi → ¬ v.ownBlock = some k := fun k hk e => by have := h.sep i v k hv e; omega
  have l1 := (hf.liv (live_lt h.ln) (hnv gn (.inr (.inl rfl)))).trans h.ln
  have r1 := (hf.row (live_lt h.ln) (hnv gn (.inr (.inl rfl)))).trans h.rn
  have f2 : Fr (fun k => k = gn) w' (w'.setRow gn ((rowOf w' gn).setIfInBounds i v')) := (Fr.refl _ _).setRow _ _ (fun _ => rfl)
  have hne := h.ne
  have hv' : ∀ k, v'.ownBlock = some k → k ≠ p ∧ k ≠ gn ∧ k ≠ gi ∧ tv.ownBlock ≠ some k := fun k hk => by
    rcases hn k hk with e | e
    · exact h.sep i v k hv e
    · have a1 := live_lt h.lp
      have a2 := live_lt h.ln
      have a3 := live_lt h.li
      exact ⟨by omega, by omega, by omega, fun e2 => by have := (h.tx.lt e2).2; omega⟩
  have htv : ∀ k, tv.ownBlock = some k → ¬ v.ownBlock = some k := fun k hk e => (h.sep i v k hv e).2.2.2 hk
  refine ⟨?_, ?_, ?_, ?_, ?_, ?_, ?_, by rw [List.length_set]; exact h.vn, by rw [List.length_set]; exact h.nn, h.ii, fun j u l hu hl => ?_, fun j j' u u' k hu hu' hk hk' => ?_, fun j u k hu hk => ?_, h.ne, h.tn, h.bs⟩
  · rw [rowOf_setRow_ne _ _ _ _ (by omega), hf.row (live_lt h.lp) (hnv p (.inl rfl))]; exact h.rp
  · rw [live_setRow, hf.liv (live_lt h.lp) (hnv p (.inl rfl))]; exact h.lp
  · exact (h.tx.keep hf (fun k hk e => htv k hk e)).keep f2 (fun k hk e => (h.tn k hk).2.1 e)
  · rw [rowOf_setRow_same _ _ _ l1, r1, List.setIfInBounds_toArray]
  · rw [live_setRow]; exact l1
  · rw [rowOf_setRow_ne _ _ _ _ (by omega), hf.row (live_lt h.li) (hnv gi (.inr (.inr rfl)))]; exact h.ri
  · rw [live_setRow, hf.liv (live_lt h.li) (hnv gi (.inr (.inr rfl)))]; exact h.li
  · by_cases e : j = i
    · subst e
      rw [List.getElem?_set_self (by rw [h.vn]; exact hilt)] at hu
      rw [List.getElem?_set_self (by rw [h.nn]; exact hilt)] at hl
      cases hu; cases hl
      exact ho.keep f2 (fun k hk e => (hv' k hk).2.1 e)
    · rw [List.getElem?_set_ne (fun h => e h.symm)] at hu hl
      exact ((h.own j u l hu hl).keep hf (fun k hk e2 => e (h.inj j i u v k hu hv hk e2))).keep f2 (fun k hk e2 => (h.sep j u k hu hk).2.1 e2)
  · have key : ∀ j u, j ≠ i → vs[j]? = some u → u.ownBlock = some k → v'.ownBlock = some k → False := fun j u hj hu h1 h2 => by
      rcases hn k h2 with e | e
      · exact hj (h.inj j i u v k hu hv h1 e)
      · have := (h.old hu h1).2; omega
    by_cases e : j = i
    · by_cases e' : j' = i
      · rw [e, e']
      · rw [List.getElem?_set_ne (fun h => e' h.symm)] at hu'
        rw [e, List.getElem?_set_self (by rw [h.vn]; exact hilt)] at hu
        cases hu
        exact (key j' u' e' hu' hk' hk).elim
    · rw [List.getElem?_set_ne (fun h => e h.symm)] at hu
      by_cases e' : j' = i
      · rw [e', List.getElem?_set_self (by rw [h.vn]; exact hilt)] at hu'
        cases hu'
        exact (key j u e hu hk hk').elim
      · rw [List.getElem?_set_ne (fun h => e' h.symm)] at hu'
        exact h.inj j j' u u' k hu hu' hk hk'
  · by_cases e : j = i
    · rw [e, List.getElem?_set_self (by rw [h.vn]; exact hilt)] at hu
      cases hu
      exact hv' k hk
    · rw [List.getElem?_set_ne (fun h => e h.symm)] at hu
      exact h.sep j u k hu hk

/-- One row's slice holds other numbers. -/
theorem WebAt.same (h : WebAt w p gn gi tv ws vs N I base) {i : Nat} {v : Value} {l' : List Nat} (hv : vs[i]? = some v) (hf : Fr (fun k => v.ownBlock = some k) w w') (ho : OwnRows w' v 1 (natRows l') base) :
    WebAt w' p gn gi tv ws vs (N.set i l') I base := by
  have hilt := h.lt hv
  have hnv : ∀ k, k = p ∨ k = gn ∨ k = gi → ¬ v.ownBlock = some k := fun k hk e => by have := h.sep i v k hv e; omega
  have htv : ∀ k, tv.ownBlock = some k → ¬ v.ownBlock = some k := fun k hk e => (h.sep i v k hv e).2.2.2 hk
  refine ⟨(hf.row (live_lt h.lp) (hnv p (.inl rfl))).trans h.rp, (hf.liv (live_lt h.lp) (hnv p (.inl rfl))).trans h.lp, h.tx.keep hf (fun k hk e => htv k hk e), (hf.row (live_lt h.ln) (hnv gn (.inr (.inl rfl)))).trans h.rn, (hf.liv (live_lt h.ln) (hnv gn (.inr (.inl rfl)))).trans h.ln,
    (hf.row (live_lt h.li) (hnv gi (.inr (.inr rfl)))).trans h.ri, (hf.liv (live_lt h.li) (hnv gi (.inr (.inr rfl)))).trans h.li, h.vn, by rw [List.length_set]; exact h.nn, h.ii, fun j u l hu hl => ?_, h.inj, h.sep, h.ne, h.tn, h.bs⟩
  by_cases e : j = i
  · subst e
    rw [List.getElem?_set_self (by rw [h.nn]; exact hilt)] at hl
    cases hl
    rw [hv] at hu; cases hu
    exact ho
  · rw [List.getElem?_set_ne (fun h => e h.symm)] at hl
    exact (h.own j u l hu hl).keep hf (fun k hk e2 => e (h.inj j i u v k hu hv hk e2))

/-- How many lead to one place is another number. -/
theorem WebAt.setInto (h : WebAt w p gn gi tv ws vs N I base) (i : Nat) (x : Int) : WebAt (w.setRow gi ((rowOf w gi).setIfInBounds i (.int .i64 x))) p gn gi tv ws vs N (I.set i x) base := by
  have f2 : Fr (fun k => k = gi) w (w.setRow gi ((rowOf w gi).setIfInBounds i (.int .i64 x))) := (Fr.refl _ _).setRow _ _ (fun _ => rfl)
  have hne := h.ne
  refine ⟨(f2.row (live_lt h.lp) (by omega)).trans h.rp, (f2.liv (live_lt h.lp) (by omega)).trans h.lp, h.tx.keep f2 (fun k hk e => (h.tn k hk).2.2 e), (f2.row (live_lt h.ln) (by omega)).trans h.rn, (f2.liv (live_lt h.ln) (by omega)).trans h.ln, ?_, by rw [live_setRow]; exact h.li, h.vn, h.nn, by rw [List.length_set]; exact h.ii,
    fun j u l hu hl => (h.own j u l hu hl).keep f2 (fun k hk e => (h.sep j u k hu hk).2.2.1 e), h.inj, h.sep, h.ne, h.tn, h.bs⟩
  rw [rowOf_setRow_same _ _ _ h.li, h.ri, List.setIfInBounds_toArray, List.map_set]

theorem WebAt.made {w : World} {p gn gi : Nat} {tv : Value} {ws : List Nat} {base : Nat}
    (rp : rowOf w p = #[tv, .slice (some ⟨gn, 0, none⟩) ws.length ws.length, .slice (some ⟨gi, 0, none⟩) ws.length ws.length]) (lp : live w p = true) (tx : OwnRows w tv 1 (natRows ws) base)
    (rn : rowOf w gn = (List.replicate ws.length (.slice none 0 0)).toArray) (ln : live w gn = true) (ri : rowOf w gi = (List.replicate ws.length (.int .i64 0)).toArray) (li : live w gi = true) (ne : p ≠ gn ∧ p ≠ gi ∧ gn ≠ gi) (tn : ∀ k, tv.ownBlock = some k → k ≠ p ∧ k ≠ gn ∧ k ≠ gi) (bs : base ≤ p ∧ base ≤ gn ∧ base ≤ gi) :
    WebAt w p gn gi tv ws (List.replicate ws.length (.slice none 0 0)) (List.replicate ws.length []) (List.replicate ws.length 0) base := by
  have hrep : ∀ {α : Type} {n i : Nat} {x y : α}, (List.replicate n x)[i]? = some y → y = x := fun h => by
    rw [List.getElem?_replicate] at h
    split at h
    · exact (Option.some.inj h).symm
    · cases h
  refine ⟨rp, lp, tx, rn, ln, by rw [ri, List.map_replicate], li, List.length_replicate .., List.length_replicate .., List.length_replicate .., fun i v l hv hl => ?_, fun i j v u k hv hu hk => ?_, fun i v k hv hk => ?_, ne, tn, bs⟩
  · rw [hrep hv, hrep hl]; exact OwnRows.nil _ _ _
  · rw [hrep hv] at hk; cases hk
  · rw [hrep hv] at hk; cases hk
end
end Go.Proofs.YteldfmgjbgedaaaGreat
