/-
  append of one element to a slice of the call's own; copy of bytes.
-/
import Derived.Test.YtflnlpbcmcfblaaApp
namespace Go.Proofs.Ytflnlpbcmcfblaa
open Go.RowKit

/-- A slice of the call's own, element by element (nil, where it has none). -/
def OwnRows (w : World) (v : Value) (size : Nat) (xs : List (Array Value)) (base : Nat) : Prop :=
  (v = .slice none 0 0 ∧ xs = []) ∨
  ∃ g cap, v = .slice (some ⟨g, 0, none⟩) xs.length cap ∧ base ≤ g ∧ live w g = true ∧ (xs.length ≤ cap ∧ 0 < xs.length) ∧ cap ≤ maxLen ∧ (rowOf w g).size = cap * size ∧
    ∀ i (h : i < xs.length), cut (rowOf w g) (i * size) size = xs[i]

theorem OwnRows.nil (w : World) (size base : Nat) : OwnRows w (.slice none 0 0) size [] base := .inl ⟨rfl, rfl⟩

theorem OwnRows.lt {w : World} {v : Value} {size : Nat} {xs : List (Array Value)} {base : Nat} (h : OwnRows w v size xs base) {k : Nat} (hk : v.ownBlock = some k) : base ≤ k ∧ k < w.heap.size := by
  rcases h with ⟨rfl, _⟩ | ⟨g, cap, rfl, h1, h2, _⟩
  · cases hk
  · simp only [Value.ownBlock, Option.some.injEq] at hk; subst hk; exact ⟨h1, live_lt h2⟩

theorem OwnRows.keep {w w' : World} {v : Value} {size : Nat} {xs : List (Array Value)} {base : Nat} (h : OwnRows w v size xs base) {F : Nat → Prop} (hf : Fr F w w') (hF : ∀ k, v.ownBlock = some k → ¬ F k) : OwnRows w' v size xs base := by
  rcases h with ⟨rfl, h⟩ | ⟨g, cap, rfl, h1, h2, h3, h4, h5, h6⟩
  · exact .inl ⟨rfl, h⟩
  · have hg := live_lt h2
    exact .inr ⟨g, cap, rfl, h1, by rw [hf.liv hg (hF g rfl)]; exact h2, h3, h4, by rw [hf.row hg (hF g rfl)]; exact h5, by rw [hf.row hg (hF g rfl)]; exact h6⟩

theorem OwnRows.len {w : World} {v : Value} {size : Nat} {xs : List (Array Value)} {base : Nat} (h : OwnRows w v size xs base) : ∃ a c, v = .slice a xs.length c := by
  rcases h with ⟨rfl, rfl⟩ | ⟨g, cap, rfl, _⟩
  · exact ⟨_, _, rfl⟩
  · exact ⟨_, _, rfl⟩

theorem run_append_one {w : World} {t e : TypeId} {z : Value} {size bytes : Nat} (ty : TypeId) (ht : Try.prog.underlying t = some (.slice e)) (hti : TI e z size bytes) {v : Value} {xs : List (Array Value)} {base : Nat}
    (h : OwnRows w v size xs base) (hbase : base ≤ w.heap.size) (gx c1 : Nat) (x : Array Value) (hx : size ≤ (rowOf w gx).size) (hx2 : cut (rowOf w gx) 0 size = x) (h1 : ones x) (hxs : ∀ y ∈ xs, y.size = size)
    (hm : xs.length + 1 ≤ maxLen) (hfit : Builtin.nextslicecap (xs.length + 1) xs.length * bytes ≤ 281474976710656) :
    ∃ g' cap' w', (Builtin.append_ #[t, t] ty #[v, .slice (some ⟨gx, 0, none⟩) 1 c1]).run Try.prog w = .ok (.slice (some ⟨g', 0, none⟩) (xs.length + 1) cap') w' ∧
      OwnRows w' (.slice (some ⟨g', 0, none⟩) (xs.length + 1) cap') size (xs ++ [x]) base ∧ Fr (fun i => v.ownBlock = some i) w w' ∧ (v.ownBlock = some g' ∨ w.heap.size ≤ g') := by
  obtain ⟨hi0, hzs, hsz⟩ := hti
  obtain ⟨i, hi, hz, hsize, hby⟩ := info_parts hi0
  have hxsz : x.size = size := by rw [← hx2]; exact cut_size (by omega)
  obtain ⟨ys, hown, hys⟩ : ∃ ys, OwnSl w size v xs.length ys ∧ (∀ i (h : i < xs.length), cut ys.toArray (i * size) size = xs[i]) := by
    rcases h with ⟨rfl, rfl⟩ | ⟨g, cap, rfl, b1, b2, ⟨b3, b3p⟩, b4, b5, b6⟩
    · exact ⟨[], ⟨by simp, .inl ⟨rfl, rfl⟩⟩, fun i h => by simp at h⟩
    · have hc := Nat.mul_le_mul_right size b3
      refine ⟨(rowOf w g).toList.take (xs.length * size), ⟨by simp; omega, .inr ⟨g, cap, rfl, b2, b3, b4, b5, rfl⟩⟩, fun i h => ?_⟩
      have hi2 : i * size + size ≤ xs.length * size := by have := Nat.mul_le_mul_right size h; rw [Nat.succ_mul] at this; exact this
      rw [← b6 i h]
      refine cut_ext (cut_size (by omega)) (by simp; omega) (fun q hq => ?_)
      rw [cut_get (by omega) q hq]
      simp only [List.getElem?_toArray, List.getElem?_take]
      rw [if_pos (by omega)]; simp
  obtain ⟨v', w', hrun, ⟨hex, hfr⟩⟩ := run_append_row (P := Try.prog) w t ty e i z size bytes ht hi hz hsize hby hzs hsz v xs.length ys hown (some ⟨gx, 0, none⟩) 1 c1 x.toList (by simp [hxsz])
    (.inr ⟨_, rfl, fun j u hu => by
      have hj : j < size := by have := (List.getElem?_eq_some_iff.1 hu).1; simpa [hxsz] using this
      rw [Addr.add_lit, cell?_row, ← cut_get (by omega : 0 + size ≤ _) j hj, hx2]; simpa using hu⟩) (fun u hu => h1 u (by simpa using hu)) hm
    (fun cap c0 c2 => by obtain rfl : cap = xs.length := by omega
                         exact hfit)
  rcases hex with ⟨h0, _⟩ | ⟨g', cap', rfl, e1, e2, e3, e4, e5, e6⟩
  · omega
  · refine ⟨g', cap', w', hrun, .inr ⟨g', cap', by simp, ?_, e3, ⟨by simpa using e1, by simp⟩, e2, e4, ?_⟩, hfr, e6⟩
    · rcases e6 with e | e
      · exact (h.lt e).1
      · omega
    · intro j hj
      simp only [List.length_append, List.length_cons, List.length_nil, Nat.zero_add] at hj
      have hsize2 : (xs.length + 1) * size ≤ (rowOf w' g').size := by rw [e4]; exact Nat.mul_le_mul_right _ e1
      have hget : ∀ q, q < (xs.length + 1) * size → (rowOf w' g')[q]? = (ys ++ x.toList)[q]? := by
        intro q hq
        rw [← e5, List.getElem?_take, if_pos hq]; simp
      have hyl := hown.1
      rw [Nat.succ_mul] at hsize2
      by_cases hjl : j < xs.length
      · rw [List.getElem_append_left hjl, ← hys j hjl]
        have hj2 : j * size + size ≤ xs.length * size := by have := Nat.mul_le_mul_right size hjl; rw [Nat.succ_mul] at this; exact this
        refine cut_ext (cut_size (by simp [hyl]; omega)) (by omega) (fun q hq => ?_)
        rw [hget _ (by rw [Nat.succ_mul]; omega), cut_get (by simp [hyl]; omega) q hq, List.getElem?_append_left (by omega)]
        simp
      · obtain rfl : j = xs.length := by omega
        rw [List.getElem_append_right (by simp)]
        simp only [Nat.sub_self, List.getElem_cons_zero]
        refine cut_ext hxsz (by omega) (fun q hq => ?_)
        rw [hget _ (by rw [Nat.succ_mul]; omega), List.getElem?_append_right (by omega), hyl]
        simp

theorem wpList_append_one {w : World} {ops : Array Oper} {rest : List Oper} {o : Oper} {a : Act} {Q : Exit → Act → World → Prop} (hgd : o.guard = none) (s y : Operand) (t : TypeId)
    (ho : o.op = .call { callee := .builtin .append, args := #[s, y], argTypes := #[t, t] }) (e : TypeId) (z : Value) (size bytes : Nat) (ht : Try.prog.underlying t = some (.slice e)) (hti : TI e z size bytes)
    (v : Value) (xs : List (Array Value)) (base : Nat) (hs : a.eval s = v) (h : OwnRows w v size xs base) (hbase : base ≤ w.heap.size) (gx c1 : Nat) (hy : a.eval y = .slice (some ⟨gx, 0, none⟩) 1 c1)
    (x : Array Value) (hx : size ≤ (rowOf w gx).size) (hx2 : cut (rowOf w gx) 0 size = x) (h1 : ones x) (hxs : ∀ y ∈ xs, y.size = size)
    (hm : xs.length + 1 ≤ maxLen) (hfit : Builtin.nextslicecap (xs.length + 1) xs.length * bytes ≤ 281474976710656)
    (hK : ∀ g' cap' w', OwnRows w' (.slice (some ⟨g', 0, none⟩) (xs.length + 1) cap') size (xs ++ [x]) base → Fr (fun i => v.ownBlock = some i) w w' → (v.ownBlock = some g' ∨ w.heap.size ≤ g') →
      wpList Try.prog ops Q rest (a.put o.dst (.slice (some ⟨g', 0, none⟩) (xs.length + 1) cap')) w') :
    wpList Try.prog ops Q (o :: rest) a w := by
  obtain ⟨g', cap', w', hrun, a1, a2, a3⟩ := run_append_one o.type ht hti h hbase gx c1 x hx hx2 h1 hxs hm hfit
  refine wpList_plain hgd fun K hk => ?_
  unfold Oper.wp
  simp [execOp, ho, resolve, invoke, builtin, hs, hy, hrun, Result.andThen]
  exact hk _ _ (hK g' cap' w' a1 a2 a3)

theorem step_append_one {w : World} {ops : Array Oper} {o : Oper} {a : Act} {K : Act → World → Prop} {Q : Exit → Act → World → Prop} {E : Prop} (hgd : o.guard = none) (s y : Operand) (t : TypeId)
    (ho : o.op = .call { callee := .builtin .append, args := #[s, y], argTypes := #[t, t] }) (e : TypeId) (z : Value) (size bytes : Nat) (ht : Try.prog.underlying t = some (.slice e)) (hti : TI e z size bytes)
    (v : Value) (xs : List (Array Value)) (base : Nat) (hs : a.eval s = v) (h : OwnRows w v size xs base) (hbase : base ≤ w.heap.size) (gx c1 : Nat) (hy : a.eval y = .slice (some ⟨gx, 0, none⟩) 1 c1)
    (x : Array Value) (hx : size ≤ (rowOf w gx).size) (hx2 : cut (rowOf w gx) 0 size = x) (h1 : ones x) (hxs : ∀ y ∈ xs, y.size = size)
    (hm : xs.length + 1 ≤ maxLen) (hfit : Builtin.nextslicecap (xs.length + 1) xs.length * bytes ≤ 281474976710656)
    (hK : ∀ g' cap' w', OwnRows w' (.slice (some ⟨g', 0, none⟩) (xs.length + 1) cap') size (xs ++ [x]) base → Fr (fun i => v.ownBlock = some i) w w' → (v.ownBlock = some g' ∨ w.heap.size ≤ g') →
      K (a.put o.dst (.slice (some ⟨g', 0, none⟩) (xs.length + 1) cap')) w') :
    if Region.wanted o (yielded ops a.tmps) = true then Oper.wp Try.prog o a w K Q else E := by
  have hw : Region.wanted o (yielded ops a.tmps) = true := by simp [Region.wanted, hgd]
  rw [if_pos hw]
  obtain ⟨g', cap', w', hrun, a1, a2, a3⟩ := run_append_one o.type ht hti h hbase gx c1 x hx hx2 h1 hxs hm hfit
  unfold Oper.wp
  simp [execOp, ho, resolve, invoke, builtin, hs, hy, hrun, Result.andThen]
  exact hK g' cap' w' a1 a2 a3

theorem fitsN {n bytes : Nat} (h : n * bytes ≤ 70368744177664) (hb : bytes ≤ 1000) : Builtin.nextslicecap (n + 1) n * bytes ≤ 281474976710656 := growslice_fits_succ (by omega) (by omega)

/-! ### copy of bytes -/

def copyBig (d s : Value) : Sem Value := Builtin.copy_ #[36, 36] 0 #[d, s]

@[go_sem ↓ high] theorem execOp_copy36 (ρ : Operand → Value) (dst : Option Tmp) (x y : Operand) (type : TypeId) (pos : String) (after : Array Edge) (guard : Option (Nat × Bool)) :
    execOp ρ { dst, op := .call { callee := .builtin .copy, args := #[x, y], argTypes := #[36, 36] }, type, pos, after, guard } = (do pure (.value (← copyBig (ρ x) (ρ y)))) := by
  simp [execOp, resolve, invoke, builtin, copyBig, Builtin.copy_]
attribute [go_sem high] execOp_copy36

theorem run_copyN (w : World) (g o dLen dCap gs os sLen sCap n : Nat) (hn : n = Nat.min sLen dLen) (hl : live w g = true) (h1 : o + n ≤ (rowOf w g).size) (h2 : os + n ≤ (rowOf w gs).size) (h3 : ones (cut (rowOf w gs) os n)) :
    (copyBig (.slice (some ⟨g, o, none⟩) dLen dCap) (.slice (some ⟨gs, os, none⟩) sLen sCap)).run Try.prog w = .ok (goInt n) (w.setRow g (blit (rowOf w g) o (cut (rowOf w gs) os n))) := by
  obtain ⟨t, hg⟩ := live_obj hl
  have hsz : (Try.prog.info? 5).map (·.size) = some 1 := by kernel_rfl
  have hc : (cut (rowOf w gs) os n).size = n := cut_size h2
  have := run_copy_row (P := Try.prog) w 36 36 0 5 g o dLen dCap ⟨gs, os, none⟩ sLen sCap (rowOf w g) t (cut (rowOf w gs) os n).toList Try.underlying36 hsz hg (by rw [Array.length_toList, hc, hn])
    (fun j v hv => by
      have hj : j < n := by have := (List.getElem?_eq_some_iff.1 hv).1; simpa [hc] using this
      rw [Addr.add_lit, cell?_row, ← cut_get h2 j hj]; simpa using hv) (by rw [Array.length_toList, hc]; exact h1) (fun v hv => h3 v (by simpa using hv))
  unfold copyBig
  rw [this]
  simp only [blit, Array.length_toList, hc]

@[go_sem] theorem run_copyS (w : World) (g o dLen dCap gs os sLen sCap : Nat) (hn : sLen ≤ dLen) (hl : live w g = true) (h1 : o + sLen ≤ (rowOf w g).size) (h2 : os + sLen ≤ (rowOf w gs).size) (h3 : ones (cut (rowOf w gs) os sLen)) :
    (copyBig (.slice (some ⟨g, o, none⟩) dLen dCap) (.slice (some ⟨gs, os, none⟩) sLen sCap)).run Try.prog w = .ok (goInt sLen) (w.setRow g (blit (rowOf w g) o (cut (rowOf w gs) os sLen))) :=
  run_copyN w g o dLen dCap gs os sLen sCap sLen (Nat.min_eq_left hn).symm hl h1 h2 h3
@[go_sem] theorem run_copyD (w : World) (g o dLen dCap gs os sLen sCap : Nat) (hn : dLen ≤ sLen) (hl : live w g = true) (h1 : o + dLen ≤ (rowOf w g).size) (h2 : os + dLen ≤ (rowOf w gs).size) (h3 : ones (cut (rowOf w gs) os dLen)) :
    (copyBig (.slice (some ⟨g, o, none⟩) dLen dCap) (.slice (some ⟨gs, os, none⟩) sLen sCap)).run Try.prog w = .ok (goInt dLen) (w.setRow g (blit (rowOf w g) o (cut (rowOf w gs) os dLen))) :=
  run_copyN w g o dLen dCap gs os sLen sCap dLen (Nat.min_eq_right hn).symm hl h1 h2 h3

end Go.Proofs.Ytflnlpbcmcfblaa
