/-
  append of a whole slice to a slice of the call's own.
-/
import Derived.Test.YteldfmgjbgedaaaGreatOi
namespace Go.Proofs.YteldfmgjbgedaaaGreat
open Go.RowKit Go.Maps

set_option maxRecDepth 20000 in
theorem run_append_many {w : World} {t e : TypeId} {z : Value} {size bytes : Nat} (ty : TypeId) (ht : Tryz.prog.underlying t = some (.slice e)) (hti : TI e z size bytes) {v : Value} {xs : List (Array Value)} {base : Nat}
    (h : OwnRows w v size xs base) (hbase : base ≤ w.heap.size) {a : Option Addr} {m c : Nat} {zs : List (Array Value)} {base2 : Nat} (hz : OwnRows w (.slice a m c) size zs base2) (h1 : ∀ y ∈ zs, ones y) (hxs : ∀ y ∈ xs, y.size = size) (hzs : ∀ y ∈ zs, y.size = size)
    (hm : xs.length + zs.length ≤ maxLen) (hfit : (xs.length + zs.length) * bytes ≤ 140737488355328) :
    ∃ v' w', (Builtin.append_ #[t, t] ty #[v, .slice a m c]).run Tryz.prog w = .ok v' w' ∧ OwnRows w' v' size (xs ++ zs) base ∧ Fr (fun i => v.ownBlock = some i) w w' ∧ ∀ i, v'.ownBlock = some i → v.ownBlock = some i ∨ w.heap.size ≤ i := by
  obtain ⟨hi0, hzc, hsz⟩ := hti
  obtain ⟨i, hi, hzv, hsize, hby⟩ := info_parts hi0
  by_cases hz0 : xs.length + zs.length = 0
  · obtain rfl : xs = [] := List.eq_nil_of_length_eq_zero (by omega)
    obtain rfl : zs = [] := List.eq_nil_of_length_eq_zero (by omega)
    rcases h with ⟨rfl, -⟩ | ⟨_, _, _, _, _, ⟨_, h0⟩, _⟩
    · rcases hz with ⟨e, -⟩ | ⟨_, _, _, _, _, ⟨_, h0⟩, _⟩
      · injection e with e1 e2 e3
        subst e1 e2 e3
        exact ⟨_, w, by simp [Builtin.append_, run_underlying ht, sizeOf, typeInfo, hi, Builtin.lenOf, Builtin.firstCells], OwnRows.nil _ _ _, Fr.refl _ _, fun i hi => .inl hi⟩
      · simp at h0
    · simp at h0
  obtain ⟨ys, hown, hys⟩ : ∃ ys, OwnSl w size v xs.length ys ∧ (∀ i (h : i < xs.length), cut ys.toArray (i * size) size = xs[i]) := by
    rcases h with ⟨rfl, rfl⟩ | ⟨g, cap, rfl, b1, b2, ⟨b3, b3p⟩, b4, b5, b6⟩
    · exact ⟨[], ⟨by simp, .inl ⟨rfl, rfl⟩⟩, fun i h => by simp at h⟩
    · have hc := Nat.mul_le_mul_right size b3
      refine ⟨(rowOf w g).toList.take (xs.length * size), ⟨by simp; omega, .inr ⟨g, cap, rfl, b2, b3, b4, b5, rfl⟩⟩, fun i h => ?_⟩
      have hi2 : i * size + size ≤ xs.length * size := by have := Nat.mul_le_mul_right size h; rw [Nat.succ_mul] at this; exact this
      rw [← b6 i h]
      refine cut_ext (cut_size (by omega)) (by simp; omega) (fun q hq => ?_)
      rw [cut_get (by omega) q hq]
      simp only [List.getElem?_toArray, List.getElem?_take]
      rw [if_pos (by omega)]; simp
  have hmz : m = zs.length := by
    rcases hz with ⟨e, rfl⟩ | ⟨g, cap, e, -⟩
    · injection e
    · injection e
  subst hmz
  obtain ⟨news, hnl, hnews, hn1, hnz⟩ : ∃ news : List Value, news.length = zs.length * size ∧ (zs.length = 0 ∨ ∃ ad, a = some ad ∧ ∀ j u, news[j]? = some u → w.cell? (ad.add j) = some u) ∧ (∀ u ∈ news, u.oneCell' = true) ∧ (∀ i (h : i < zs.length), cut news.toArray (i * size) size = zs[i]) := by
    rcases hz with ⟨e, rfl⟩ | ⟨g, cap, e, b1, b2, ⟨b3, b3p⟩, b4, b5, b6⟩
    · exact ⟨[], by simp, .inl rfl, fun u hu => (by cases hu), fun i h => by simp at h⟩
    · injection e with ea _ _
      subst ea
      have hc := Nat.mul_le_mul_right size b3
      have hcut : ∀ i (h : i < zs.length), cut ((rowOf w g).toList.take (zs.length * size)).toArray (i * size) size = zs[i] := fun i h => by
        have hi2 : i * size + size ≤ zs.length * size := by have := Nat.mul_le_mul_right size h; rw [Nat.succ_mul] at this; exact this
        rw [← b6 i h]
        refine cut_ext (cut_size (by omega)) (by simp; omega) (fun q hq => ?_)
        rw [cut_get (by omega) q hq]
        simp only [List.getElem?_toArray, List.getElem?_take]
        rw [if_pos (by omega)]; simp
      refine ⟨(rowOf w g).toList.take (zs.length * size), by simp; omega, .inr ⟨_, rfl, fun j u hu => ?_⟩, fun u hu => ?_, hcut⟩
      · rw [Addr.add_lit, cell?_row, Nat.zero_add]
        rw [List.getElem?_take] at hu
        split at hu
        · simpa using hu
        · cases hu
      · obtain ⟨j, hj, rfl⟩ := List.getElem_of_mem hu
        have hj2 : j < zs.length * size := by simp at hj; omega
        have hd : j / size < zs.length := (Nat.div_lt_iff_lt_mul hsz).2 hj2
        have hmod := Nat.mod_lt j hsz
        have hi2 : j / size * size + size ≤ zs.length * size := by have := Nat.mul_le_mul_right size hd; rw [Nat.succ_mul] at this; exact this
        refine h1 _ (List.getElem_mem hd) _ ?_
        rw [← hcut _ hd]
        have hlen : ((rowOf w g).toList.take (zs.length * size)).toArray.size = zs.length * size := by simp; omega
        have hg2 := cut_get (cur := ((rowOf w g).toList.take (zs.length * size)).toArray) (off := j / size * size) (n := size) (by omega) (j % size) hmod
        have hej : j / size * size + j % size = j := by have := Nat.div_add_mod j size; rw [Nat.mul_comm] at this; exact this
        have hg3 : (cut ((rowOf w g).toList.take (zs.length * size)).toArray (j / size * size) size)[j % size]? = some (((rowOf w g).toList.take (zs.length * size))[j]) := hg2.trans (by rw [hej]; simp only [List.getElem?_toArray]; exact List.getElem?_eq_getElem hj)
        exact Array.mem_of_getElem? hg3
  obtain ⟨v', w', hrun, ⟨hex, hfr⟩⟩ := run_append_row (P := Tryz.prog) w t ty e i z size bytes ht hi hzv hsize hby hzc hsz v xs.length ys hown a zs.length c news hnl hnews hn1 hm
    (fun cap c0 c2 => growslice_fits c2 hfit)
  rcases hex with ⟨h0, e1, -⟩ | ⟨g', cap', rfl, e1, e2, e3, e4, e5, e6⟩
  · exact absurd h0 hz0
  refine ⟨_, w', hrun, ?_, hfr, fun i hi => by injection hi with hi; replace hi : g' = i := hi; rw [← hi]; exact e6⟩
  · refine .inr ⟨g', cap', by simp, ?_, e3, ⟨by simpa using e1, by simp; omega⟩, e2, e4, ?_⟩
    · rcases e6 with e | e
      · exact (h.lt e).1
      · omega
    · intro j hj
      simp only [List.length_append] at hj
      have hsize2 : (xs.length + zs.length) * size ≤ (rowOf w' g').size := by rw [e4]; exact Nat.mul_le_mul_right _ e1
      have hget : ∀ q, q < (xs.length + zs.length) * size → (rowOf w' g')[q]? = (ys ++ news)[q]? := by
        intro q hq
        rw [← e5, List.getElem?_take, if_pos hq]; simp
      have hyl := hown.1
      rw [Nat.add_mul] at hsize2
      by_cases hjl : j < xs.length
      · rw [List.getElem_append_left hjl, ← hys j hjl]
        have hj2 : j * size + size ≤ xs.length * size := by have := Nat.mul_le_mul_right size hjl; rw [Nat.succ_mul] at this; exact this
        refine cut_ext (cut_size (by simp [hyl]; omega)) (by omega) (fun q hq => ?_)
        rw [hget _ (by rw [Nat.add_mul]; omega), cut_get (by simp [hyl]; omega) q hq, List.getElem?_append_left (by omega)]
        simp
      · rw [List.getElem_append_right (by omega), ← hnz (j - xs.length) (by omega)]
        have hj3 : (j - xs.length) * size + size ≤ zs.length * size := by have := Nat.mul_le_mul_right size (show j - xs.length + 1 ≤ zs.length by omega); rw [Nat.succ_mul] at this; exact this
        have hj4 : j * size = xs.length * size + (j - xs.length) * size := by rw [← Nat.add_mul]; congr 1; omega
        refine cut_ext (cut_size (by simp [hnl]; omega)) (by omega) (fun q hq => ?_)
        rw [hget _ (by rw [Nat.add_mul]; omega), cut_get (by simp [hnl]; omega) q hq, List.getElem?_append_right (by omega), hyl]
        simp only [List.getElem?_toArray]
        congr 1
        omega
theorem wpList_append_many {w : World} {ops : Array Oper} {rest : List Oper} {o : Oper} {a : Act} {Q : Exit → Act → World → Prop} (hgd : o.guard = none) (s y : Operand) (t : TypeId)
    (ho : o.op = .call { callee := .builtin .append, args := #[s, y], argTypes := #[t, t] }) (e : TypeId) (z : Value) (size bytes : Nat) (ht : Tryz.prog.underlying t = some (.slice e)) (hti : TI e z size bytes)
    (v : Value) (xs : List (Array Value)) (base : Nat) (hs : a.eval s = v) (h : OwnRows w v size xs base) (hbase : base ≤ w.heap.size) (ya : Option Addr) (m c : Nat) (hy : a.eval y = .slice ya m c) (zs : List (Array Value)) (base2 : Nat) (hz : OwnRows w (.slice ya m c) size zs base2)
    (h1 : ∀ y ∈ zs, ones y) (hxs : ∀ y ∈ xs, y.size = size) (hzs : ∀ y ∈ zs, y.size = size) (hm : xs.length + zs.length ≤ maxLen) (hfit : (xs.length + zs.length) * bytes ≤ 140737488355328)
    (hK : ∀ v' w', OwnRows w' v' size (xs ++ zs) base → Fr (fun i => v.ownBlock = some i) w w' → (∀ i, v'.ownBlock = some i → v.ownBlock = some i ∨ w.heap.size ≤ i) →
      wpList Tryz.prog ops Q rest (a.put o.dst v') w') :
    wpList Tryz.prog ops Q (o :: rest) a w := by
  obtain ⟨v', w', hrun, a1, a2, a3⟩ := run_append_many o.type ht hti h hbase hz h1 hxs hzs hm hfit
  refine wpList_plain hgd fun K hk => ?_
  unfold Oper.wp
  simp [execOp, ho, resolve, invoke, builtin, hs, hy, hrun, Result.andThen]
  exact hk _ _ (hK v' w' a1 a2 a3)
end Go.Proofs.YteldfmgjbgedaaaGreat
