/-
  Laws for operations on wide values and on slices, said of whole rows.
-/
import Derived.Test.YtflnlpbcmcfblaaBase
namespace Go.Proofs.Ytflnlpbcmcfblaa
open Go.RowKit

/-- n cells from place off on. -/
def cut (cur : Array Value) (off n : Nat) : Array Value := cur.extract off (off + n)
/-- The row with cs laid over it from place off on. -/
def blit (cur : Array Value) (off : Nat) (cs : Array Value) : Array Value := (cur.toList.take off ++ cs.toList ++ cur.toList.drop (off + cs.size)).toArray

def ones (cs : Array Value) : Prop := ∀ v ∈ cs, v.oneCell' = true

theorem cut_size {cur : Array Value} {off n : Nat} (h : off + n ≤ cur.size) : (cut cur off n).size = n := by simp [cut]; omega
theorem cut_get {cur : Array Value} {off n : Nat} (h : off + n ≤ cur.size) (i : Nat) (hi : i < n) : (cut cur off n)[i]? = cur[off + i]? := by
  simp [cut, Array.getElem?_extract]; omega
theorem blit_size {cur cs : Array Value} {off : Nat} (h : off + cs.size ≤ cur.size) : (blit cur off cs).size = cur.size := by simp [blit]; omega
theorem blit_in {cur cs : Array Value} {off : Nat} (h : off + cs.size ≤ cur.size) (i : Nat) (hi : i < cs.size) : (blit cur off cs)[off + i]? = cs[i]? := by
  simp only [blit, List.getElem?_toArray]
  rw [List.append_assoc, List.getElem?_append_right (by simp; omega), List.getElem?_append_left (by simp; omega)]
  simp; congr 1; omega
theorem blit_out {cur cs : Array Value} {off : Nat} (h : off + cs.size ≤ cur.size) (i : Nat) (hi : i < off ∨ off + cs.size ≤ i) : (blit cur off cs)[i]? = cur[i]? := by
  simp only [blit, List.getElem?_toArray]
  rcases hi with hi | hi
  · rw [List.append_assoc, List.getElem?_append_left (by simp; omega), List.getElem?_take]; simp [hi]
  · rw [List.getElem?_append_right (by simp; omega), List.getElem?_drop]
    simp; congr 1; omega
theorem blit_all {cur cs : Array Value} (h : cs.size = cur.size) : blit cur 0 cs = cs := by
  apply Array.ext'
  simp [blit, h]

theorem cut_ext {cur : Array Value} {off n : Nat} {l : Array Value} (hs : l.size = n) (h : off + n ≤ cur.size) (hh : ∀ i, i < n → cur[off + i]? = l[i]?) : cut cur off n = l := by
  apply Array.ext_getElem?
  intro i
  by_cases hi : i < n
  · rw [cut_get h i hi, hh i hi]
  · rw [Array.getElem?_eq_none (by rw [cut_size h]; omega), Array.getElem?_eq_none (by omega)]

theorem cut_blit_same {cur cs : Array Value} {off n : Nat} (hn : cs.size = n) (h : off + n ≤ cur.size) : cut (blit cur off cs) off n = cs := by
  subst hn
  exact cut_ext rfl (by rw [blit_size h]; omega) (fun i hi => blit_in h i hi)

theorem cut_blit_other {cur cs : Array Value} {off k n : Nat} (h : off + cs.size ≤ cur.size) (h2 : k + n ≤ cur.size) (hd : k + n ≤ off ∨ off + cs.size ≤ k) : cut (blit cur off cs) k n = cut cur k n := by
  apply cut_ext (cut_size h2) (by rw [blit_size h]; exact h2)
  intro i hi
  rw [blit_out h _ (by omega), cut_get h2 i hi]

section
variable {P : Program} (w : World)

theorem run_loadCells_row (g off n : Nat) (h : off + n ≤ (rowOf w g).size) : (loadCells ⟨g, off, none⟩ n).run P w = .ok (cut (rowOf w g) off n) w := by
  have hl := run_loadCells_list (P := P) w ⟨g, off, none⟩ (cut (rowOf w g) off n).toList (fun j v hv => by
    have hj : j < n := by
      have := List.getElem?_eq_some_iff.1 hv
      obtain ⟨hj, _⟩ := this
      simp [cut_size h] at hj
      exact hj
    rw [Addr.add_lit, cell?_row, ← cut_get h j hj]
    simpa using hv)
  simpa [cut_size h] using hl

theorem run_loadAt_big (t : TypeId) (n : Nat) {d : TypeDesc} (hu : P.underlying t = some d) (hd : (match d with | .struct _ | .array _ _ => true | _ => false) = true)
    (hi : (P.info? t).map (·.size) = some n) (g off : Nat) (h : off + n ≤ (rowOf w g).size) :
    (Instr.loadAt t (.pointer (some ⟨g, off, none⟩))).run P w = .ok (.agg (cut (rowOf w g) off n)) w := by
  cases hq : P.info? t with
  | none => simp [hq] at hi
  | some i =>
    have hs : i.size = n := by simpa [hq] using hi
    have hagg : (isAgg t).run P w = .ok true w := by
      unfold isAgg
      rw [Sem.run_bind, run_underlying hu w]
      cases d <;> simp_all
    simp only [Instr.loadAt, Instr.sureAddr, loadVar, Sem.run_bind, Sem.run_pure, Result.andThen_ok, hagg, if_true, sizeOf, typeInfo]
    simp [hq, hs, run_loadCells_row w g off n h]

theorem run_storeCells_row (g off : Nat) (cs : Array Value) (hl : live w g = true) (h : off + cs.size ≤ (rowOf w g).size) (h1 : ones cs) :
    (storeCells ⟨g, off, none⟩ cs.toList 0).run P w = .ok () (w.setRow g (blit (rowOf w g) off cs)) := by
  obtain ⟨t, hg⟩ := live_obj hl
  have := run_storeCells_at P g off t cs.toList 0 (rowOf w g) w hg (by simpa using h) (fun v hv => h1 v (by simpa using hv))
  simpa [blit] using this

theorem run_storeAt_big (t : TypeId) (g off : Nat) (cs : Array Value) (hi : (P.info? t).map (·.size) = some cs.size)
    (hl : live w g = true) (h : off + cs.size ≤ (rowOf w g).size) (h1 : ones cs) :
    (Instr.storeAt t (.pointer (some ⟨g, off, none⟩)) (.agg cs)).run P w = .ok () (w.setRow g (blit (rowOf w g) off cs)) := by
  cases hq : P.info? t with
  | none => simp [hq] at hi
  | some i =>
    have hs : i.size = cs.size := by simpa [hq] using hi
    simp only [Instr.storeAt, Instr.sureAddr, storeVar, Sem.run_bind, Sem.run_pure, Result.andThen_ok, sizeOf, typeInfo]
    simp [hq, hs, Value.cells, run_storeCells_row w g off cs hl h h1]

/-- A slice's first n * size cells. -/
theorem run_firstCells_row (size n : Nat) (g off len cap : Nat) (h : off + n * size ≤ (rowOf w g).size) :
    (Builtin.firstCells size n (.slice (some ⟨g, off, none⟩) len cap)).run P w = .ok (cut (rowOf w g) off (n * size)) w := by
  simp only [Builtin.firstCells]
  exact run_loadCells_row w g off (n * size) h

/-- What an append of m elements (news) to a slice of n elements (xs, from the head of a row of its own, or nil) leaves. -/
structure Appended (w w' : World) (v' : Value) (size n m : Nat) (xs news : List Value) (v : Value) : Prop where
  ex : (n + m = 0 ∧ v' = v ∧ w' = w) ∨ (∃ g' cap', v' = .slice (some ⟨g', 0, none⟩) (n + m) cap' ∧ n + m ≤ cap' ∧ cap' ≤ maxLen ∧ live w' g' = true ∧ (rowOf w' g').size = cap' * size ∧
    (rowOf w' g').toList.take ((n + m) * size) = xs ++ news ∧ (v.ownBlock = some g' ∨ w.heap.size ≤ g'))
  fr : Fr (fun k => v.ownBlock = some k) w w'

/-- A slice of n elements that lies at the head of a row of its own; or nil. -/
def OwnSl (w : World) (size : Nat) (v : Value) (n : Nat) (xs : List Value) : Prop :=
  xs.length = n * size ∧ ((v = .slice none 0 0 ∧ n = 0) ∨
    ∃ g cap, v = .slice (some ⟨g, 0, none⟩) n cap ∧ live w g = true ∧ n ≤ cap ∧ cap ≤ maxLen ∧ (rowOf w g).size = cap * size ∧ (rowOf w g).toList.take (n * size) = xs)

theorem run_append_row (t ty e : TypeId) (i : TypeInfo) (z : Value) (size bytes : Nat) (ht : P.underlying t = some (.slice e)) (hi : P.info? e = some i) (hz : i.zero = some z)
    (hsize : i.size = size) (hby : i.bytes = bytes) (hzs : z.cells.size = size) (_hsz : 0 < size)
    (v : Value) (n : Nat) (xs : List Value) (hown : OwnSl w size v n xs)
    (a : Option Addr) (m c : Nat) (news : List Value) (hl : news.length = m * size)
    (hnews : m = 0 ∨ ∃ ad, a = some ad ∧ ∀ j u, news[j]? = some u → w.cell? (ad.add j) = some u) (h1 : ∀ u ∈ news, u.oneCell' = true)
    (h63 : n + m ≤ maxLen) (hfit : ∀ cap, n ≤ cap → cap < n + m → Builtin.nextslicecap (n + m) cap * bytes ≤ 281474976710656) :
    ∃ v' w', (Builtin.append_ #[t, t] ty #[v, .slice a m c]).run P w = .ok v' w' ∧ Appended w w' v' size n m xs news v := by
  subst hsize hby
  have hsmall : n + m ≤ 9223372036854775807 := by simp only [maxLen] at h63; omega
  obtain ⟨hxl, hv⟩ := hown
  have hlen : (xs ++ news).length = (n + m) * i.size := by rw [List.length_append, hxl, hl, Nat.add_mul]
  have grown : ∀ (old : Nat), old < n + m → Appended w (w.drew.alloc (.cells (xs.toArray ++ news.toArray ++ Builtin.zeroCells z.cells (grownCap w (n + m) old e - (n + m))) e))
        (.slice (some ⟨w.heap.size, 0, none⟩) (n + m) (grownCap w (n + m) old e)) i.size n m xs news v := by
    intro old ho
    have hge := grownCap_ge w (n + m) old e
    have hcm : grownCap w (n + m) old e ≤ maxLen := grownCap_le_maxLen w (n + m) old e h63
    refine ⟨.inr ⟨w.heap.size, _, rfl, hge, hcm, live_alloc_at _ _ _ _ rfl, ?_, ?_, .inr (Nat.le_refl _)⟩, (Fr.refl _ _).drew.alloc _⟩
    · rw [rowOf_alloc_at _ _ _ _ _ (by rfl)]
      simp only [Array.size_append, List.size_toArray, size_zeroCells, hzs, hxl, hl, ← Nat.add_mul]
      congr 1
      omega
    · rw [rowOf_alloc_at _ _ _ _ _ (by rfl)]
      simp only [Array.toList_append, List.append_assoc]
      rw [← List.append_assoc, ← hlen]
      exact List.take_left
  by_cases hm : m = 0
  · subst hm
    have hn0 : news = [] := List.eq_nil_of_length_eq_zero (by simpa using hl)
    subst hn0
    have hrun : (Builtin.append_ #[t, t] ty #[v, .slice a 0 c]).run P w = .ok v w := by
      have hf : (Builtin.firstCells i.size 0 (.slice a 0 c)).run P w = .ok #[] w := by
        cases a with
        | none => simp [Builtin.firstCells]
        | some ad => simp [Builtin.firstCells, loadCells, loadCellsFrom]
      rcases hv with ⟨rfl, rfl⟩ | ⟨g, cap, rfl, hlv, hnc, hcm, hcs, htake⟩
      · simp [Builtin.append_, run_underlying ht, sizeOf, typeInfo, hi, Builtin.lenOf, hf]
      · simp [Builtin.append_, run_underlying ht, sizeOf, typeInfo, hi, Builtin.lenOf, hnc, hf, storeCells]
    refine ⟨v, w, hrun, ?_, Fr.refl _ _⟩
    rcases hv with ⟨rfl, rfl⟩ | ⟨g, cap, rfl, hlv, hnc, hcm, hcs, htake⟩
    · exact .inl ⟨rfl, rfl, rfl⟩
    · exact .inr ⟨g, cap, rfl, hnc, hcm, hlv, hcs, by simpa using htake, .inl rfl⟩
  · obtain ⟨ad, rfl, hnew⟩ := hnews.resolve_left hm
    rcases hv with ⟨rfl, rfl⟩ | ⟨g, cap, rfl, hlv, hnc, hcm, hcs, htake⟩
    · have hx : xs = [] := List.eq_nil_of_length_eq_zero (by simpa using hxl)
      subst hx
      have hr := run_append_nil (P := P) w t ty e i z ht hi hz ad m c news hl hnew (by omega) (by omega) (by have := hfit 0 (by omega) (by omega); rw [Nat.zero_add, nextslicecap_zero (by omega)] at this; exact this)
      have hgr := grown 0 (by omega)
      simp only [Nat.zero_add, Array.empty_append] at hgr ⊢
      exact ⟨_, _, hr, hgr⟩
    · obtain ⟨t', hg⟩ := live_obj hlv
      by_cases hroom : n + m ≤ cap
      · have hfit2 : n * i.size + news.length ≤ (rowOf w g).size := by rw [hl, hcs, ← Nat.add_mul]; exact Nat.mul_le_mul_right _ hroom
        have hf := run_firstCells_some (P := P) w i.size m ad m c news hl hnew
        have hst := run_storeCells_at P g (n * i.size) t' news 0 (rowOf w g) w hg (by simpa using hfit2) h1
        simp only [Nat.add_zero] at hst
        have hr : (Builtin.append_ #[t, t] ty #[.slice (some ⟨g, 0, none⟩) n cap, .slice (some ad) m c]).run P w =
            .ok (.slice (some ⟨g, 0, none⟩) (n + m) cap) (w.setRow g ((rowOf w g).toList.take (n * i.size) ++ news ++ (rowOf w g).toList.drop (n * i.size + news.length)).toArray) := by
          simp [Builtin.append_, run_underlying ht, sizeOf, typeInfo, hi, Builtin.lenOf, hroom, hf, Addr.add_lit, hst]
        refine ⟨_, _, hr, .inr ⟨g, cap, rfl, hroom, hcm, by rw [live_setRow]; exact hlv, ?_, ?_, .inl rfl⟩, (Fr.refl _ _).setRow _ _ (fun _ => rfl)⟩
        · rw [rowOf_setRow_same w g _ hlv]
          simp only [List.size_toArray, List.length_append, List.length_take, List.length_drop, Array.length_toList]
          omega
        · rw [rowOf_setRow_same w g _ hlv, htake, ← hlen]
          exact List.take_left
      · have hholds : ∀ j u, xs[j]? = some u → w.cell? ((⟨g, 0, none⟩ : Addr).add j) = some u := by
          intro j u hu
          rw [Addr.add_lit, cell?_row, Nat.zero_add]
          rw [← htake, List.getElem?_take] at hu
          split at hu
          · simpa using hu
          · cases hu
        have hr := run_append_grow (P := P) w t ty e i z ht hi hz ⟨g, 0, none⟩ n cap xs hxl hholds ad m c news hl hnew (by omega) (by omega) (hfit cap hnc (by omega))
        exact ⟨_, _, hr, grown cap (by omega)⟩

end

end Go.Proofs.Ytflnlpbcmcfblaa
