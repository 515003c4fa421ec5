/-
  A script that came in, opened.
-/
import Derived.WalkKit
import Derived.ProofKit
import Derived.OpenShut
import Derived.ChangeOld
import Derived.SizedLaws
import Derived.Test.YtflnlpbcmcfblaaOps
namespace Go.Proofs.Ytflnlpbcmcfblaa
open Go.ChangeShapes Go.WideShapes Go.ChangeAt Go.RowKit

section
variable {H : Type} {enc : TypeId × Value → H} {w : World} {base : Nat} {held : Bool} {n : Nat} {cs : List Value} {y : DataW H × List MemPlace}

theorem field_bytes (h : DataW.trod enc Try.prog w base (fun _ => true) held n 36 cs = some y) : ∃ v A, cs = [v] ∧ BytesAt w v A := by
  rcases open_ints Try.underlying36 Try.underlying5 (by kernel_rfl) h with ⟨hcs, _⟩ | ⟨x, l, c, zs, hcs, _, hl, hm, hz, _, hcell, hwz⟩
  · exact ⟨_, [], hcs, _, _, rfl, .inl rfl⟩
  · obtain ⟨A, rfl, hA⟩ := bytes_of_row (w := w) (a := some x) (len := l) (cap := c) (zs := zs) (.inr ⟨x, rfl, hl, hm, by simpa using hz, hcell, hwz⟩)
    exact ⟨_, A, hcs, hA⟩

theorem field_ints (h : DataW.trod enc Try.prog w base (fun _ => true) held n 23 cs = some y) : ∃ v A, cs = [v] ∧ IntsAt w v A := by
  rcases open_ints Try.underlying23 Try.underlying3 (by kernel_rfl) h with ⟨hcs, _⟩ | ⟨x, l, c, zs, hcs, _, hl, hm, hz, _, hcell, hwz⟩
  · exact ⟨_, [], hcs, _, _, rfl, by simp, .inl rfl⟩
  · obtain ⟨A, rfl, hA⟩ := ints_of_row (w := w) (a := some x) (len := l) (cap := c) (zs := zs) (.inr ⟨x, rfl, hl, hm, by simpa using hz, hcell, hwz⟩)
    exact ⟨_, A, hcs, hA⟩

theorem cells55 : Try.prog.cellsOf 55 = 4 := by kernel_rfl
theorem cells3 : Try.prog.cellsOf 3 = 1 := by kernel_rfl
theorem cells36 : Try.prog.cellsOf 36 = 1 := by kernel_rfl
theorem cells23 : Try.prog.cellsOf 23 = 1 := by kernel_rfl

theorem open_op (h : DataW.trod enc Try.prog w base (fun _ => true) held n 55 cs = some y) : ∃ (o : OpV) (vd vk : Value), cs = [.int .i64 o.d, .int .i64 o.n, vd, vk] ∧ BytesAt w vd o.data ∧ IntsAt w vk o.keep := by
  obtain ⟨xs, m, rfl, rfl, hl, hx, hf⟩ := DataW.trod_struct Try.underlying55 h
  rw [cells55] at hl
  obtain ⟨c0, c1, c2, c3, rfl⟩ : ∃ c0 c1 c2 c3, cs = [c0, c1, c2, c3] := by
    rcases cs with _ | ⟨c0, _ | ⟨c1, _ | ⟨c2, _ | ⟨c3, _ | ⟨c4, t⟩⟩⟩⟩⟩
    case cons.cons.cons.cons.nil => exact ⟨c0, c1, c2, c3, rfl⟩
    all_goals (simp only [List.length_cons, List.length_nil] at hl; omega)
  have hx4 : xs.length = 4 := hx
  have f0 : DataW.trod enc Try.prog w base (fun _ => true) held m 3 (([c0, c1, c2, c3].drop 0).take (Try.prog.cellsOf 3)) = xs[0]? := hf 0 _ rfl
  have f1 : DataW.trod enc Try.prog w base (fun _ => true) held m 3 (([c0, c1, c2, c3].drop 1).take (Try.prog.cellsOf 3)) = xs[1]? := hf 1 _ rfl
  have f2 : DataW.trod enc Try.prog w base (fun _ => true) held m 36 (([c0, c1, c2, c3].drop 2).take (Try.prog.cellsOf 36)) = xs[2]? := hf 2 _ rfl
  have f3 : DataW.trod enc Try.prog w base (fun _ => true) held m 23 (([c0, c1, c2, c3].drop 3).take (Try.prog.cellsOf 23)) = xs[3]? := hf 3 _ rfl
  rw [cells3] at f0 f1
  rw [cells36] at f2
  rw [cells23] at f3
  rw [List.getElem?_eq_getElem (by omega)] at f0 f1 f2 f3
  obtain ⟨n0, e0, -, -⟩ := DataW.trod_int Try.underlying3 f0
  obtain ⟨n1, e1, -, -⟩ := DataW.trod_int Try.underlying3 f1
  obtain ⟨vd, A, e2, hA⟩ := field_bytes f2
  obtain ⟨vk, K, e3, hK⟩ := field_ints f3
  simp only [List.drop_zero, List.drop_succ_cons, List.take_succ_cons, List.take_zero, List.cons.injEq, and_true] at e0 e1 e2 e3
  subst e0 e1 e2 e3
  exact ⟨⟨n0, n1, A, K⟩, _, _, rfl, hA, hK⟩

theorem open_ops (h : DataW.trod enc Try.prog w base (fun _ => true) held n 22 cs = some y) (hsz : ∀ elems spare, y.1 = .slice elems spare → (elems.length + spare.length) * 64 ≤ 140737488351232) : ∃ v l, cs = [v] ∧ OpsAt w v l := by
  rcases DataW.trod_slice Try.underlying22 h with ⟨hcs, _⟩ | ⟨a, len, cap, elems, rest, m, rfl, hcs, hy, hb, hl, hm, hlen, hel, hsp, -⟩
  · exact ⟨_, [], hcs, none, 0, rfl, by simp, .inl rfl⟩
  · have hb2 := hsz _ _ (by rw [hy])
    obtain ⟨hr, -⟩ := hsp rfl
    simp only [List.length_map] at hb2
    have hl2 : len ≤ 2199023255552 := by omega
    rw [cells55] at hel
    have each : ∀ i (hi : i < len), ∃ (o : OpV) (vd vk : Value), (∀ j, j < 4 → w.cell? ((a.add (i * 4)).add j) = [.int .i64 o.d, .int .i64 o.n, vd, vk][j]?) ∧ BytesAt w vd o.data ∧ IntsAt w vk o.keep := by
      intro i hi
      have hh := hel i hi
      rw [List.getElem?_eq_getElem (by omega), Option.bind_eq_some_iff] at hh
      obtain ⟨cs4, h4, ht⟩ := hh
      obtain ⟨o, vd, vk, rfl, hA, hK⟩ := open_op ht
      exact ⟨o, vd, vk, (World.cells?_some h4).2.2, hA, hK⟩
    have hc := Classical.skolem.1 (fun (i : {i // i < len}) => each i.1 i.2)
    obtain ⟨f, hf⟩ := hc
    refine ⟨_, List.ofFn (fun i : Fin len => f ⟨i.1, i.2⟩), hcs, some a, cap, by simp, by simpa using hl2, ?_⟩
    by_cases h0 : len = 0
    · left; subst h0; simp
    · right
      have hs : a.spot = none := by
        obtain ⟨vd, vk, h1, -⟩ := hf ⟨0, by omega⟩
        have h1 := (cell_row (h1 0 (by omega))).1
        simpa [Addr.add] using h1
      refine ⟨a.block, a.off, by rw [← addr_plain hs], fun i hi => ?_⟩
      simp only [List.length_ofFn] at hi
      obtain ⟨vd, vk, h1, hA, hK⟩ := hf ⟨i, hi⟩
      have hcell : ∀ j, j < 4 → (rowOf w a.block)[a.off + i * 4 + j]? = (opC (f ⟨i, hi⟩) vd vk)[j]? := by
        intro j hj
        have h2 := h1 j hj
        rw [addr_plain hs, Addr.add_lit, Addr.add_lit] at h2
        have e : [Value.int .i64 (f ⟨i, hi⟩).d, .int .i64 (f ⟨i, hi⟩).n, vd, vk][j]? = (opC (f ⟨i, hi⟩) vd vk)[j]? := by simp [opC]
        rw [← e]
        rw [e] at h2 ⊢
        obtain ⟨u, hu⟩ : ∃ u, (opC (f ⟨i, hi⟩) vd vk)[j]? = some u := ⟨_, Array.getElem?_eq_getElem (by simp [opC]; omega)⟩
        rw [hu] at h2 ⊢
        exact (cell_row h2).2
      have hsz3 : a.off + i * 4 + 4 ≤ (rowOf w a.block).size := by
        have h3 := hcell 3 (by omega)
        have h4 : (opC (f ⟨i, hi⟩) vd vk)[3]? = some vk := rfl
        rw [h4] at h3
        have := (Array.getElem?_eq_some_iff.1 h3).1
        omega
      refine ⟨vd, vk, hsz3, ?_, by simpa using hA, by simpa using hK⟩
      simp only [List.getElem_ofFn]
      exact cut_ext rfl hsz3 hcell
end

end Go.Proofs.Ytflnlpbcmcfblaa
