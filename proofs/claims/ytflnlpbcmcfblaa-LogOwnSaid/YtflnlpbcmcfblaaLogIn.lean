/-
  Records, and scripts of package keystonelaw03, that came in, opened; what the bound on the whole gives of each.
-/
import Derived.WalkKit
import Derived.ProofKit
import Derived.OpenShut
import Derived.ChangeOld
import Derived.SizedLaws
import Derived.Test.YtflnlpbcmcfblaaLV
namespace Go.Proofs.Ytflnlpbcmcfblaa
open Go.ChangeShapes Go.WideShapes Go.ChangeAt Go.RowKit

theorem bulk_pos {H : Type} (d : DataW H) : 1 ≤ Rows.uptoBulk d := by
  cases d with
  | lit l => cases l <;> simp [Rows.uptoBulk]
  | _ => simp [Rows.uptoBulk]
theorem bulk_len {H : Type} (l : List (DataW H)) : l.length ≤ Rows.uptoBulkAll l := by
  induction l with
  | nil => simp [Rows.uptoBulkAll]
  | cons x r ih => have := bulk_pos x; simp only [Rows.uptoBulkAll, List.length_cons]; omega
theorem bulk_mem {H : Type} {d : DataW H} {l : List (DataW H)} (h : d ∈ l) : Rows.uptoBulk d ≤ Rows.uptoBulkAll l := by
  induction l with
  | nil => cases h
  | cons x r ih =>
    simp only [Rows.uptoBulkAll]
    rcases List.mem_cons.1 h with e | e
    · subst e; omega
    · have := ih e; omega

section
variable {H : Type} {enc : TypeId × Value → H} {w : World} {base : Nat} {held : Bool} {n : Nat} {cs : List Value} {y : DataW H × List MemPlace}

theorem bytes_in (h : DataW.trod enc Try.prog w base (fun _ => true) held n 36 cs = some y) : ∃ a A c, cs = [.slice a A.length c] ∧ BytesAt w (.slice a A.length c) A ∧ A.length ≤ c ∧ A.length ≤ Rows.uptoBulk y.1 := by
  rcases open_ints Try.underlying36 Try.underlying5 (by kernel_rfl) h with ⟨hcs, _⟩ | ⟨x, l, c, zs, hcs, _, hl, hm, hz, hy, hcell, hwz⟩
  · exact ⟨none, [], 0, by simpa using hcs, ⟨_, _, rfl, .inl rfl⟩, Nat.le_refl _, by simp⟩
  · obtain ⟨A, rfl, hA⟩ := bytes_of_row (w := w) (a := some x) (len := l) (cap := c) (zs := zs) (.inr ⟨x, rfl, hl, hm, by simpa using hz, hcell, hwz⟩)
    refine ⟨_, A, c, by simpa using hcs, hA, hl, ?_⟩
    rw [hy]
    have hz2 : zs.length = c := by simpa using hz
    have h1 := bulk_len (lits (H := H) .u8 (zs.take A.length))
    simp only [lits, List.length_map, List.length_take] at h1
    simp only [Rows.uptoBulk]
    have : min A.length zs.length = A.length := by omega
    rw [this] at h1
    have e : Rows.uptoBulkAll (lits (H := H) .u8 (zs.take A.length)) = Rows.uptoBulkAll (List.map (fun n => DataW.lit (Lit.int IntKind.u8 n)) (List.take A.length zs)) := rfl
    omega

theorem records_in (h : DataW.trod enc Try.prog w base (fun _ => true) held n 29 cs = some y) : ∃ v A, cs = [v] ∧ BytesList w v A (Rows.uptoBulk y.1) ∧ A.length ≤ Rows.uptoBulk y.1 := by
  rcases DataW.trod_slice Try.underlying29 h with ⟨hcs, _⟩ | ⟨a, len, cap, elems, rest, m, rfl, hcs, hy, hb, hl, hm, hlen, hel, hsp, -⟩
  · exact ⟨_, [], hcs, ⟨none, 0, rfl, .inl rfl⟩, by simp⟩
  · have cells36 : Try.prog.cellsOf 36 = 1 := by kernel_rfl
    rw [cells36] at hel
    have hyb : Rows.uptoBulkAll (elems.map (·.1)) ≤ Rows.uptoBulk y.1 := by
      rw [hy]; simp only [Rows.uptoBulk]; omega
    have each : ∀ i (hi : i < len), ∃ (b : List UInt8) (q : Option Addr × Nat), w.cell? (a.add i) = some (.slice q.1 b.length q.2) ∧ BytesAt w (.slice q.1 b.length q.2) b ∧ b.length ≤ q.2 ∧ b.length ≤ Rows.uptoBulk y.1 := by
      intro i hi
      have hh := hel i hi
      rw [List.getElem?_eq_getElem (by omega), Option.bind_eq_some_iff] at hh
      obtain ⟨c1, h4, ht⟩ := hh
      obtain ⟨ab, b, cb, rfl, h5, h6, h7⟩ := bytes_in ht
      have h8 := (World.cells?_some h4).2.2 0 (by omega)
      have h9 := bulk_mem (List.mem_map.2 ⟨elems[i]'(by omega), List.getElem_mem _, rfl⟩ : (elems[i]'(by omega)).1 ∈ elems.map (·.1))
      refine ⟨b, (ab, cb), ?_, h5, h6, by omega⟩
      simpa [Addr.add] using h8
    have hc := Classical.skolem.1 (fun (i : {i // i < len}) => each i.1 i.2)
    obtain ⟨f, hf⟩ := hc
    have hlen2 := bulk_len (elems.map (·.1))
    rw [List.length_map] at hlen2
    refine ⟨_, List.ofFn (fun i : Fin len => f ⟨i.1, i.2⟩), hcs, ⟨some a, cap, by simp, ?_⟩, by simp; omega⟩
    by_cases h0 : len = 0
    · left; subst h0; simp
    · right
      have hs : a.spot = none := by
        obtain ⟨q, h1, -⟩ := hf ⟨0, by omega⟩
        have h1 := (cell_row h1).1
        simpa [Addr.add] using h1
      refine ⟨a.block, a.off, by rw [← addr_plain hs], fun i hi => ?_⟩
      simp only [List.length_ofFn] at hi
      obtain ⟨q, h1, h2, h3, h4⟩ := hf ⟨i, hi⟩
      refine ⟨q.1, q.2, ?_, by simpa using h2, by simpa using h3, by simpa using h4⟩
      rw [addr_plain hs, Addr.add_lit] at h1
      simpa using (cell_row h1).2
end

/-- A script of package keystonelaw03. -/
structure LOp where
  d : Int
  n : Int
  data : List UInt8
  keep : List Int

def LOpAt (w : World) (cs : Array Value) (o : LOp) (B : Nat) : Prop :=
  ∃ a c ak ck, cs = #[.int .i64 o.d, .int .i64 o.n, .slice a o.data.length c, .slice ak o.keep.length ck] ∧ BytesAt w (.slice a o.data.length c) o.data ∧ o.data.length ≤ c ∧ o.data.length ≤ B ∧ IntsAt w (.slice ak o.keep.length ck) o.keep ∧ -9223372036854775808 ≤ o.n ∧ o.n ≤ 9223372036854775807

def LOpsAt (w : World) (v : Value) (l : List LOp) (B : Nat) : Prop :=
  ∃ a cap, v = .slice a l.length cap ∧ (l = [] ∨ ∃ g off, a = some ⟨g, off, none⟩ ∧ ∀ i (h : i < l.length), off + i * 4 + 4 ≤ (rowOf w g).size ∧ LOpAt w (cut (rowOf w g) (off + i * 4) 4) l[i] B)

theorem BytesList.mono {w : World} {v : Value} {A : List (List UInt8)} {B B' : Nat} (h : BytesList w v A B) (hb : B ≤ B') : BytesList w v A B' := by
  obtain ⟨a, c, e, h | ⟨g, off, e2, h⟩⟩ := h
  · exact ⟨a, c, e, .inl h⟩
  · refine ⟨a, c, e, .inr ⟨g, off, e2, fun i hi => ?_⟩⟩
    obtain ⟨ai, ci, h1, h2, h3, h4⟩ := h i hi
    exact ⟨ai, ci, h1, h2, h3, Nat.le_trans h4 hb⟩
theorem LOpsAt.mono {w : World} {v : Value} {l : List LOp} {B B' : Nat} (h : LOpsAt w v l B) (hb : B ≤ B') : LOpsAt w v l B' := by
  obtain ⟨a, c, e, h | ⟨g, off, e2, h⟩⟩ := h
  · exact ⟨a, c, e, .inl h⟩
  · refine ⟨a, c, e, .inr ⟨g, off, e2, fun i hi => ?_⟩⟩
    obtain ⟨h1, a1, a2, a3, a4, e3, h2, h3, h4, h5⟩ := h i hi
    exact ⟨h1, a1, a2, a3, a4, e3, h2, h3, Nat.le_trans h4 hb, h5⟩

section
variable {H : Type} {enc : TypeId × Value → H} {w : World} {base : Nat} {held : Bool} {n : Nat} {cs : List Value} {y : DataW H × List MemPlace}

theorem lints_in (h : DataW.trod enc Try.prog w base (fun _ => true) held n 23 cs = some y) : ∃ a A c, cs = [.slice a A.length c] ∧ IntsAt w (.slice a A.length c) A := by
  rcases open_ints Try.underlying23 Try.underlying3 (by kernel_rfl) h with ⟨hcs, _⟩ | ⟨x, l, c, zs, hcs, _, hl, hm, hz, _, hcell, hwz⟩
  · exact ⟨none, [], 0, by simpa using hcs, _, _, rfl, by simp, .inl rfl⟩
  · obtain ⟨A, rfl, hA⟩ := ints_of_row (w := w) (a := some x) (len := l) (cap := c) (zs := zs) (.inr ⟨x, rfl, hl, hm, by simpa using hz, hcell, hwz⟩)
    exact ⟨_, A, c, by simpa using hcs, hA⟩

theorem lwf {n : Int} (h : (Lit.int .i64 n).wf = true) : -9223372036854775808 ≤ n ∧ n ≤ 9223372036854775807 := by
  simpa [Lit.wf, IntKind.min, IntKind.max, IntKind.bits, IntKind.signed] using h

theorem lop_in (h : DataW.trod enc Try.prog w base (fun _ => true) held n 102 cs = some y) : ∃ o : LOp, LOpAt w cs.toArray o (Rows.uptoBulk y.1) := by
  have cells102 : Try.prog.cellsOf 102 = 4 := by kernel_rfl
  have cells3 : Try.prog.cellsOf 3 = 1 := by kernel_rfl
  have cells36 : Try.prog.cellsOf 36 = 1 := by kernel_rfl
  have cells23 : Try.prog.cellsOf 23 = 1 := by kernel_rfl
  obtain ⟨xs, m, rfl, rfl, hl, hx, hf⟩ := DataW.trod_struct Try.underlying102 h
  rw [cells102] at hl
  obtain ⟨c0, c1, c2, c3, rfl⟩ : ∃ c0 c1 c2 c3, cs = [c0, c1, c2, c3] := by
    rcases cs with _ | ⟨c0, _ | ⟨c1, _ | ⟨c2, _ | ⟨c3, _ | ⟨c4, t⟩⟩⟩⟩⟩
    case cons.cons.cons.cons.nil => exact ⟨c0, c1, c2, c3, rfl⟩
    all_goals (simp only [List.length_cons, List.length_nil] at hl; omega)
  have hx4 : xs.length = 4 := hx
  have f0 : DataW.trod enc Try.prog w base (fun _ => true) held m 3 (([c0, c1, c2, c3].drop 0).take (Try.prog.cellsOf 3)) = xs[0]? := hf 0 _ rfl
  have f1 : DataW.trod enc Try.prog w base (fun _ => true) held m 3 (([c0, c1, c2, c3].drop 1).take (Try.prog.cellsOf 3)) = xs[1]? := hf 1 _ rfl
  have f2 : DataW.trod enc Try.prog w base (fun _ => true) held m 36 (([c0, c1, c2, c3].drop 2).take (Try.prog.cellsOf 36)) = xs[2]? := hf 2 _ rfl
  have f3 : DataW.trod enc Try.prog w base (fun _ => true) held m 23 (([c0, c1, c2, c3].drop 3).take (Try.prog.cellsOf 23)) = xs[3]? := hf 3 _ rfl
  rw [cells3] at f0 f1
  rw [cells36] at f2
  rw [cells23] at f3
  rw [List.getElem?_eq_getElem (by omega)] at f0 f1 f2 f3
  obtain ⟨n0, e0, -, -⟩ := DataW.trod_int Try.underlying3 f0
  obtain ⟨n1, e1, -, hw1⟩ := DataW.trod_int Try.underlying3 f1
  obtain ⟨ad, A, cd, e2, hA, hA2, hA3⟩ := bytes_in f2
  obtain ⟨ak, K, ck, e3, hK⟩ := lints_in f3
  have hb := bulk_mem (List.mem_map.2 ⟨xs[2], List.getElem_mem _, rfl⟩ : xs[2].1 ∈ xs.map (·.1))
  have hb2 : Rows.uptoBulkAll (xs.map (·.1)) ≤ Rows.uptoBulk (DataW.agg (xs.map (·.1))) := by simp only [Rows.uptoBulk]; omega
  simp only [List.drop_zero, List.drop_succ_cons, List.take_succ_cons, List.take_zero, List.cons.injEq, and_true] at e0 e1 e2 e3
  subst e0 e1 e2 e3
  obtain ⟨w1, w2⟩ := lwf hw1
  exact ⟨⟨n0, n1, A, K⟩, ad, cd, ak, ck, rfl, hA, hA2, Nat.le_trans hA3 (Nat.le_trans hb hb2), hK, w1, w2⟩

theorem lops_in (h : DataW.trod enc Try.prog w base (fun _ => true) held n 94 cs = some y) : ∃ v l, cs = [v] ∧ LOpsAt w v l (Rows.uptoBulk y.1) ∧ l.length ≤ Rows.uptoBulk y.1 := by
  rcases DataW.trod_slice Try.underlying94 h with ⟨hcs, _⟩ | ⟨a, len, cap, elems, rest, m, rfl, hcs, hy, hb, hl, hm, hlen, hel, hsp, -⟩
  · exact ⟨_, [], hcs, ⟨none, 0, rfl, .inl rfl⟩, by simp⟩
  · have cells102 : Try.prog.cellsOf 102 = 4 := by kernel_rfl
    rw [cells102] at hel
    have hyb : Rows.uptoBulkAll (elems.map (·.1)) ≤ Rows.uptoBulk y.1 := by
      rw [hy]; simp only [Rows.uptoBulk]; omega
    have each : ∀ i (hi : i < len), ∃ (o : LOp) (c4 : Array Value), c4.size = 4 ∧ (∀ j, j < 4 → w.cell? ((a.add (i * 4)).add j) = c4[j]?) ∧ LOpAt w c4 o (Rows.uptoBulk y.1) := by
      intro i hi
      have hh := hel i hi
      rw [List.getElem?_eq_getElem (by omega), Option.bind_eq_some_iff] at hh
      obtain ⟨c4, h4, ht⟩ := hh
      obtain ⟨o, a1, a2, a3, a4, e, b1, b2, b3, b4⟩ := lop_in ht
      have h9 := bulk_mem (List.mem_map.2 ⟨elems[i]'(by omega), List.getElem_mem _, rfl⟩ : (elems[i]'(by omega)).1 ∈ elems.map (·.1))
      refine ⟨o, c4.toArray, by rw [e]; rfl, fun j hj => ?_, a1, a2, a3, a4, e, b1, b2, by omega, b4⟩
      have := (World.cells?_some h4).2.2 j hj
      simpa using this
    have hc := Classical.skolem.1 (fun (i : {i // i < len}) => each i.1 i.2)
    obtain ⟨f, hf⟩ := hc
    have hlen2 := bulk_len (elems.map (·.1))
    rw [List.length_map] at hlen2
    refine ⟨_, List.ofFn (fun i : Fin len => f ⟨i.1, i.2⟩), hcs, ⟨some a, cap, by simp, ?_⟩, by simp; omega⟩
    by_cases h0 : len = 0
    · left; subst h0; simp
    · right
      have hs : a.spot = none := by
        obtain ⟨c4, hs4, h1, -⟩ := hf ⟨0, by omega⟩
        have h2 := h1 0 (by omega)
        rw [Array.getElem?_eq_getElem (by omega)] at h2
        have h1 := (cell_row h2).1
        simpa [Addr.add] using h1
      refine ⟨a.block, a.off, by rw [← addr_plain hs], fun i hi => ?_⟩
      simp only [List.length_ofFn] at hi
      obtain ⟨c4, hs4, h1, h2⟩ := hf ⟨i, hi⟩
      have hcell : ∀ j, j < 4 → (rowOf w a.block)[a.off + i * 4 + j]? = c4[j]? := by
        intro j hj
        have h3 := h1 j hj
        rw [addr_plain hs, Addr.add_lit, Addr.add_lit] at h3
        obtain ⟨u, hu⟩ : ∃ u, c4[j]? = some u := ⟨_, Array.getElem?_eq_getElem (by omega)⟩
        rw [hu] at h3 ⊢
        exact (cell_row h3).2
      have hsz3 : a.off + i * 4 + 4 ≤ (rowOf w a.block).size := by
        have h3 := hcell 3 (by omega)
        obtain ⟨u, hu⟩ : ∃ u, c4[3]? = some u := ⟨_, Array.getElem?_eq_getElem (by omega)⟩
        rw [hu] at h3
        have := (Array.getElem?_eq_some_iff.1 h3).1
        omega
      refine ⟨hsz3, ?_⟩
      rw [cut_ext hs4 hsz3 hcell]
      simpa using h2
end

end Go.Proofs.Ytflnlpbcmcfblaa
