/-
  TopSsi returns true for all caps and every script of bulk at most 1048576: the transactions that are committed answer as in one order, and nothing is left behind.
  What came in, opened: a script, the caps.
-/
import Derived.Test.YteldfmgjbgedaaaGreatRows
import Derived.WalkKit
import Derived.ProofKit
import Derived.OpenShut
import Derived.ChangeOld
import Derived.SizedLaws
import Derived.Test.YteldfmgjbgedaaaGreatTr
import Derived.JoinedCond
import Derived.Below
namespace Go.Proofs.YteldfmgjbgedaaaGreat
open Go.ChangeShapes Go.WideShapes Go.ChangeAt Go.RowKit

theorem cell_row {w : World} {x : Addr} {v : Value} (h : w.cell? x = some v) : x.spot = none ∧ (rowOf w x.block)[x.off]? = some v := by
  unfold World.cell? at h
  unfold rowOf
  split at h
  · rename_i c t fr hh
    rw [hh]
    split at h
    · cases h
    · rename_i hs
      exact ⟨by simpa using hs, h⟩
  · cases h
theorem addr_plain {x : Addr} (h : x.spot = none) : x = ⟨x.block, x.off, none⟩ := by cases x; simp at h; simp [h]

theorem bulk_pos {H : Type} (d : DataW H) : 1 ≤ Rows.uptoBulk d := by
  cases d with
  | lit l => cases l <;> simp [Rows.uptoBulk]
  | _ => simp [Rows.uptoBulk]
theorem bulk_len {H : Type} (m : Nat) (l : List (DataW H)) (h : ∀ d ∈ l, m ≤ Rows.uptoBulk d) : m * l.length ≤ Rows.uptoBulkAll l := by
  induction l with
  | nil => simp [Rows.uptoBulkAll]
  | cons x r ih =>
    have h1 := h x (List.mem_cons_self ..)
    have h2 := ih (fun d hd => h d (List.mem_cons_of_mem _ hd))
    simp only [Rows.uptoBulkAll, List.length_cons, Nat.mul_add]; omega
theorem bulk_mem {H : Type} {d : DataW H} {l : List (DataW H)} (h : d ∈ l) : Rows.uptoBulk d ≤ Rows.uptoBulkAll l := by
  induction l with
  | nil => cases h
  | cons x r ih =>
    simp only [Rows.uptoBulkAll]
    rcases List.mem_cons.1 h with e | e
    · subst e; omega
    · have := ih e; omega

section
variable {H : Type} {enc : TypeId × Value → H} {w : World} {base : Nat} {held : Bool} {n : Nat} {cs : List Value} {y : DataW H × List MemPlace}

theorem four_of {α : Type} {cs : List α} (hl : cs.length = 4) : ∃ c0 c1 c2 c3, cs = [c0, c1, c2, c3] := by
  rcases cs with _ | ⟨c0, _ | ⟨c1, _ | ⟨c2, _ | ⟨c3, _ | ⟨c4, t⟩⟩⟩⟩⟩
  case cons.cons.cons.cons.nil => exact ⟨c0, c1, c2, c3, rfl⟩
  all_goals (simp only [List.length_cons, List.length_nil] at hl; omega)

theorem caps_in (h : DataW.trod enc Tryz.prog w base (fun _ => true) held n 23 cs = some y) : ∃ ca ck cr cl : Int, cs = [.int .i64 ca, .int .i64 ck, .int .i64 cr, .int .i64 cl] := by
  have cells23 : Tryz.prog.cellsOf 23 = 4 := by kernel_rfl
  have cells3 : Tryz.prog.cellsOf 3 = 1 := by kernel_rfl
  obtain ⟨xs, m, rfl, rfl, hl, hx, hf⟩ := DataW.trod_struct Tryz.underlying23 h
  rw [cells23] at hl
  obtain ⟨c0, c1, c2, c3, rfl⟩ := four_of hl
  have hx4 : xs.length = 4 := hx
  have f0 : DataW.trod enc Tryz.prog w base (fun _ => true) held m 3 (([c0, c1, c2, c3].drop 0).take (Tryz.prog.cellsOf 3)) = xs[0]? := hf 0 _ rfl
  have f1 : DataW.trod enc Tryz.prog w base (fun _ => true) held m 3 (([c0, c1, c2, c3].drop 1).take (Tryz.prog.cellsOf 3)) = xs[1]? := hf 1 _ rfl
  have f2 : DataW.trod enc Tryz.prog w base (fun _ => true) held m 3 (([c0, c1, c2, c3].drop 2).take (Tryz.prog.cellsOf 3)) = xs[2]? := hf 2 _ rfl
  have f3 : DataW.trod enc Tryz.prog w base (fun _ => true) held m 3 (([c0, c1, c2, c3].drop 3).take (Tryz.prog.cellsOf 3)) = xs[3]? := hf 3 _ rfl
  rw [cells3] at f0 f1 f2 f3
  rw [List.getElem?_eq_getElem (by omega)] at f0 f1 f2 f3
  obtain ⟨n0, e0, -, -⟩ := DataW.trod_int Tryz.underlying3 f0
  obtain ⟨n1, e1, -, -⟩ := DataW.trod_int Tryz.underlying3 f1
  obtain ⟨n2, e2, -, -⟩ := DataW.trod_int Tryz.underlying3 f2
  obtain ⟨n3, e3, -, -⟩ := DataW.trod_int Tryz.underlying3 f3
  simp only [List.drop_zero, List.drop_succ_cons, List.take_succ_cons, List.take_zero, List.cons.injEq, and_true] at e0 e1 e2 e3
  subst e0 e1 e2 e3
  exact ⟨_, _, _, _, rfl⟩

theorem act_in (h : DataW.trod enc Tryz.prog w base (fun _ => true) held n 37 cs = some y) : ∃ s : SAct, cs.toArray = actC s.k s.i s.x s.y ∧ s.x.length + 5 ≤ Rows.uptoBulk y.1 := by
  have cells37 : Tryz.prog.cellsOf 37 = 4 := by kernel_rfl
  have cells3 : Tryz.prog.cellsOf 3 = 1 := by kernel_rfl
  have cells9 : Tryz.prog.cellsOf 9 = 1 := by kernel_rfl
  obtain ⟨xs, m, rfl, rfl, hl, hx, hf⟩ := DataW.trod_struct Tryz.underlying37 h
  rw [cells37] at hl
  obtain ⟨c0, c1, c2, c3, rfl⟩ := four_of hl
  have hx4 : xs.length = 4 := hx
  obtain ⟨x0, x1, x2, x3, rfl⟩ := four_of hx4
  have f0 : DataW.trod enc Tryz.prog w base (fun _ => true) held m 3 (([c0, c1, c2, c3].drop 0).take (Tryz.prog.cellsOf 3)) = some x0 := hf 0 _ rfl
  have f1 : DataW.trod enc Tryz.prog w base (fun _ => true) held m 3 (([c0, c1, c2, c3].drop 1).take (Tryz.prog.cellsOf 3)) = some x1 := hf 1 _ rfl
  have f2 : DataW.trod enc Tryz.prog w base (fun _ => true) held m 9 (([c0, c1, c2, c3].drop 2).take (Tryz.prog.cellsOf 9)) = some x2 := hf 2 _ rfl
  have f3 : DataW.trod enc Tryz.prog w base (fun _ => true) held m 9 (([c0, c1, c2, c3].drop 3).take (Tryz.prog.cellsOf 9)) = some x3 := hf 3 _ rfl
  rw [cells3] at f0 f1
  rw [cells9] at f2 f3
  obtain ⟨n0, e0, -, -⟩ := DataW.trod_int Tryz.underlying3 f0
  obtain ⟨n1, e1, -, -⟩ := DataW.trod_int Tryz.underlying3 f1
  obtain ⟨s2, e2, rfl, -⟩ := DataW.trod_string Tryz.underlying9 f2
  obtain ⟨s3, e3, rfl, -⟩ := DataW.trod_string Tryz.underlying9 f3
  simp only [List.drop_zero, List.drop_succ_cons, List.take_succ_cons, List.take_zero, List.cons.injEq, and_true] at e0 e1 e2 e3
  subst e0 e1 e2 e3
  refine ⟨⟨n0, n1, s2.data.toList, s3.data.toList⟩, by simp [actC], ?_⟩
  have p0 := bulk_pos x0.1
  have p1 := bulk_pos x1.1
  simp only [List.map_cons, List.map_nil, Rows.uptoBulk, Rows.uptoBulkAll]
  omega

theorem acts_in (h : DataW.trod enc Tryz.prog w base (fun _ => true) held n 24 cs = some y) : ∃ v l, cs = [v] ∧ ActsAt w v l ∧ 5 * l.length ≤ Rows.uptoBulk y.1 ∧ ∀ s ∈ l, s.x.length ≤ Rows.uptoBulk y.1 := by
  rcases DataW.trod_slice Tryz.underlying24 h with ⟨hcs, _⟩ | ⟨a, len, cap, elems, rest, m, rfl, hcs, hy, hb, hl, hm, hlen, hel, hsp, -⟩
  · exact ⟨_, [], hcs, ⟨none, 0, rfl, .inl rfl⟩, by simp, fun s hs => by cases hs⟩
  · have cells37 : Tryz.prog.cellsOf 37 = 4 := by kernel_rfl
    rw [cells37] at hel
    have hyb : Rows.uptoBulkAll (elems.map (·.1)) ≤ Rows.uptoBulk y.1 := by
      rw [hy]; simp only [Rows.uptoBulk]; omega
    have each : ∀ i (hi : i < len), ∃ (s : SAct) (c4 : Array Value), c4.size = 4 ∧ (∀ j, j < 4 → w.cell? ((a.add (i * 4)).add j) = c4[j]?) ∧ c4 = actC s.k s.i s.x s.y ∧ s.x.length + 5 ≤ Rows.uptoBulk (elems[i]'(by omega)).1 := by
      intro i hi
      have hh := hel i hi
      rw [List.getElem?_eq_getElem (by omega), Option.bind_eq_some_iff] at hh
      obtain ⟨c4, h4, ht⟩ := hh
      obtain ⟨s, e, b1⟩ := act_in ht
      refine ⟨s, c4.toArray, by rw [e]; rfl, fun j hj => ?_, e, b1⟩
      have := (World.cells?_some h4).2.2 j hj
      simpa using this
    have hc := Classical.skolem.1 (fun (i : {i // i < len}) => each i.1 i.2)
    obtain ⟨f, hf⟩ := hc
    have h5 : ∀ d ∈ elems.map (·.1), 5 ≤ Rows.uptoBulk d := by
      intro d hd
      obtain ⟨e, he, rfl⟩ := List.mem_map.1 hd
      obtain ⟨i, hi, rfl⟩ := List.mem_iff_getElem.1 he
      obtain ⟨c4, -, -, -, h1⟩ := hf ⟨i, by omega⟩
      simp only at h1
      omega
    have hlen2 := bulk_len 5 (elems.map (·.1)) h5
    rw [List.length_map] at hlen2
    refine ⟨_, List.ofFn (fun i : Fin len => f ⟨i.1, i.2⟩), hcs, ⟨some a, cap, by simp, ?_⟩, by simp; omega, ?_⟩
    · by_cases h0 : len = 0
      · left; subst h0; simp
      · right
        have hs : a.spot = none := by
          obtain ⟨c4, hs4, h1, -⟩ := hf ⟨0, by omega⟩
          have h2 := h1 0 (by omega)
          rw [Array.getElem?_eq_getElem (by omega)] at h2
          have h1 := (cell_row h2).1
          simpa [Addr.add] using h1
        refine ⟨a.block, a.off, by rw [← addr_plain hs], fun i hi => ?_⟩
        simp only [List.length_ofFn] at hi
        obtain ⟨c4, hs4, h1, h2, -⟩ := hf ⟨i, hi⟩
        have hcell : ∀ j, j < 4 → (rowOf w a.block)[a.off + i * 4 + j]? = c4[j]? := by
          intro j hj
          have h3 := h1 j hj
          rw [addr_plain hs, Addr.add_lit, Addr.add_lit] at h3
          obtain ⟨u, hu⟩ : ∃ u, c4[j]? = some u := ⟨_, Array.getElem?_eq_getElem (by omega)⟩
          rw [hu] at h3 ⊢
          exact (cell_row h3).2
        have hsz3 : a.off + i * 4 + 4 ≤ (rowOf w a.block).size := by
          have h3 := hcell 3 (by omega)
          obtain ⟨u, hu⟩ : ∃ u, c4[3]? = some u := ⟨_, Array.getElem?_eq_getElem (by omega)⟩
          rw [hu] at h3
          have := (Array.getElem?_eq_some_iff.1 h3).1
          omega
        refine ⟨hsz3, ?_⟩
        rw [cut_ext hs4 hsz3 hcell, h2]
        simp
    · intro s hs
      obtain ⟨i, hi, rfl⟩ := List.mem_iff_getElem.1 hs
      simp only [List.length_ofFn] at hi
      obtain ⟨c4, -, -, -, h1⟩ := hf ⟨i, hi⟩
      have h9 := bulk_mem (List.mem_map.2 ⟨elems[i]'(by omega), List.getElem_mem _, rfl⟩ : (elems[i]'(by omega)).1 ∈ elems.map (·.1))
      simp only [List.getElem_ofFn]
      simp only at h1
      omega
end
end Go.Proofs.YteldfmgjbgedaaaGreat

namespace Go.Proofs.YteldfmgjbgedaaaGreat.topSsi
open Go.ChangeShapes Go.WideShapes Go.ChangeAt Go.RowKit
set_option linter.unusedVariables false

theorem own : ownKnob Tryz.prog.godebug = none := by kernel_rfl
theorem laidOut : laidOutB Tryz.prog = true := by kernel_rfl

set_option maxRecDepth 100000 in
theorem lifted (os : Os) (started : os.Started) (H : Type) (enc : TypeId × Value → H) (F : Stop.Interp) :
    ReturnsInHanded {} Tryz.checked os 3 .any ((Rows.OpenSpec.upto Rows.topSsiSpec).pre6 enc Tryz.prog Tryz.f3 Rows.topSsiUptoRow.domain false) (((Rows.OpenSpec.upto Rows.topSsiSpec).at F).post enc Tryz.prog Tryz.f3 false true false false) := by
  refine returnsInHanded_of_cond (C := Tryz.checked) (s := Rows.OpenSpec.upto Rows.topSsiSpec) (k := Rows.uptoSmall) rfl own started (by kernel_rfl) Tryz.func3
    (OpenSpec.witness (enc := enc) (C := Tryz.checked) (s := Rows.OpenSpec.upto Rows.topSsiSpec) (k := Rows.uptoSmall) rfl false ⟨#[], #[.agg #[.int .i64 0, .int .i64 0, .int .i64 0, .int .i64 0], .slice none 0 0], []⟩ 8 (by kernel_rfl) (by kernel_rfl) (by kernel_rfl)
      (x := ([.agg [.lit (.int .i64 0), .lit (.int .i64 0), .lit (.int .i64 0), .lit (.int .i64 0)], .nil], [], [])) (by kernel_rfl) rfl (by kernel_rfl)) ?_
  intro W base args ds gs before hval0 hW hcnd hk _
  have hkk : Rows.uptoBulkAll (ds ++ gs) ≤ 1048576 := of_decide_eq_true hk
  have hval : ∀ (j : Nat) t v, Tryz.f3.params[j]? = some t → args[j]? = some v → Value.okWide Tryz.prog W .any base t v := hval0
  have hW' := hW
  obtain ⟨p, q, hA0, hV, rfl, hfz, hnd⟩ := hW
  have hA : DataW.TrodAll enc Tryz.prog W 0 (fun _ => true) true Tryz.f3.params.toList args.toList ds p := hA0
  rw [Tryz.params3] at hA hval
  obtain ⟨v0, vs0, d0, ds0, p0, q0, hargs, rfl, rfl, h0, r0⟩ := trodAll_cons hA
  obtain ⟨v1, vs1, d1, ds1, p1, q1, rfl, rfl, rfl, h1, r1⟩ := trodAll_cons r0
  obtain ⟨rfl, rfl, rfl⟩ := trodAll_nil r1
  obtain rfl : args = #[v0, v1] := by cases args; simp_all
  obtain ⟨rfl, rfl⟩ := trodVars_none hV
  have hbk : Rows.uptoBulkAll [d0, d1] ≤ 1048576 := by simpa using hkk
  have hb1 : Rows.uptoBulk d1 ≤ 1048576 := Nat.le_trans (bulk_mem (by simp)) hbk
  obtain ⟨cs0, rfl, -⟩ := okWide_struct Tryz.underlying23 (hval 0 23 v0 rfl rfl)
  obtain ⟨a1, len1, cap1, rfl⟩ := okWide_slice Tryz.underlying24 (hval 1 24 v1 rfl rfl)
  have k0 := h0
  have lt0 : ∀ x ∈ p0, x.block < W.heap.size := by obtain ⟨m, hm⟩ := k0; exact DataW.trod_lt m _ _ _ hm
  have k1 := h1
  have lt1 : ∀ x ∈ p1, x.block < W.heap.size := by obtain ⟨m, hm⟩ := k1; exact DataW.trod_lt m _ _ _ hm
  obtain ⟨ca, ck, cr, cl, rfl⟩ : ∃ ca ck cr cl : Int, cs0 = #[.int .i64 ca, .int .i64 ck, .int .i64 cr, .int .i64 cl] := by
    obtain ⟨fuel, hf⟩ := h0
    obtain ⟨ca, ck, cr, cl, hcs⟩ := caps_in hf
    simp [Value.cells] at hcs
    exact ⟨ca, ck, cr, cl, by cases cs0; simpa using hcs⟩
  obtain ⟨l, hl, hv, hn, hx⟩ : ∃ l : List SAct, l.length = len1 ∧ ActsAt W (.slice a1 len1 cap1) l ∧ 5 * l.length ≤ 1048576 ∧ ∀ s ∈ l, s.x.length ≤ 1048576 := by
    obtain ⟨fuel, hf⟩ := h1
    obtain ⟨v, l, hcs, hl, hn, hx⟩ := acts_in hf
    simp [Value.cells] at hcs
    subst hcs
    have hl2 := hl
    obtain ⟨a', c', e, -⟩ := hl2
    simp only [Value.slice.injEq] at e
    exact ⟨l, e.2.1.symm, hl, Nat.le_trans hn hb1, fun s hs => Nat.le_trans (hx s hs) hb1⟩
  clear hA0 hval0
  refine (top3_any W ca ck cr cl a1 len1 cap1 l hl hv (by omega) (fun s hs => by have := hx s hs; omega)).mono fun e W' ⟨he, hfr⟩ => ?_
  subst he
  have bel : Below W.heap.size W W' := hfr.below (Nat.le_refl _) (fun _ _ e => e)
  exact ⟨_, rfl, _, _, _, [], _, [], hW', trodAll_mk1 (shut_bool Tryz.underlying4 _), (trodAll_cons_mk (Below.trod laidOut (by kernel_rfl) (of_decide_eq_true (by kernel_rfl)) k0 bel lt0) (trodAll_cons_mk (Below.trod laidOut (by kernel_rfl) (of_decide_eq_true (by kernel_rfl)) k1 bel lt1) trodAll_mk0)), rfl, bel.frame _, fun h => by cases h⟩

/-- The statement. -/
theorem proved : Rows.TopSsiUptoSaid :=
  OpenClaim.holds_of_cond 3 Tryz.f3 rfl rfl rfl rfl rfl rfl rfl ⟨rfl, rfl, rfl, rfl, rfl⟩ rfl rfl rfl rfl rfl (by kernel_rfl) Tryz.func3 (by kernel_rfl)
    (of_decide_eq_true (by kernel_rfl)) (by unfold Func.isWrapper; first | (rw [if_pos (by decide +kernel)]; kernel_rfl) | (rw [if_neg (by decide +kernel)]; exact ⟨rfl, rfl⟩))
    (fun os started H enc _ F => lifted os started H enc F)

#print axioms proved
end Go.Proofs.YteldfmgjbgedaaaGreat.topSsi
