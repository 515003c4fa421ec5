/-
  LogOwn returns true for every list of records: what is handed in is kept as it was, and what is told lies in memory of its own.
-/
import Derived.Test.YtflnlpbcmcfblaaRows
import Derived.WalkKit
import Derived.ProofKit
import Derived.OpenShut
import Derived.ShutString
import Derived.ChangeOld
import Derived.Below
import Derived.SizedLaws
import Derived.Test.YtflnlpbcmcfblaaOwnL
import Derived.Test.YtflnlpbcmcfblaaLogIn
namespace Go.Proofs.Ytflnlpbcmcfblaa.logOwn
open Go.ChangeShapes Go.WideShapes Go.ChangeAt Go.RowKit
open Go.ChangeMaps (open_string shut_string)
set_option linter.unusedVariables false

theorem own : ownKnob Try.prog.godebug = none := by kernel_rfl
theorem bytes5 : Try.prog.bytesOf 5 = 1 := by kernel_rfl
theorem bytes3 : Try.prog.bytesOf 3 = 8 := by kernel_rfl
theorem bytes55 : Try.prog.bytesOf 55 = 64 := by kernel_rfl
theorem laidOut : laidOutB Try.prog = true := by kernel_rfl

theorem weightsAll_mem {H : Type} {P : Program} {e : TypeId} {d : DataW H} {n : Nat} : ∀ {l : List (DataW H)}, d ∈ l → n ∈ d.weights P e → n ∈ DataW.weightsAll P e l
  | x :: r, h, hn => by
    simp only [DataW.weightsAll, List.mem_append]
    rcases List.mem_cons.1 h with h | h
    · subst h; exact .inl hn
    · exact .inr (weightsAll_mem h hn)

section
variable {H : Type} {enc : TypeId × Value → H} {w : World} {base : Nat} {held : Bool} {n : Nat} {cs : List Value} {y : DataW H × List MemPlace}

theorem bytes_wt (h : DataW.trod enc Try.prog w base (fun _ => true) held n 36 cs = some y) (hw : ∀ n ∈ y.1.weights Try.prog 36, n ≤ reachBytes) : ∃ a A c, cs = [.slice a A.length c] ∧ BytesAt w (.slice a A.length c) A ∧ A.length ≤ c ∧ A.length ≤ 140737488351232 := by
  rcases open_ints Try.underlying36 Try.underlying5 (by kernel_rfl) h with ⟨hcs, _⟩ | ⟨x, l, c, zs, hcs, _, hl, hm, hz, hy, hcell, hwz⟩
  · exact ⟨none, [], 0, by simpa using hcs, ⟨_, _, rfl, .inl rfl⟩, Nat.le_refl _, by simp⟩
  · obtain ⟨A, rfl, hA⟩ := bytes_of_row (w := w) (a := some x) (len := l) (cap := c) (zs := zs) (.inr ⟨x, rfl, hl, hm, by simpa using hz, hcell, hwz⟩)
    refine ⟨_, A, c, by simpa using hcs, hA, hl, ?_⟩
    have hz2 : zs.length = c := by simpa using hz
    have hb := hw ((zs.take A.length).length * 1 + (zs.drop A.length).length * 1) (by
      rw [hy]
      simp only [DataW.weights, Try.underlying36, List.mem_cons]
      left
      rw [bytes5]
      simp [lits])
    simp only [List.length_take, List.length_drop, reachBytes] at hb
    omega

theorem records_wt (h : DataW.trod enc Try.prog w base (fun _ => true) held n 29 cs = some y) (hw : ∀ n ∈ y.1.weights Try.prog 29, n ≤ reachBytes) : ∃ v A, cs = [v] ∧ BytesList w v A 140737488351232 ∧ A.length ≤ 9223372036854775807 := by
  rcases DataW.trod_slice Try.underlying29 h with ⟨hcs, _⟩ | ⟨a, len, cap, elems, rest, m, rfl, hcs, hy, hb, hl, hm, hlen, hel, hsp, -⟩
  · exact ⟨_, [], hcs, ⟨none, 0, rfl, .inl rfl⟩, by simp⟩
  · have cells36 : Try.prog.cellsOf 36 = 1 := by kernel_rfl
    rw [cells36] at hel
    have hwe : ∀ e ∈ elems, ∀ n ∈ e.1.weights Try.prog 36, n ≤ reachBytes := fun e he n hn => hw n (by
      rw [hy]
      simp only [DataW.weights, Try.underlying29, List.mem_cons, List.mem_append]
      exact .inr (.inl (weightsAll_mem (List.mem_map.2 ⟨e, he, rfl⟩) hn)))
    have each : ∀ i (hi : i < len), ∃ (b : List UInt8) (q : Option Addr × Nat), w.cell? (a.add i) = some (.slice q.1 b.length q.2) ∧ BytesAt w (.slice q.1 b.length q.2) b ∧ b.length ≤ q.2 ∧ b.length ≤ 140737488351232 := by
      intro i hi
      have hh := hel i hi
      rw [List.getElem?_eq_getElem (by omega), Option.bind_eq_some_iff] at hh
      obtain ⟨c1, h4, ht⟩ := hh
      obtain ⟨ab, b, cb, rfl, h5, h6, h7⟩ := bytes_wt ht (hwe _ (List.getElem_mem _))
      have h8 := (World.cells?_some h4).2.2 0 (by omega)
      refine ⟨b, (ab, cb), ?_, h5, h6, h7⟩
      simpa [Addr.add] using h8
    have hc := Classical.skolem.1 (fun (i : {i // i < len}) => each i.1 i.2)
    obtain ⟨f, hf⟩ := hc
    refine ⟨_, List.ofFn (fun i : Fin len => f ⟨i.1, i.2⟩), hcs, ⟨some a, cap, by simp, ?_⟩, by simp only [List.length_ofFn]; simp only [maxLen] at hm; omega⟩
    by_cases h0 : len = 0
    · left; subst h0; simp
    · right
      have hs : a.spot = none := by
        obtain ⟨q, h1, -⟩ := hf ⟨0, by omega⟩
        have h1 := (cell_row h1).1
        simpa [Addr.add] using h1
      refine ⟨a.block, a.off, by rw [← addr_plain hs], fun i hi => ?_⟩
      simp only [List.length_ofFn] at hi
      obtain ⟨q, h1, h2, h3, h4⟩ := hf ⟨i, hi⟩
      refine ⟨q.1, q.2, ?_, by simpa using h2, by simpa using h3, by simpa using h4⟩
      rw [addr_plain hs, Addr.add_lit] at h1
      simpa using (cell_row h1).2
end

set_option maxRecDepth 100000 in
theorem lifted (os : Os) (started : os.Started) (H : Type) (enc : TypeId × Value → H) :
    ReturnsInHanded {} Try.checked os 12 .any (Rows.logOwnSpec.pre6 enc Try.prog Try.f12 Rows.logOwnRow.domain false) (Rows.logOwnSpec.post enc Try.prog Try.f12 false true false false) := by
  refine returnsInHanded_of_change_sized (C := Try.checked) own started (by kernel_rfl) Try.func12
    (ChangeSpec.witness6 (enc := enc) (C := Try.checked) false ⟨#[], #[.slice none 0 0], []⟩ 8 (by kernel_rfl) (by kernel_rfl) (by kernel_rfl) (by kernel_rfl)) ?_
  intro W base args ds gs before hval0 hW hcnd hsz0 _
  have hsz : (DataW.weightsEach Try.prog (Try.f12.params.toList ++ Rows.logOwnSpec.plain.varTypes Try.prog) (ds ++ gs)).all (· ≤ reachBytes) = true := hsz0
  clear hsz0
  have hval : ∀ (j : Nat) t v, Try.f12.params[j]? = some t → args[j]? = some v → Value.okWide Try.prog W .any base t v := hval0
  have hW' := hW
  obtain ⟨p, q, hA0, hV, rfl, hfz, hnd⟩ := hW
  have hA : DataW.TrodAll enc Try.prog W 0 (fun _ => true) true Try.f12.params.toList args.toList ds p := hA0
  rw [Try.params12] at hA hval hsz
  obtain ⟨v0, vs0, d0, ds0, p0, q0, hargs, rfl, rfl, h0, r0⟩ := trodAll_cons hA
  obtain ⟨rfl, rfl, rfl⟩ := trodAll_nil r0
  obtain rfl : args = #[v0] := by cases args; simp_all
  obtain ⟨rfl, rfl⟩ := trodVars_none hV
  obtain ⟨a0, len0, cap0, rfl⟩ := okWide_slice Try.underlying29 (hval 0 29 v0 rfl rfl)
  have k0 := h0
  have lt0 : ∀ x ∈ p0, x.block < W.heap.size := by obtain ⟨m, hm⟩ := k0; exact DataW.trod_lt m _ _ _ hm
  have hwt : ∀ n ∈ d0.weights Try.prog 29, n ≤ reachBytes := fun n hn => by
    have := List.all_eq_true.1 hsz n (DataW.weights_mem_each (j := 0) (t := 29) rfl rfl n hn)
    simpa using this
  obtain ⟨A0, r0b, n0⟩ : ∃ A, BytesList W (.slice a0 len0 cap0) A 140737488351232 ∧ A.length ≤ 9223372036854775807 := by
    obtain ⟨fuel, hf⟩ := h0
    obtain ⟨v, A, hcs, hl, hn⟩ := records_wt hf hwt
    simp [Value.cells] at hcs
    subst hcs
    exact ⟨A, hl, hn⟩
  clear hA0 hval0
  refine (own_list W _ A0 (r0b.mono (by omega)) n0).mono fun e W' ⟨he, bel⟩ => ?_
  subst he
  exact ⟨_, rfl, _, _, _, [], _, [], hW', trodAll_mk1 (shut_bool Try.underlying4 _), (trodAll_cons_mk (Below.trod laidOut (by kernel_rfl) (of_decide_eq_true (by kernel_rfl)) k0 bel lt0) trodAll_mk0), rfl, bel.frame _, fun h => by cases h⟩

theorem over : Rows.logOwnRow.holds Try.pinned (OpenSpec.ofChange Rows.logOwnSpec) :=
  OpenClaim.holds_of_wide 12 Try.f12 rfl rfl rfl rfl rfl rfl rfl ⟨rfl, rfl, rfl, rfl, rfl⟩ rfl rfl rfl rfl rfl (by kernel_rfl) Try.func12 (by kernel_rfl)
    (of_decide_eq_true (by kernel_rfl)) (by unfold Func.isWrapper; first | (rw [if_pos (by decide +kernel)]; kernel_rfl) | (rw [if_neg (by decide +kernel)]; exact ⟨rfl, rfl⟩))
    (fun os started H enc _ => lifted os started H enc)

/-- The statement. -/
theorem proved : Rows.LogOwnSaid := over

#print axioms proved
end Go.Proofs.Ytflnlpbcmcfblaa.logOwn
