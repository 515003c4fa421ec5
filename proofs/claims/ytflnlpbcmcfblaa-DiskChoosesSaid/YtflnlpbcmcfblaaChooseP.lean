/-
  DiskChooses in plain: what a crash leaves of each block.
-/
import Derived.Test.YtflnlpbcmcfblaaImages
import Derived.Test.YtflnlpbcmcfblaaLastsM
namespace Go.Proofs.Ytflnlpbcmcfblaa
open Go.RowKit

theorem mem_tornL {S : DS} {i : Nat} (hi : i < S.torn.length) : decide ((i : Int) ∈ S.tornL) = S.torn[i] := by
  have e : (i : Int) ∈ S.tornL ↔ S.torn[i] = true := by
    unfold DS.tornL tornUpto
    simp only [List.mem_map, List.mem_filter, List.mem_range]
    constructor
    · rintro ⟨j, ⟨h1, h2⟩, h3⟩
      obtain rfl : j = i := by omega
      rw [List.getElem?_eq_getElem hi] at h2
      exact h2
    · intro h
      exact ⟨i, ⟨hi, by rw [List.getElem?_eq_getElem hi]; exact h⟩, rfl⟩
  rw [Bool.eq_iff_iff, decide_eq_true_iff, e]

theorem flat_chunk : ∀ (l : List (List UInt8)) (_ : ∀ c ∈ l, c.length = 64) (i : Nat) (hi : i < l.length), (l.flatten.drop (i * 64)).take 64 = l[i] := by
  intro l
  induction l with
  | nil => intro _ i hi; simp at hi
  | cons a l ih =>
    intro h i hi
    have ha := h a (List.mem_cons_self ..)
    cases i with
    | zero => simp [← ha]
    | succ i =>
      have e : (i + 1) * 64 = a.length + i * 64 := by rw [ha]; omega
      rw [List.flatten_cons, e, List.drop_append]
      have e2 : a.drop (a.length + i * 64) = [] := List.drop_eq_nil_of_le (by omega)
      rw [e2, List.nil_append, Nat.add_sub_cancel_left]
      exact ih (fun c hc => h c (List.mem_cons_of_mem _ hc)) i (by simpa using hi)

theorem img_chunk {S : DS} (h : S.Ok) {i : Nat} (hi : i < S.chunks.length) : (S.img.drop (i * 64)).take 64 = S.chunks[i] := flat_chunk _ (DS.chunk64 h) i hi

theorem img_len {S : DS} (h : S.Ok) : S.img.length = S.data.length * 64 := by
  unfold DS.img; rw [flat64 (DS.chunk64 h), DS.chunks_len h]

/-- A block's bytes within bytes. -/
theorem BytesAt.block {w : World} {g o L c : Nat} {b : List UInt8} (h : BytesAt w (.slice (some ⟨g, o, none⟩) L c) b) (fr : Nat) (hf : fr + 64 ≤ b.length) : BytesAt w (.slice (some ⟨g, o + fr, none⟩) 64 (c - fr)) ((b.drop fr).take 64) := by
  obtain ⟨a', c', he, hnil | ⟨g', o', hax, hx, hc⟩⟩ := h
  · subst hnil; simp at hf
  · simp only [Value.slice.injEq] at he
    obtain ⟨rfl, -, rfl⟩ := he
    simp only [Option.some.injEq, Addr.mk.injEq, and_true] at hax
    obtain ⟨rfl, rfl⟩ := hax
    have hl : ((b.drop fr).take 64).length = 64 := by simp; omega
    refine ⟨_, c - fr, by rw [hl], .inr ⟨g, o + fr, rfl, by rw [hl]; omega, ?_⟩⟩
    rw [hl]
    refine cut_ext (by rw [bvA_size, hl]) (by omega) (fun k hk => ?_)
    have := cut_get hx (fr + k) (by omega)
    rw [hc, bvA_get] at this
    rw [Nat.add_assoc, ← this, bvA_get, List.getElem?_take_of_lt hk, List.getElem?_drop]

/-- What the kept writes make of a block. -/
theorem choose_keep (S : DS) (hl : S.torn.length = S.data.length) (i : Nat) (hi : i < S.data.length) : ∀ l : List ((Nat × List UInt8) × Int),
    ((S.keepAll l).data[i]? = S.data[i]? ∧ (S.keepAll l).torn[i]? = S.torn[i]?) ∨ ∃ x ∈ l, x.1.1 = i ∧ ((S.keepAll l).torn[i]? = some true ∨ ((S.keepAll l).torn[i]? = some false ∧ (S.keepAll l).data[i]? = some x.1.2)) := by
  refine snocRec ?_ ?_
  · exact .inl ⟨rfl, rfl⟩
  · intro l x ih
    have e : S.keepAll (l ++ [x]) = (S.keepAll l).keepOne x := by unfold DS.keepAll; rw [List.foldl_append]; rfl
    have hd : (S.keepAll l).data.length = S.data.length := (keepAll_fields l S).2.2.2
    have ht : (S.keepAll l).torn.length = S.torn.length := by
      refine snocRec (P := fun l => (S.keepAll l).torn.length = S.torn.length) rfl (fun l x ih => ?_) l
      have e : S.keepAll (l ++ [x]) = (S.keepAll l).keepOne x := by unfold DS.keepAll; rw [List.foldl_append]; rfl
      rw [e, ← ih]; unfold DS.keepOne
      split
      · simp [DS.lay]
      · split <;> simp
    rw [e]
    have old : ((S.keepAll l).data[i]? = S.data[i]? ∧ (S.keepAll l).torn[i]? = S.torn[i]?) ∨ ∃ y ∈ l ++ [x], y.1.1 = i ∧ ((S.keepAll l).torn[i]? = some true ∨ ((S.keepAll l).torn[i]? = some false ∧ (S.keepAll l).data[i]? = some y.1.2)) :=
      ih.imp id (fun ⟨y, h1, h2⟩ => ⟨y, List.mem_append_left _ h1, h2⟩)
    have hx : x ∈ l ++ [x] := by simp
    unfold DS.keepOne
    split
    · by_cases hk : x.1.1 = i
      · right
        refine ⟨x, hx, hk, .inr ⟨?_, ?_⟩⟩
        · simp only [DS.lay, hk]; rw [List.getElem?_set_self (by omega)]
        · simp only [DS.lay, hk]; rw [List.getElem?_set_self (by omega)]
      · simp only [DS.lay]
        rw [List.getElem?_set_ne hk, List.getElem?_set_ne hk]
        exact old
    · split
      · by_cases hk : x.1.1 = i
        · right
          refine ⟨x, hx, hk, .inl ?_⟩
          simp only [hk]; rw [List.getElem?_set_self (by omega)]
        · simp only
          rw [List.getElem?_set_ne hk]
          exact old
      · exact old

/-- The same of what one sees. -/
theorem choose_seen {S : DS} {K : List Int} (h : S.Ok) {i : Nat} (hi : i < S.data.length) {T : DS} (hT : T.Ok) (hd : T.data = (S.keepAll (S.pend.zip K)).data) (ht : T.torn = (S.keepAll (S.pend.zip K)).torn)
    (h1 : i < S.torn.length) (h2 : i < T.torn.length) (c1 : i < S.chunks.length) (c2 : i < T.chunks.length) :
    (((T.chunks[i] = S.chunks[i]) ∧ T.torn[i] = S.torn[i]) ∨ ∃ q ∈ S.pend, q.1 = i ∧ (T.torn[i] = true ∨ q.2 = T.chunks[i])) ∧ ((∀ q ∈ S.pend, q.1 ≠ i) → T.torn[i] = S.torn[i]) := by
  have hd2 : i < T.data.length := by rw [DS.chunks_len hT] at c2; exact c2
  have e1 := DS.chunk_get h i h1 hi c1
  have e2 := DS.chunk_get hT i h2 hd2 c2
  have g1 : T.data[i]? = some T.data[i] := List.getElem?_eq_getElem hd2
  have g2 : T.torn[i]? = some T.torn[i] := List.getElem?_eq_getElem h2
  have g3 : S.data[i]? = some S.data[i] := List.getElem?_eq_getElem hi
  have g4 : S.torn[i]? = some S.torn[i] := List.getElem?_eq_getElem h1
  have hk := choose_keep S h.tl i hi (S.pend.zip K)
  rw [← hd, ← ht, g1, g2, g3, g4] at hk
  rcases hk with ⟨a, b⟩ | ⟨x, hx, hxi, hk⟩
  · have a2 := Option.some.inj a
    have b2 := Option.some.inj b
    exact ⟨.inl ⟨by rw [e1, e2, a2, b2], b2⟩, fun _ => b2⟩
  · have hq : x.1 ∈ S.pend := (List.of_mem_zip (show (x.1, x.2) ∈ _ from hx)).1
    refine ⟨.inr ⟨x.1, hq, hxi, ?_⟩, fun hno => absurd hxi (hno _ hq)⟩
    rcases hk with a | ⟨a, b⟩
    · exact .inl (Option.some.inj a)
    · right
      rw [e2, Option.some.inj a, ← Option.some.inj b]; rfl

theorem ReadOut.form {w : World} {v : Value} {o : Option (List UInt8)} {base : Nat} (h : ReadOut w v o base) : ∃ a n c, v = .slice a n c := by
  cases o with
  | none => obtain rfl : v = _ := h; exact ⟨none, 0, 0, rfl⟩
  | some b => obtain ⟨g, ext, rfl, -⟩ := (show OwnBytes w v b base from h); exact ⟨_, _, _, rfl⟩

/-- The law's two flags when j told writes are through. -/
def sameJ (P : List (Nat × List UInt8)) (k : Nat) (t2 : Bool) (c2 : List UInt8) (s0 : Bool) (j : Nat) : Bool := s0 || (P.take j).any (fun q => decide (q.1 = k) && (t2 || decide (q.2 = c2)))
def pendJ (P : List (Nat × List UInt8)) (k j : Nat) : Bool := (P.take j).any (fun q => decide (q.1 = k))

theorem sameJ_zero (P : List (Nat × List UInt8)) (k : Nat) (t2 : Bool) (c2 : List UInt8) (s0 : Bool) : sameJ P k t2 c2 s0 0 = s0 := by simp [sameJ]
theorem sameJ_succ {P : List (Nat × List UInt8)} (k : Nat) (t2 : Bool) (c2 : List UInt8) (s0 : Bool) {j : Nat} (hj : j < P.length) : sameJ P k t2 c2 s0 (j + 1) = (sameJ P k t2 c2 s0 j || (decide (P[j].1 = k) && (t2 || decide (P[j].2 = c2)))) := by
  unfold sameJ
  rw [List.take_succ_eq_append_getElem hj, List.any_append]
  simp [Bool.or_assoc]
theorem pendJ_succ {P : List (Nat × List UInt8)} (k : Nat) {j : Nat} (hj : j < P.length) : pendJ P k (j + 1) = (pendJ P k j || decide (P[j].1 = k)) := by
  unfold pendJ
  rw [List.take_succ_eq_append_getElem hj, List.any_append]
  simp

theorem sameJ_end {P : List (Nat × List UInt8)} {k : Nat} {t1 t2 : Bool} {c1 c2 : List UInt8} (h : (c2 = c1 ∧ t2 = t1) ∨ ∃ q ∈ P, q.1 = k ∧ (t2 = true ∨ q.2 = c2)) : sameJ P k t2 c2 (decide (c2 = c1) && (t2 == t1)) P.length = true := by
  unfold sameJ
  rw [List.take_of_length_le (Nat.le_refl _)]
  rcases h with ⟨rfl, rfl⟩ | ⟨q, hq, h1, h2⟩
  · simp
  · rw [Bool.or_eq_true]
    right
    rw [List.any_eq_true]
    refine ⟨q, hq, ?_⟩
    rcases h2 with h2 | h2 <;> simp [h1, h2]
theorem pendJ_end {P : List (Nat × List UInt8)} {k : Nat} (h : pendJ P k P.length = false) : ∀ q ∈ P, q.1 ≠ k := by
  unfold pendJ at h
  rw [List.take_of_length_le (Nat.le_refl _), List.any_eq_false] at h
  intro q hq e
  exact h q hq (by simpa using e)

theorem read_crashed {T : DS} {k : Nat} (hp : T.pend = []) (ho : T.off = false) (hk : k < T.data.length) (ht : k < T.torn.length) : (T.read k).1 = if T.torn[k] then 23 else 0 := by
  have hr : T.ready k = 0 := readyI_zero.2 ⟨ho, by omega, by omega⟩
  rw [read_none hr (by rw [hp]; rfl), List.getElem?_eq_getElem ht]
  simp only [Option.getD_some]
  cases T.torn[k] <;> rfl

end Go.Proofs.Ytflnlpbcmcfblaa
