/-
  Package log: the records of an area, in plain.
-/
import Derived.Test.YtflnlpbcmcfblaaTurn
import Derived.Test.YtflnlpbcmcfblaaBlocksW
namespace Go.Proofs.Ytflnlpbcmcfblaa
open Go.RowKit

def recN (long : Nat) : Nat := if long = 0 then 1 else (long - 1) / 40 + 1
theorem recN_pos (long : Nat) : 1 ≤ recN long := by unfold recN; split <;> omega
theorem recN_le {long : Nat} : long ≤ recN long * 40 := by unfold recN; split <;> omega
theorem recN_lt {long : Nat} (h : long < 16777216) : recN long ≤ 419431 := by unfold recN; split <;> omega
theorem blocksI_nat (long : Nat) : blocksI (long : Int) = (recN long : Int) := by
  unfold blocksI recN
  rw [if_neg (by omega)]
  by_cases h : long = 0
  · simp [h]
  · rw [if_neg (by omega), if_neg h]
    omega

def at_ (area : List (List UInt8)) (i : Nat) : List UInt8 := area.getD i []

/-- The record that begins at a block, and how many blocks it takes. -/
def recHead (area : List (List UInt8)) (gen used rec : Nat) : Bool :=
  rmIs (at_ area used) && decide (rmV (at_ area used) = ⟨gen, (rmV (at_ area used)).life, rec, 0, (rmV (at_ area used)).long⟩) && decide (used + recN (rmV (at_ area used)).long ≤ area.length)
def recBlock (area : List (List UInt8)) (gen used rec i : Nat) : Bool :=
  rmIs (at_ area (used + i)) && decide (rmV (at_ area (used + i)) = ⟨gen, (rmV (at_ area used)).life, rec, i, (rmV (at_ area used)).long⟩)
def recBytes (area : List (List UInt8)) (used : Nat) (i : Nat) : List UInt8 := ((List.range i).map (fun j => (at_ area (used + j)).drop 24)).flatten
def recAt (area : List (List UInt8)) (gen used rec : Nat) : Option (List UInt8 × Nat) :=
  if recHead area gen used rec && (List.range (recN (rmV (at_ area used)).long)).all (recBlock area gen used rec) then
    some ((recBytes area used (recN (rmV (at_ area used)).long)).take (rmV (at_ area used)).long, recN (rmV (at_ area used)).long)
  else none

/-- The records from a block on; where they end. -/
def readFrom (area : List (List UInt8)) (gen : Nat) : Nat → Nat → Nat → List (List UInt8) × Nat
  | 0, used, _ => ([], used)
  | f + 1, used, rec =>
    if used < area.length then
      match recAt area gen used rec with
      | none => ([], used)
      | some (b, n) => (b :: (readFrom area gen f (used + n) (rec + 1)).1, (readFrom area gen f (used + n) (rec + 1)).2)
    else ([], used)

theorem recBytes_succ (area : List (List UInt8)) (used i : Nat) : recBytes area used (i + 1) = recBytes area used i ++ (at_ area (used + i)).drop 24 := by
  unfold recBytes
  rw [List.range_succ, List.map_append, List.flatten_append]
  simp

theorem rmIs_len {b : List UInt8} (h : rmIs b = true) : b.length = 64 := by
  unfold rmIs at h
  simp at h
  exact h.1

theorem recBytes_len {area : List (List UInt8)} {gen used rec : Nat} : ∀ i, (∀ j, j < i → recBlock area gen used rec j = true) → (recBytes area used i).length = i * 40
  | 0, _ => by simp [recBytes]
  | i + 1, h => by
    rw [recBytes_succ, List.length_append, recBytes_len i (fun j hj => h j (by omega)), List.length_drop]
    have := h i (by omega)
    unfold recBlock at this
    simp only [Bool.and_eq_true] at this
    rw [rmIs_len this.1]; omega

theorem rm_long (b : List UInt8) : (rmV b).long < 16777216 ∧ (rmV b).place < 65536 ∧ (rmV b).record < 4294967296 := by
  unfold rmV
  have h1 := le_cut_lt b 13 4
  have h2 := le_cut_lt b 17 2
  have h3 := le_cut_lt b 19 3
  split
  · simp only; omega
  · simp

/-- The told records. -/
structure Recs (w : World) (v : Value) (us : List Value) (recs : List (List UInt8)) (base : Nat) : Prop where
  da : OwnRows w v 1 (us.map fun u => #[u]) base
  ln : us.length = recs.length
  el : ∀ i (h1 : i < us.length) (h2 : i < recs.length), OwnB w us[i] recs[i] base
  ne : ∀ u ∈ us, ∀ j, u.ownBlock = some j → v.ownBlock ≠ some j
  pw : us.Pairwise (fun a b => ∀ j, a.ownBlock = some j → b.ownBlock ≠ some j)

theorem Recs.keep {w w' : World} {v : Value} {us : List Value} {recs : List (List UInt8)} {base : Nat} (h : Recs w v us recs base) {F : Nat → Prop} (hf : Fr F w w') (hF : ∀ k, base ≤ k → k < w.heap.size → ¬ F k) : Recs w' v us recs base :=
  ⟨h.da.keep hf (fun k hk => hF k (h.da.lt hk).1 (h.da.lt hk).2), h.ln, fun i h1 h2 => (h.el i h1 h2).keep hf (fun k hk => hF k ((h.el i h1 h2).lt hk).1 ((h.el i h1 h2).lt hk).2), h.ne, h.pw⟩
theorem Recs.nil (w : World) (base : Nat) : Recs w (.slice none 0 0) [] [] base := ⟨OwnRows.nil _ _ _, rfl, fun i h => by simp at h, fun u h => by simp at h, List.Pairwise.nil⟩

/-- One record more. -/
theorem Recs.snoc {w w2 w3 : World} {v v' u0 : Value} {us : List Value} {recs : List (List UInt8)} {b0 : List UInt8} {base : Nat} (h : Recs w v us recs base) (f2 : Fr (fun _ => False) w w2) (o0 : OwnB w2 u0 b0 base) (n0 : ∀ j, u0.ownBlock = some j → w.heap.size ≤ j)
    (ho : OwnRows w3 v' 1 (us.map (fun u => #[u]) ++ [#[u0]]) base) (f3 : Fr (fun i => v.ownBlock = some i) w2 w3) (hn : ∀ j, v'.ownBlock = some j → v.ownBlock = some j ∨ w2.heap.size ≤ j) : Recs w3 v' (us ++ [u0]) (recs ++ [b0]) base := by
  have s2 := f2.size
  refine ⟨by simpa using ho, by simp [h.ln], fun i h1 h2 => ?_, fun u hu j hj e => ?_, List.pairwise_append.2 ⟨h.pw, List.pairwise_singleton _ _, fun a ha b hb j hj e => ?_⟩⟩
  · by_cases hi : i < us.length
    · rw [List.getElem_append_left hi, List.getElem_append_left (by have := h.ln; omega)]
      exact ((h.el i hi (by have := h.ln; omega)).keep f2 (fun _ _ h => h)).keep f3 (fun k hk e => h.ne _ (List.getElem_mem hi) k hk e)
    · have hi2 : i = us.length := by simp at h1; omega
      subst hi2
      rw [List.getElem_append_right (Nat.le_refl _), List.getElem_append_right (by have := h.ln; omega)]
      have e0 : us.length - recs.length = 0 := by have := h.ln; omega
      simp only [Nat.sub_self, List.getElem_cons_zero, e0]
      exact o0.keep f3 (fun k hk e => by have := n0 k hk; have := (h.da.lt e).2; omega)
  · rcases List.mem_append.1 hu with hu | hu
    · rcases hn j e with e2 | e2
      · exact h.ne u hu j hj e2
      · obtain ⟨i, hi, rfl⟩ := List.getElem_of_mem hu
        have := ((h.el i hi (by have := h.ln; omega)).lt hj).2; omega
    · simp at hu; subst hu
      have h1 := n0 j hj
      rcases hn j e with e2 | e2
      · have := (h.da.lt e2).2; omega
      · have := (o0.lt hj).2; omega
  · simp at hb; subst hb
    obtain ⟨i, hi, rfl⟩ := List.getElem_of_mem ha
    have := ((h.el i hi (by have := h.ln; omega)).lt hj).2
    have := n0 j e; omega

theorem readFrom_stop {area : List (List UInt8)} {gen f used rec : Nat} (h : recAt area gen used rec = none) : readFrom area gen (f + 1) used rec = ([], used) := by
  unfold readFrom
  rw [h]
  simp
theorem readFrom_end {area : List (List UInt8)} {gen f used rec : Nat} (h : area.length ≤ used) : readFrom area gen f used rec = ([], used) := by
  cases f with
  | zero => rfl
  | succ f => unfold readFrom; rw [if_neg (by omega)]
theorem readFrom_more {area : List (List UInt8)} {gen f used rec n : Nat} {b : List UInt8} (hu : used < area.length) (h : recAt area gen used rec = some (b, n)) :
    readFrom area gen (f + 1) used rec = (b :: (readFrom area gen f (used + n) (rec + 1)).1, (readFrom area gen f (used + n) (rec + 1)).2) := by
  conv => lhs; unfold readFrom
  rw [h, if_pos hu]
theorem recAt_nohead {area : List (List UInt8)} {gen used rec : Nat} (h : recHead area gen used rec = false) : recAt area gen used rec = none := by
  unfold recAt; rw [h]; rfl
theorem recAt_noblock {area : List (List UInt8)} {gen used rec i : Nat} (hi : i < recN (rmV (at_ area used)).long) (h : recBlock area gen used rec i = false) : recAt area gen used rec = none := by
  unfold recAt
  rw [if_neg]
  intro e
  simp only [Bool.and_eq_true, List.all_eq_true, List.mem_range] at e
  rw [e.2 i hi] at h
  cases h
theorem recAt_all {area : List (List UInt8)} {gen used rec : Nat} (h0 : recHead area gen used rec = true) (h : ∀ i, i < recN (rmV (at_ area used)).long → recBlock area gen used rec i = true) :
    recAt area gen used rec = some ((recBytes area used (recN (rmV (at_ area used)).long)).take (rmV (at_ area used)).long, recN (rmV (at_ area used)).long) := by
  unfold recAt
  rw [if_pos]
  simp only [Bool.and_eq_true, List.all_eq_true, List.mem_range]
  exact ⟨h0, h⟩

theorem BytesAt.take {w : World} {a : Option Addr} {L c : Nat} {b : List UInt8} (h : BytesAt w (.slice a L c) b) (m : Nat) (hm : m ≤ b.length) : BytesAt w (.slice a m c) (b.take m) := by
  have hl : (b.take m).length = m := by simp; omega
  obtain ⟨a', c', he, hnil | ⟨g', o', hax, hx, hc⟩⟩ := h
  · subst hnil
    obtain rfl : m = 0 := by simpa using hm
    exact ⟨a, c, by simp, .inl (by simp)⟩
  · simp only [Value.slice.injEq] at he
    obtain ⟨rfl, -, rfl⟩ := he
    refine ⟨a, c, by rw [hl], .inr ⟨g', o', hax, by rw [hl]; omega, ?_⟩⟩
    rw [hl]
    refine cut_ext (by rw [bvA_size, hl]) (by omega) (fun i hi => ?_)
    have := cut_get hx i (by omega)
    rw [hc, bvA_get] at this
    rw [← this, bvA_get, List.getElem?_take_of_lt hi]

/-! ### slices.Clone of a record's bytes -/

set_option maxHeartbeats 400000 in
theorem clone36_zero (w : World) (g off c : Nat) :
    Calls Try.prog 65 #[.slice (some ⟨g, off, none⟩) 0 c] w fun e w' => ∃ v, e = .returned v ∧ OwnB w' v [] w.heap.size ∧ Fr (fun _ => False) w w' := by
  have O0 := Lib.hid (show OwnBytes (w.alloc (.cells #[] 5)) (.slice (some ⟨w.heap.size, 0, none⟩) 0 0) [] w.heap.size from ⟨w.heap.size, [], rfl, Nat.le_refl _, live_alloc_at _ _ _ _ rfl, by simp, by rw [rowOf_alloc_at _ _ _ _ _ rfl]; rfl⟩)
  have F0 := Lib.hid (show Fr (fun _ => False) w (w.alloc (.cells #[] 5)) from (Fr.refl _ w).alloc _)
  go_enter Try.func65, Try.ntmps65
  go_wp2_with (at_builtin; refine wpList_append_B rfl (.tmp 5) (.tmp 6) rfl (.slice (some ⟨w.heap.size, 0, none⟩) 0 0) [] w.heap.size rfl (.inr O0.out) (by simp) (.slice (some ⟨g, off, none⟩) 0 c) [] rfl ⟨_, c, rfl, .inl rfl⟩ (by simp) ?_; intro v3 w3 o3 f3 x3; have O3 := Lib.hid o3; have F3 := Lib.hid f3; clear o3 f3 x3)
  go_ret
  exact ⟨v3, rfl, O3.out, F0.out.trans F3.out (fun i hi e => by have := (O0.out.lt e).1; omega)⟩

theorem clone36_B (w : World) (g off c : Nat) (b : List UInt8) (h : BytesAt w (.slice (some ⟨g, off, none⟩) b.length c) b) (hb : b.length ≤ 140737488355328) :
    Calls Try.prog 65 #[.slice (some ⟨g, off, none⟩) b.length c] w fun e w' => ∃ v, e = .returned v ∧ OwnB w' v b w.heap.size ∧ Fr (fun _ => False) w w' := by
  by_cases h0 : b = []
  · subst h0
    exact clone36_zero w g off c
  · have hl : 0 < b.length := List.length_pos_iff.2 h0
    obtain ⟨a', c', he, hnil | ⟨g', o', hax, hx, hc⟩⟩ := h
    · exact absurd hnil h0
    simp only [Value.slice.injEq] at he
    obtain ⟨rfl, -, rfl⟩ := he
    simp only [Option.some.injEq, Addr.mk.injEq, and_true] at hax
    obtain ⟨rfl, rfl⟩ := hax
    refine (clone36_bytes w g off c b hl hx hc hb).mono ?_
    rintro e w' ⟨v, rfl, o, f⟩
    exact ⟨v, rfl, .inr o, f⟩

end Go.Proofs.Ytflnlpbcmcfblaa
