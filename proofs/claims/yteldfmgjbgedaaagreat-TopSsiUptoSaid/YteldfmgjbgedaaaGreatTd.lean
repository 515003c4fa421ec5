/-
  Package serial: read.
-/
import Derived.Test.YteldfmgjbgedaaaGreatTc
namespace Go.Proofs.YteldfmgjbgedaaaGreat
open Go.RowKit Go.Maps

/-- Bounds of a history. -/
structure ActsB (A : List PAct) (C : List Nat) : Prop where
  la : A.length ≤ 4096
  lc : C.length ≤ 4096
  c : ∀ t ∈ C, t < 2 ^ 40
  a : ∀ a ∈ A, a.ver < 2 ^ 40 ∧ a.item.length < 2 ^ 32

/-- read under way. -/
structure RS (w wr : World) (vc va : Value) (n1 n2 n3 : Nat) (pl : Nat → Option Nat) (f : Value → Option Value) (L : Key → List Nat) (V : Key → Value) (nx : Nat → Key → Option Nat) : Prop where
  fr : Fr (fun _ => False) w wr
  rh : rowOf wr w.heap.size = #[vc, va]
  lh : live wr w.heap.size = true
  rp : rowOf wr (w.heap.size + 4) = #[.map (some (w.heap.size + 1)), .map (some (w.heap.size + 2)), .map (some (w.heap.size + 3))]
  lp : live wr (w.heap.size + 4) = true
  rx : rowOf wr (w.heap.size + 5) = #[.pointer (some ⟨w.heap.size + 4, 0, none⟩)]
  lx : live wr (w.heap.size + 5) = true
  place : PlaceAt wr (w.heap.size + 1) n1 pl
  vers : VersAt wr (w.heap.size + 2) n2 f L V (w.heap.size + 6)
  next : NextAt wr (w.heap.size + 3) n3 nx

section
variable {w wr wr' : World} {vc va : Value} {n1 n2 n3 : Nat} {pl : Nat → Option Nat} {f : Value → Option Value} {L : Key → List Nat} {V : Key → Value} {nx : Nat → Key → Option Nat}
theorem RS.lt (h : RS w wr vc va n1 n2 n3 pl f L V nx) : w.heap.size + 5 < wr.heap.size := live_lt h.lx
theorem RS.turn (h : RS w wr vc va n1 n2 n3 pl f L V nx) {F : Nat → Prop} (hf : Fr F wr wr') (hF : ∀ k, F k → k = w.heap.size + 1 ∨ k = w.heap.size + 2 ∨ k = w.heap.size + 3 ∨ w.heap.size + 6 ≤ k)
    {m1 m2 m3 : Nat} {pl' : Nat → Option Nat} {f' : Value → Option Value} {L' : Key → List Nat} {V' : Key → Value} {nx' : Nat → Key → Option Nat}
    (h1 : PlaceAt wr' (w.heap.size + 1) m1 pl') (h2 : VersAt wr' (w.heap.size + 2) m2 f' L' V' (w.heap.size + 6)) (h3 : NextAt wr' (w.heap.size + 3) m3 nx') : RS w wr' vc va m1 m2 m3 pl' f' L' V' nx' := by
  have hn : ∀ k, k = w.heap.size ∨ k = w.heap.size + 4 ∨ k = w.heap.size + 5 → ¬ F k := fun k hk e => by have := hF k e; omega
  refine ⟨h.fr.trans hf (fun k hk e => ?_), (hf.row (live_lt h.lh) (hn _ (.inl rfl))).trans h.rh, (hf.liv (live_lt h.lh) (hn _ (.inl rfl))).trans h.lh, (hf.row (live_lt h.lp) (hn _ (.inr (.inl rfl)))).trans h.rp, (hf.liv (live_lt h.lp) (hn _ (.inr (.inl rfl)))).trans h.lp, (hf.row (live_lt h.lx) (hn _ (.inr (.inr rfl)))).trans h.rx, (hf.liv (live_lt h.lx) (hn _ (.inr (.inr rfl)))).trans h.lx, h1, h2, h3⟩
  have := hF k e; omega
theorem RS.fr0 (h : RS w wr vc va n1 n2 n3 pl f L V nx) (hf : Fr (fun _ => False) wr wr') : RS w wr' vc va n1 n2 n3 pl f L V nx :=
  h.turn hf (fun _ e => e.elim) (h.place.fr hf (fun e => e)) (h.vers.fr hf (fun e => e) (fun _ _ _ e => e)) (h.next.fr hf (fun e => e))
theorem RS.putPlace (h : RS w wr vc va n1 n2 n3 pl f L V nx) (hf : Fr (fun k => k = w.heap.size + 1) wr wr') {m1 : Nat} {pl' : Nat → Option Nat} (hp : PlaceAt wr' (w.heap.size + 1) m1 pl') : RS w wr' vc va m1 n2 n3 pl' f L V nx :=
  h.turn hf (fun _ e => .inl e) hp (h.vers.fr hf (by omega) (fun k i hi e => by have := ((h.vers.own k).lt hi).1; omega)) (h.next.fr hf (by omega))
theorem RS.putNext (h : RS w wr vc va n1 n2 n3 pl f L V nx) (hf : Fr (fun k => k = w.heap.size + 3) wr wr') {m3 : Nat} {nx' : Nat → Key → Option Nat} (hp : NextAt wr' (w.heap.size + 3) m3 nx') : RS w wr' vc va n1 n2 m3 pl f L V nx' :=
  h.turn hf (fun _ e => .inr (.inr (.inl e))) (h.place.fr hf (by omega)) (h.vers.fr hf (by omega) (fun k i hi e => by have := ((h.vers.own k).lt hi).1; omega)) hp

theorem PlaceAt.made (w : World) (b : Nat) (h : w.heap[b]? = some (.map #[] 0)) : PlaceAt w b 0 (fun _ => none) := ⟨_, MapF.made w 3 b h, fun _ _ => rfl⟩
theorem NextAt.made (w : World) (b : Nat) (h : w.heap[b]? = some (.map #[] 0)) : NextAt w b 0 (fun _ _ => none) := ⟨_, MapF.made w 163 b h, fun _ _ _ _ => rfl⟩
theorem VersAt.made (w : World) (b base : Nat) (h : w.heap[b]? = some (.map #[] 0)) : VersAt w b 0 (fun _ => none) (fun _ => []) (fun _ => .slice none 0 0) base :=
  ⟨MapF.made w 9 b h, fun _ _ => by simp, fun _ _ h => (by cases h), fun _ => OwnRows.nil _ _ _, fun _ _ _ h => (by cases h)⟩

theorem RS.made (w : World) (vc va : Value) : RS w (((((((w.alloc (.cells #[vc, va] 42)).alloc (.map #[] 0)).alloc (.map #[] 0)).alloc (.map #[] 0)).alloc (.cells #[.map (some (w.heap.size + 1)), .map (some (w.heap.size + 1 + 1)), .map (some (w.heap.size + 1 + 1 + 1))] 160)).alloc
    (.cells #[.pointer none] 121)).setRow (w.heap.size + 1 + 1 + 1 + 1 + 1) #[.pointer (some ⟨w.heap.size + 1 + 1 + 1 + 1, 0, none⟩)]) vc va 0 0 0 (fun _ => none) (fun _ => none) (fun _ => []) (fun _ => .slice none 0 0) (fun _ _ => none) := by
  obtain ⟨w1, e1⟩ : ∃ w1, w.alloc (.cells #[vc, va] 42) = w1 := ⟨_, rfl⟩
  obtain ⟨w2, e2⟩ : ∃ w2, w1.alloc (.map #[] 0) = w2 := ⟨_, rfl⟩
  obtain ⟨w3, e3⟩ : ∃ w3, w2.alloc (.map #[] 0) = w3 := ⟨_, rfl⟩
  obtain ⟨w4, e4⟩ : ∃ w4, w3.alloc (.map #[] 0) = w4 := ⟨_, rfl⟩
  obtain ⟨w5, e5⟩ : ∃ w5, w4.alloc (.cells #[.map (some (w.heap.size + 1)), .map (some (w.heap.size + 1 + 1)), .map (some (w.heap.size + 1 + 1 + 1))] 160) = w5 := ⟨_, rfl⟩
  obtain ⟨w6, e6⟩ : ∃ w6, w5.alloc (.cells #[.pointer none] 121) = w6 := ⟨_, rfl⟩
  have s1 : w1.heap.size = w.heap.size + 1 := by rw [← e1]; simp
  have s2 : w2.heap.size = w.heap.size + 2 := by rw [← e2]; simp [s1]
  have s3 : w3.heap.size = w.heap.size + 3 := by rw [← e3]; simp [s2]
  have s4 : w4.heap.size = w.heap.size + 4 := by rw [← e4]; simp [s3]
  have s5 : w5.heap.size = w.heap.size + 5 := by rw [← e5]; simp [s4]
  have s6 : w6.heap.size = w.heap.size + 6 := by rw [← e6]; simp [s5]
  have f01 : Fr (fun _ => False) w w1 := by rw [← e1]; exact (Fr.refl _ _).alloc _
  have f12 : Fr (fun _ => False) w1 w2 := by rw [← e2]; exact (Fr.refl _ _).alloc _
  have f23 : Fr (fun _ => False) w2 w3 := by rw [← e3]; exact (Fr.refl _ _).alloc _
  have f34 : Fr (fun _ => False) w3 w4 := by rw [← e4]; exact (Fr.refl _ _).alloc _
  have f45 : Fr (fun _ => False) w4 w5 := by rw [← e5]; exact (Fr.refl _ _).alloc _
  have f56 : Fr (fun _ => False) w5 w6 := by rw [← e6]; exact (Fr.refl _ _).alloc _
  rw [e1, e2, e3, e4, e5, e6]
  have f67 : Fr (fun k => k = w.heap.size + 5) w6 (w6.setRow (w.heap.size + 1 + 1 + 1 + 1 + 1) #[.pointer (some ⟨w.heap.size + 1 + 1 + 1 + 1, 0, none⟩)]) := (Fr.refl _ _).setRow _ _ (fun _ => rfl)
  have tr : ∀ {a b c : World}, Fr (fun _ => False) a b → Fr (fun _ => False) b c → Fr (fun _ => False) a c := fun h k => h.trans k (fun _ _ e => e)
  have f16 := tr (tr (tr (tr f12 f23) f34) f45) f56
  have r1 : rowOf w1 w.heap.size = #[vc, va] ∧ live w1 w.heap.size = true := by rw [← e1]; exact ⟨rowOf_alloc_at _ _ _ _ _ rfl, live_alloc_at _ _ _ _ rfl⟩
  have r5 : rowOf w5 (w.heap.size + 4) = #[.map (some (w.heap.size + 1)), .map (some (w.heap.size + 2)), .map (some (w.heap.size + 3))] ∧ live w5 (w.heap.size + 4) = true := by rw [← e5]; exact ⟨rowOf_alloc_at _ _ _ _ _ s4.symm, live_alloc_at _ _ _ _ s4.symm⟩
  have l6 : live w6 (w.heap.size + 5) = true := by rw [← e6]; exact live_alloc_at _ _ _ _ s5.symm
  have m2 : PlaceAt w2 (w.heap.size + 1) 0 (fun _ => none) := PlaceAt.made _ _ (by rw [← e2, ← s1]; exact (MapKept.heap_alloc _ _).1)
  have m3 : VersAt w3 (w.heap.size + 2) 0 (fun _ => none) (fun _ => []) (fun _ => .slice none 0 0) (w.heap.size + 6) := VersAt.made _ _ _ (by rw [← e3, ← s2]; exact (MapKept.heap_alloc _ _).1)
  have m4 : NextAt w4 (w.heap.size + 3) 0 (fun _ _ => none) := NextAt.made _ _ (by rw [← e4, ← s3]; exact (MapKept.heap_alloc _ _).1)
  refine ⟨(tr f01 f16).trans f67 (fun k hk e => by omega), ?_, ?_, ?_, ?_, ?_, ?_, ?_, ?_, ?_⟩
  · rw [f67.row (by omega) (by omega), f16.row (by omega) (fun e => e)]; exact r1.1
  · rw [f67.liv (by omega) (by omega), f16.liv (by omega) (fun e => e)]; exact r1.2
  · rw [f67.row (by omega) (by omega), f56.row (by omega) (fun e => e)]; exact r5.1
  · rw [f67.liv (by omega) (by omega), f56.liv (by omega) (fun e => e)]; exact r5.2
  · exact rowOf_setRow_same _ _ _ l6
  · rw [live_setRow]; exact l6
  · exact (m2.fr (tr (tr (tr f23 f34) f45) f56) (fun e => e)).fr f67 (by omega)
  · exact (m3.fr (tr (tr f34 f45) f56) (fun e => e) (fun _ _ h => (by cases h))).fr f67 (by omega) (fun _ _ h => (by cases h))
  · exact (m4.fr (tr f45 f56) (fun e => e)).fr f67 (by omega)

end

/-- Who wrote, before the versions are numbered. -/
def nx1 (B : List PAct) (t : Nat) (k : Key) : Option Nat := if t ∈ wrs B k then some 0 else none
theorem wrs_nil : wrs [] = fun _ => [] := rfl
theorem nx1_nil : nx1 [] = fun _ _ => none := by funext t k; simp [nx1, wrs]

/-- A new block with its cells laid. -/
theorem boxed_new (w : World) (z row : Array Value) (t : TypeId) : Fr (fun _ => False) w ((w.alloc (.cells z t)).setRow w.heap.size row) ∧ rowOf ((w.alloc (.cells z t)).setRow w.heap.size row) w.heap.size = row ∧ live ((w.alloc (.cells z t)).setRow w.heap.size row) w.heap.size = true ∧ w.heap.size < ((w.alloc (.cells z t)).setRow w.heap.size row).heap.size := by
  have hl : live (w.alloc (.cells z t)) w.heap.size = true := live_alloc_at _ _ _ _ rfl
  have hl2 : live ((w.alloc (.cells z t)).setRow w.heap.size row) w.heap.size = true := by rw [live_setRow]; exact hl
  exact ⟨((Fr.refl _ w).alloc _).setNew (Nat.le_refl _) _, rowOf_setRow_same _ _ _ hl, hl2, live_lt hl2⟩
theorem plc_mem {C : List Nat} {t : Nat} (h : t ∈ C) : plc C t = some (C.idxOf t) := if_pos h
theorem wrs_skip {A : List PAct} {a : PAct} (h : a.write = false) : wrs (A ++ [a]) = wrs A := by
  funext k; rw [wrs_snoc]; simp [h]
theorem nx1_skip {A : List PAct} {a : PAct} (h : a.write = false) : nx1 (A ++ [a]) = nx1 A := by
  funext t k; unfold nx1; rw [wrs_skip h]

theorem wrs_put (B : List PAct) (t : Nat) (k : Key) (v : Nat) : (fun u => if u = k then wrs B k ++ [t] else wrs B u) = wrs (B ++ [⟨t, true, k, v⟩]) := by
  funext u
  rw [wrs_snoc]
  by_cases e : u = k
  · subst e; simp
  · simp [e, Ne.symm e]
theorem nx1_put (B : List PAct) (t : Nat) (k : Key) (v : Nat) : (fun u l => if u = t ∧ l = k then some 0 else nx1 B u l) = nx1 (B ++ [⟨t, true, k, v⟩]) := by
  funext u l
  unfold nx1
  rw [← wrs_put]
  by_cases e : l = k
  · subst e
    by_cases e2 : u = t
    · subst e2; simp
    · simp [e2]
  · simp [e]
theorem wrs_length (B : List PAct) (k : Key) : (wrs B k).length ≤ B.length := by
  unfold wrs; rw [List.length_map]; exact List.length_filter_le _ _
theorem HistOk.fresh {A : List PAct} {C : List Nat} (h : HistOk A C) {i t v : Nat} {k : Key} (hk : A.take (i + 1) = A.take i ++ [⟨t, true, k, v⟩]) : t ∉ wrs (A.take i) k := fun hm => by
  obtain ⟨a, ha, hw, hi, ht⟩ := mem_wrs.1 hm
  have hp := h.once.sublist (List.take_sublist (i + 1) A)
  rw [hk, List.pairwise_append] at hp
  exact hp.2.2 a ha _ (List.mem_singleton.2 rfl) hw rfl ⟨ht, hi⟩

theorem rowOf_some_lt {w : World} {b : Nat} {v : Value} {vs : List Value} (h : rowOf w b = (v :: vs).toArray) : b < w.heap.size := by
  by_cases e : b < w.heap.size
  · exact e
  · exfalso
    unfold rowOf at h
    rw [Array.getElem?_eq_none (by omega)] at h
    simp at h

theorem plc_nil : plc [] = fun _ => none := by funext t; simp [plc]
theorem plc_step {C : List Nat} {k q : Nat} (hk : k ≤ C.length) (h : q ∉ C.take k) : (fun u => if u = q then some k else plc (C.take k) u) = plc (C.take k ++ [q]) := by
  funext u
  rw [plc_snoc h, List.length_take, Nat.min_eq_left hk]

/-- What sorting by the places does to a slice of transactions. -/
def Sorts77 : Prop := ∀ (w : World) (v : Value) (xs : List Nat) (base bx p bp n : Nat) (pl : Nat → Option Nat) (m2 m3 : Value),
  OwnRows w v 1 (natRows xs) base → xs.length < 2 ^ 41 → (∀ x ∈ xs, x < 2 ^ 40) → rowOf w bx = #[.pointer (some ⟨p, 0, none⟩)] → live w bx = true → rowOf w p = #[.map (some bp), m2, m3] → live w p = true → PlaceAt w bp n pl → v.ownBlock ≠ some bx → v.ownBlock ≠ some p →
  Calls Tryz.prog 77 #[v, .func (.func 78) #[] #[.pointer (some ⟨bx, 0, none⟩)]] w fun e w' => e = .returned (.tuple #[]) ∧ ∃ ys, ys.Perm xs ∧ ys.Pairwise (fun a b => (pl a).getD 0 ≤ (pl b).getD 0) ∧ OwnRows w' v 1 (natRows ys) base ∧ Fr (fun k => v.ownBlock = some k) w w'

/-- Some items (left) are still to be sorted and numbered. -/
noncomputable def vsM (A : List PAct) (C : List Nat) (left : Value → Prop) (k : Key) : List Nat := by
  classical exact if left (strV k) then wrs A k else vers A C k
noncomputable def nxM (A : List PAct) (C : List Nat) (left : Value → Prop) (t : Nat) (k : Key) : Option Nat := by
  classical exact if left (strV k) then nx1 A t k else nxt A C t k

theorem HistOk.vers_nil {A : List PAct} {C : List Nat} {k : Key} (h : wrs A k = []) : vers A C k = [] := by
  refine List.eq_nil_iff_forall_not_mem.2 (fun t ht => ?_)
  have := (mem_vers.1 ht).2
  rw [h] at this; cases this
theorem vsM_all {A : List PAct} {C : List Nat} {left : Value → Prop} (h : ∀ k, ¬ left (strV k) → wrs A k = []) : vsM A C left = wrs A := by
  funext k
  unfold vsM
  split
  · rfl
  · rename_i e; rw [h k e, HistOk.vers_nil (h k e)]
theorem nxM_all {A : List PAct} {C : List Nat} {left : Value → Prop} (h : ∀ k, ¬ left (strV k) → wrs A k = []) : nxM A C left = nx1 A := by
  funext t k
  unfold nxM
  split
  · rfl
  · rename_i e; simp [nx1, nxt, h k e, HistOk.vers_nil (h k e)]
theorem vsM_none {A : List PAct} {C : List Nat} {left : Value → Prop} (h : ∀ v, ¬ left v) : vsM A C left = vers A C := by
  funext k; simp [vsM, h]
theorem nxM_none {A : List PAct} {C : List Nat} {left : Value → Prop} (h : ∀ v, ¬ left v) : nxM A C left = nxt A C := by
  funext t k; simp [nxM, h]
theorem vsM_left {A : List PAct} {C : List Nat} {left : Value → Prop} {k : Key} (h : left (strV k)) : vsM A C left k = wrs A k := by simp [vsM, h]
theorem vsM_done {A : List PAct} {C : List Nat} {left : Value → Prop} {k : Key} : (fun l => if l = k then vers A C k else vsM A C left l) = vsM A C (fun v => left v ∧ v ≠ strV k) := by
  funext l
  by_cases e : l = k
  · subst e; simp [vsM]
  · have : strV l ≠ strV k := fun h => e (strV_inj h)
    simp only [vsM, if_neg e]
    by_cases hl : left (strV l)
    · rw [if_pos hl, if_pos ⟨hl, this⟩]
    · rw [if_neg hl, if_neg (fun h => hl h.1)]
theorem vsM_self {A : List PAct} {C : List Nat} {left : Value → Prop} {k : Key} : vsM A C (fun v => left v ∧ v ≠ strV k) k = vers A C k := by simp [vsM]
/-- The first i writers of item k are numbered. -/
noncomputable def nxI (A : List PAct) (C : List Nat) (left : Value → Prop) (k : Key) (i : Nat) (t : Nat) (l : Key) : Option Nat := by
  classical exact if l = k ∧ t ∈ (vers A C k).take i then nxt A C t l else nxM A C left t l
theorem nxI_zero {A : List PAct} {C : List Nat} {left : Value → Prop} {k : Key} : nxI A C left k 0 = nxM A C left := by
  funext t l; simp [nxI]
theorem nxI_step {A : List PAct} {C : List Nat} (h : HistOk A C) {left : Value → Prop} {k : Key} {i : Nat} (hi : i < (vers A C k).length) : (fun u l => if u = (vers A C k)[i] ∧ l = k then some (i + 1) else nxI A C left k i u l) = nxI A C left k (i + 1) := by
  funext u l
  unfold nxI
  rw [List.take_succ_eq_append_getElem hi]
  by_cases e : l = k
  · subst e
    by_cases e2 : u = (vers A C l)[i]
    · subst e2
      have hm : (vers A C l)[i] ∈ vers A C l := List.getElem_mem hi
      simp only [true_and, and_self, if_true, List.mem_append, List.mem_singleton, or_true]
      rw [nxt, if_pos hm, idxOf_nodup (h.vers_nodup l) hi]
    · simp only [e2, false_and, if_false, true_and, List.mem_append, List.mem_singleton, or_false]
  · simp [e]
theorem nxI_all {A : List PAct} {C : List Nat} (h : HistOk A C) {left : Value → Prop} {k : Key} (hl : left (strV k)) : nxI A C left k (vers A C k).length = nxM A C (fun v => left v ∧ v ≠ strV k) := by
  funext t l
  unfold nxI
  rw [List.take_length]
  by_cases e : l = k
  · subst e
    by_cases e2 : t ∈ vers A C l
    · simp [e2, nxM]
    · have : t ∉ wrs A l := fun hm => e2 (mem_vers.2 ⟨h.wrs_mem hm, hm⟩)
      simp [e2, nxM, hl, nx1, nxt, this]
  · have : strV l ≠ strV k := fun h => e (strV_inj h)
    simp only [e, false_and, if_false, nxM]
    by_cases hl : left (strV l)
    · rw [if_pos hl, if_pos ⟨hl, this⟩]
    · rw [if_neg hl, if_neg (fun h => hl h.1)]

theorem ownV_eq (t : Nat) (k : Key) : ownV t k = .agg #[.int .i64 (t : Nat), .string ⟨k.toArray⟩] := rfl
/-- One item's slice holds another list (of as many). -/
theorem VersAt.same {w w' : World} {b n base : Nat} {f : Value → Option Value} {L : Key → List Nat} {V : Key → Value} (h : VersAt w b n f L V base) {k : Key} {l : List Nat} (hf : Fr (fun i => (V k).ownBlock = some i) w w') (hl : l = [] ↔ L k = []) (ho : OwnRows w' (V k) 1 (natRows l) base) : VersAt w' b n f (fun u => if u = k then l else L u) V base := by
  refine ⟨h.map.fr hf (fun e => (h.own k).ne_map h.map e), fun u hu => ?_, h.all, fun u => ?_, h.inj⟩
  · rw [h.at_ u hu]
    by_cases e : u = k
    · subst e; simp only [if_true, hl]
    · simp only [if_neg e]
  · by_cases e : u = k
    · subst e; simp only [if_true]; exact ho
    · simp only [if_neg e]
      exact (h.own u).keep hf (fun i hi e2 => e (h.inj u k i hi e2))

theorem actRow_size (A : List PAct) : ∀ y ∈ A.map actRow, y.size = 4 := by
  intro y hy
  obtain ⟨a, -, rfl⟩ := List.mem_map.1 hy
  rfl

theorem und160 : ∃ fs, Tryz.prog.underlying 160 = some (.struct fs) := by
  have h : (match Tryz.prog.underlying 160 with | some (.struct _) => true | _ => false) = true := by kernel_rfl
  generalize Tryz.prog.underlying 160 = x at h
  match x, h with
  | some (.struct fs), _ => exact ⟨fs, rfl⟩

section
variable {w : World} {A : List PAct} {C : List Nat} {vc va : Value} {ba bc : Nat}

set_option maxRecDepth 20000 in
set_option maxHeartbeats 4000000 in
theorem read47 (HS : Sorts77) (hA : OwnRows w va 4 (A.map actRow) ba) (hC : OwnRows w vc 1 (natRows C) bc) (hh : HistOk A C) (hB : ActsB A C) :
    Calls Tryz.prog 47 #[.agg #[vc, va]] w fun e w' => ∃ n1 n2 n3 f V, e = .returned (.tuple #[.pointer (some ⟨w.heap.size + 4, 0, none⟩), .bool true]) ∧ n2 ≤ 4096 ∧ RS w w' vc va n1 n2 n3 (plc C) f (vers A C) V (nxt A C) := by
  obtain ⟨aa, ca, rfl⟩ := hA.len
  obtain ⟨ac, cc, rfl⟩ := hC.len
  rw [List.length_map] at hA ⊢
  rw [natRows_length] at hC ⊢
  have HA := Lib.hid hA
  have HC := Lib.hid hC
  have HH := Lib.hid hh
  have HB := Lib.hid hB
  have hla := hB.la
  have hlc := hB.lc
  clear hA hC hh hB
  go_enter Tryz.func47, Tryz.ntmps47
  have hg1 : ¬ ((4096 : Int) < (A.length : Int)) := by omega
  have hg2 : ¬ ((4096 : Int) < (C.length : Int)) := by omega
  obtain ⟨fs160, hu160⟩ := und160
  have hmm := @run_makeMap Tryz.prog
  have h0 := RS.made w (.slice ac C.length cc) (.slice aa A.length ca)
  go_upto_region 4 with fail
  obtain ⟨W, hW⟩ : ∃ W, W = (((((((w.alloc (.cells #[.slice ac C.length cc, .slice aa A.length ca] 42)).alloc (.map #[] 0)).alloc (.map #[] 0)).alloc (.map #[] 0)).alloc (.cells #[.map (some (w.heap.size + 1)), .map (some (w.heap.size + 1 + 1)), .map (some (w.heap.size + 1 + 1 + 1))] 160)).alloc
    (.cells #[.pointer none] 121)).setRow (w.heap.size + 1 + 1 + 1 + 1 + 1) #[.pointer (some ⟨w.heap.size + 1 + 1 + 1 + 1, 0, none⟩)]) := ⟨_, rfl⟩
  rw [← hW] at h0 ⊢
  clear hW
  have r0 := h0.rh
  have H0 := Lib.hid h0
  clear h0
  go_wp2_with fail
  go_loopw [42] (fun t42 wr => ∃ k : Nat, t42 = .int .i64 (k : Nat) ∧ k ≤ C.length ∧ RS w wr (.slice ac C.length cc) (.slice aa A.length ca) k 0 0 (plc (C.take k)) (fun _ => none) (fun _ => []) (fun _ => .slice none 0 0) (fun _ _ => none)) (fun t42 _ => C.length - (intOf t42).toNat)
  case atStart => exact ⟨0, rfl, Nat.zero_le _, by rw [List.take_zero, plc_nil]; exact H0.out⟩
  case round =>
    obtain ⟨k, rfl, hk, hR⟩ := hrel
    have rh := hR.rh
    have lh := hR.lh
    have rp := hR.rp
    have rx := hR.rx
    by_cases hlt : k < C.length
    · have htC := HB.out.c C[k] (List.getElem_mem hlt)
      have hnm : C[k] ∉ C.take k := fun hm => by
        obtain ⟨i, hi, e⟩ := List.getElem_of_mem hm
        rw [List.length_take] at hi
        rw [List.getElem_take] at e
        have := (List.getElem_inj (i := i) (j := k) (h₀ := by omega) (h₁ := hlt) HH.out.nd).1 e
        omega
      have hpos := HH.out.pos C[k] (List.getElem_mem hlt)
      have HTK := Lib.hid (List.take_succ_eq_append_getElem hlt)
      obtain ⟨g, hga, hbg, hlg, -, hxc, hsz, hget⟩ := (HC.out.keep hR.fr (fun _ _ e => e)).get (k := k) (by rw [natRows_length]; exact hlt)
      have hrow : (natRows C)[k]'(by rw [natRows_length]; exact hlt) = #[.int .i64 (C[k] : Nat)] := by simp [natRows]
      have c0 : (rowOf wr g)[k]? = some (.int .i64 (C[k] : Nat)) := by have := hget 0 (by omega); rw [hrow] at this; simpa using this
      have hlook := hR.place.look htC
      have hpn : plc (C.take k) C[k] = none := by simp [plc, hnm]
      rw [hpn] at hlook
      obtain ⟨w2, hst, hp2, hf2⟩ := hR.place.store (by simp only [maxLen]; omega) (t := C[k]) (i := k) htC
      have HR2 := Lib.hid (hR.putPlace hf2 hp2)
      have HLT := Lib.hid hlt
      have HNM := Lib.hid hnm
      have HGA := Lib.hid hga
      generalize hq : C[k] = q at *
      have hki : (k : Int) < (C.length : Int) := by omega
      have hq1 : ¬ ((q : Int) < 1) := by omega
      simp only [Option.getD_none, Option.isSome_none] at hlook
      clear hget hrow hR hp2 hf2 hnm hpn
      go_wp2_with fail
      go_roundw
      case rel =>
        refine ⟨k + 1, by go_num, by have := HLT.out; omega, ?_⟩
        rw [HTK.out, ← plc_step hk HNM.out]
        exact HR2.out
      case measure => (have := HLT.out; simp only [intOf]; omega)
    · obtain rfl : k = C.length := by omega
      rw [List.take_length] at hR
      have HR1 := Lib.hid hR
      clear hR H0 r0
      go_wp2_with fail
      go_loopw [71] (fun t71 wr => ∃ (k n2 n3 : Nat) (f : Value → Option Value) (V : Key → Value), t71 = .int .i64 (k : Nat) ∧ k ≤ A.length ∧ n2 ≤ k ∧ n3 ≤ k ∧ RS w wr (.slice ac C.length cc) (.slice aa A.length ca) C.length n2 n3 (plc C) f (wrs (A.take k)) V (nx1 (A.take k))) (fun t71 _ => A.length - (intOf t71).toNat)
      case atStart => exact ⟨0, 0, 0, _, _, rfl, Nat.zero_le _, Nat.le_refl _, Nat.le_refl _, by rw [List.take_zero, nx1_nil, wrs_nil]; exact HR1.out⟩
      case round =>
        obtain ⟨k, n2, n3, f, V, rfl, hk, hn2, hn3, hR⟩ := hrel
        have rh := hR.rh
        have lh := hR.lh
        have rp := hR.rp
        have rx := hR.rx
        have hlw := hR.lt
        by_cases hlt : k < A.length
        · obtain ⟨g, rfl, hbg, hlg, -, hxc, hsz, hget⟩ := (HA.out.keep hR.fr (fun _ _ e => e)).get (k := k) (by rw [List.length_map]; exact hlt)
          have hrow : (A.map actRow)[k]'(by rw [List.length_map]; exact hlt) = actRow A[k] := by simp
          have HM := Lib.hid (List.getElem_mem hlt)
          have HTK := Lib.hid (List.take_succ_eq_append_getElem hlt)
          have HLT := Lib.hid hlt
          generalize hq : A[k] = a at HM HTK hrow
          obtain ⟨hav, hai⟩ := HB.out.a a HM.out
          have hat := HH.out.txn a HM.out
          have hat40 := HB.out.c _ hat
          obtain ⟨atx, awr, ait, avr⟩ := a
          simp only [actRow] at hrow hav hai hat hat40
          have c0 : (rowOf wr g)[k * 4]? = some (.int .i64 (atx : Nat)) := by have := hget 0 (by omega); rw [hrow] at this; simpa using this
          have c1 : (rowOf wr g)[k * 4 + 1]? = some (.bool awr) := by have := hget 1 (by omega); rw [hrow] at this; simpa using this
          have c2 : (rowOf wr g)[k * 4 + 2]? = some (.string ⟨ait.toArray⟩) := by have := hget 2 (by omega); rw [hrow] at this; simpa using this
          have c3 : (rowOf wr g)[k * 4 + 3]? = some (.int .i64 (avr : Nat)) := by have := hget 3 (by omega); rw [hrow] at this; simpa using this
          have hki : (k : Int) < (A.length : Int) := by omega
          have HR := Lib.hid hR
          clear hget hrow hR hq
          go_upto_region 15 with fail
          obtain ⟨hBf, hBr, hBl, hBlt⟩ := boxed_new wr #[.int .i64 0, .bool false, .string ⟨#[]⟩, .int .i64 0] #[.int .i64 (atx : Nat), .bool awr, .string ⟨ait.toArray⟩, .int .i64 (avr : Nat)] 69
          generalize (wr.alloc (.cells #[.int .i64 0, .bool false, .string ⟨#[]⟩, .int .i64 0] 69)).setRow wr.heap.size #[.int .i64 (atx : Nat), .bool awr, .string ⟨ait.toArray⟩, .int .i64 (avr : Nat)] = WB at hBf hBr hBl hBlt ⊢
          have hRB := HR.out.fr0 hBf
          have rpB := hRB.rp
          have rxB := hRB.rx
          have hlook := (hRB.fr0 (Fr.refl _ _).drew).place.look hat40
          rw [plc_mem hat] at hlook
          simp only [Option.getD_some, Option.isSome_some] at hlook
          have HRB := Lib.hid hRB
          clear rh rp rx hRB hat c0 c1 c2 c3
          -- L2 BEGIN
          cases awr with
          | false =>
            go_wp2_with fail
            go_region
            all_goals
              go_wp2_with fail
              go_roundw
              case rel =>
                refine ⟨k + 1, n2, n3, f, V, by go_num, by have := HLT.out; omega, by omega, by omega, ?_⟩
                rw [HTK.out, wrs_skip rfl, nx1_skip rfl]
                exact HRB.out.fr0 (Fr.refl _ _).drew
              case measure => (have := HLT.out; simp only [intOf]; omega)
          | true =>
            have hav0 : avr = 0 := HH.out.w0 _ HM.out rfl
            subst hav0
            go_wp2_with fail
            go_region
            all_goals
              go_upto_region 20 with fail
              obtain ⟨hDf, hDr, hDl, hDlt⟩ := boxed_new WB #[.int .i64 0, .string ⟨#[]⟩] #[.int .i64 (atx : Nat), .string ⟨ait.toArray⟩] 163
              have hDf := hDf.drew
              rw [← rowOf_drew] at hDr
              rw [← live_drew] at hDl
              replace hDlt := live_lt hDl
              generalize ((WB.alloc (.cells #[.int .i64 0, .string ⟨#[]⟩] 163)).setRow WB.heap.size #[.int .i64 (atx : Nat), .string ⟨ait.toArray⟩]).drew = WD at hDf hDr hDl hDlt ⊢
              have hRD := HRB.out.fr0 hDf
              have hBrD := (hDf.row hBlt (fun e => e)).trans hBr
              have hBlD := (hDf.liv hBlt (fun e => e)).trans hBl
              have rpD := hRD.rp
              have rxD := hRD.rx
              have hfr := HH.out.fresh HTK.out
              have hnx : nx1 (A.take k) atx ait = none := if_neg hfr
              have hlook2 := (hRD.fr0 (Fr.refl _ _).drew).next.look hat40 hai
              rw [hnx] at hlook2
              obtain ⟨w3, hst2, hp3, hf3⟩ := (hRD.fr0 ((Fr.refl _ _).drew.drew)).next.store (by simp only [maxLen]; omega) (i := 0) hat40 hai
              have HR3 := Lib.hid ((hRD.fr0 ((Fr.refl _ _).drew.drew)).putNext hf3 hp3)
              simp only [Option.getD_none, Option.isSome_none, ownV] at hlook2 hst2
              rw [show ((0 : Nat) : Int) = 0 from rfl] at hlook2 hst2
              have HF3 := Lib.hid hf3
              clear hRD hp3 hf3 hnx hfr hlook hBf hBr hBl
              go_wp2_with fail
              go_region
              all_goals
                go_wp2_with fail
                go_region
                all_goals
                  have rp3 := HR3.out.rp
                  have rx3 := HR3.out.rx
                  have hn3B : wr.heap.size ≠ w.heap.size + 3 := by omega
                  have hBr3 := (HF3.out.row (g := wr.heap.size) (live_lt hBlD) hn3B).trans hBrD
                  have hlt3 := HR3.out.lt
                  have hlt34 : w.heap.size + 4 < w3.heap.size := by omega
                  have hBlt3 : wr.heap.size < w3.heap.size := by have := HF3.out.size; have := live_lt hBlD; simp at *; omega
                  go_upto_region 24 with fail
                  have HNB : Hid (∀ i, (V ait).ownBlock = some i → i ≠ wr.heap.size) := Lib.hid (fun i hi e => by have := ((HR.out.vers.own ait).lt hi).2; omega)
                  have hwl := wrs_length (A.take k) ait
                  rw [List.length_take] at hwl
                  have hvl3 := (HR3.out.vers.fr (w' := w3.drew) ((Fr.refl (fun _ => False) _).drew) (fun e => e) (fun _ _ _ e => e)).look1 hai
                  have hvl3' := (HR3.out.vers.fr (w' := (w3.alloc (.cells #[.int .i64 (atx : Nat)] 3)).drew) (((Fr.refl (fun _ => False) w3).alloc _).drew) (fun e => e) (fun _ _ _ e => e)).look1 hai
                  unfold strV at hvl3 hvl3'
                  clear hlook2 hst2 hBrD rpD rxD hDr
                  have hSS : Hid (rowOf w3 (w.heap.size + 5) = #[.pointer (some ⟨w.heap.size + 4, 0, none⟩)] ∧ rowOf w3 (w.heap.size + 4) = #[.map (some (w.heap.size + 1)), .map (some (w.heap.size + 2)), .map (some (w.heap.size + 3))] ∧ rowOf w3 wr.heap.size = #[.int .i64 (atx : Nat), .bool true, .string ⟨ait.toArray⟩, .int .i64 ((0 : Nat) : Int)]) := Lib.hid ⟨rx3, rp3, hBr3⟩
                  have HST : Hid (∀ (Wa Wb : World) {F : Nat → Prop}, (rowOf Wa (w.heap.size + 5) = #[.pointer (some ⟨w.heap.size + 4, 0, none⟩)] ∧ rowOf Wa (w.heap.size + 4) = #[.map (some (w.heap.size + 1)), .map (some (w.heap.size + 2)), .map (some (w.heap.size + 3))] ∧ rowOf Wa wr.heap.size = #[.int .i64 (atx : Nat), .bool true, .string ⟨ait.toArray⟩, .int .i64 ((0 : Nat) : Int)]) → Fr F Wa Wb → (¬ F (w.heap.size + 5) ∧ ¬ F (w.heap.size + 4) ∧ ¬ F wr.heap.size) → (rowOf Wb (w.heap.size + 5) = #[.pointer (some ⟨w.heap.size + 4, 0, none⟩)] ∧ rowOf Wb (w.heap.size + 4) = #[.map (some (w.heap.size + 1)), .map (some (w.heap.size + 2)), .map (some (w.heap.size + 3))] ∧ rowOf Wb wr.heap.size = #[.int .i64 (atx : Nat), .bool true, .string ⟨ait.toArray⟩, .int .i64 ((0 : Nat) : Int)])) := Lib.hid (fun Wa Wb F h f hF => ⟨(f.row (rowOf_some_lt h.1) hF.1).trans h.1, (f.row (rowOf_some_lt h.2.1) hF.2.1).trans h.2.1, (f.row (rowOf_some_lt h.2.2) hF.2.2).trans h.2.2⟩)
                  have HS0 := Lib.hid (fun (W' : World) (hfW : Fr (fun _ => False) w3 W') => HST.out w3 W' hSS.out hfW ⟨fun e => e, fun e => e, fun e => e⟩)
                  have HNV : Hid (¬ (V ait).ownBlock = some (w.heap.size + 5) ∧ ¬ (V ait).ownBlock = some (w.heap.size + 4) ∧ ¬ (V ait).ownBlock = some wr.heap.size) := Lib.hid ⟨fun e => by have := ((HR3.out.vers.own ait).lt e).1; omega, fun e => by have := ((HR3.out.vers.own ait).lt e).1; omega, fun e => HNB.out _ e rfl⟩
                  refine wp_region_noPanic ?_
                  refine wp_region_held_drew (S := (fun w' => rowOf w' (w.heap.size + 5) = #[.pointer (some ⟨w.heap.size + 4, 0, none⟩)] ∧ rowOf w' (w.heap.size + 4) = #[.map (some (w.heap.size + 1)), .map (some (w.heap.size + 2)), .map (some (w.heap.size + 3))] ∧ rowOf w' wr.heap.size = #[.int .i64 (atx : Nat), .bool true, .string ⟨ait.toArray⟩, .int .i64 ((0 : Nat) : Int)])) (by kernel_rfl) ?_ (fun hHeld => ?_)
                  · (try dsimp only)
                    (first | assumption | exact HS0.out _ ((Fr.refl (fun _ => False) w3).drew) | exact HS0.out _ (((Fr.refl (fun _ => False) w3).alloc _).drew) | exact HS4.out | exact HS5.out)
                  refine wpAnyH_take (i := 0) (oi := _) (v := ?_) rfl (by kernel_rfl) (by kernel_rfl) (by kernel_rfl) (fun _ _ _ h => h) (Or.inl ⟨by rfl, ?_⟩) (by assumption) ?_
                  rotate_left
                  · intro W hSw
                    (try dsimp only at hSw)
                    go_simp
                    try with_reducible rfl
                  try simp only [Act.put, List.setIfInBounds_toArray]
                  refine wpAnyH_take (i := 1) (oi := _) (v := ?_) rfl (by kernel_rfl) (by kernel_rfl) (by kernel_rfl) (fun _ _ _ h => h) (Or.inl ⟨by rfl, ?_⟩) (by assumption) ?_
                  rotate_left
                  · intro W hSw
                    (try dsimp only at hSw)
                    go_simp
                    try with_reducible rfl
                  try simp only [Act.put]
                  refine wpAnyH_take (i := 2) (oi := _) (v := ?_) rfl (by kernel_rfl) (by kernel_rfl) (by kernel_rfl) (fun _ _ _ h => h) (Or.inl ⟨by rfl, ?_⟩) (by assumption) ?_
                  rotate_left
                  · intro W hSw
                    (try dsimp only at hSw)
                    go_simp
                    try with_reducible rfl
                  try simp only [Act.put]
                  refine wpAnyH_take (i := 3) (oi := _) (v := ?_) rfl (by kernel_rfl) (by kernel_rfl) (by kernel_rfl) (fun _ _ _ h => h) (Or.inl ⟨by rfl, ?_⟩) (by assumption) ?_
                  rotate_left
                  · intro W hSw
                    (try dsimp only at hSw)
                    go_simp
                    try with_reducible rfl
                  try simp only [Act.put]
                  refine wpAnyH_take (i := 4) (oi := _) (v := ?_) rfl (by kernel_rfl) (by kernel_rfl) (by kernel_rfl) (fun _ _ _ h => h) (Or.inl ⟨by rfl, ?_⟩) (by assumption) ?_
                  rotate_left
                  · intro W hSw
                    (try dsimp only at hSw)
                    go_simp
                    try with_reducible rfl
                  try simp only [Act.put]
                  refine wpAnyH_take (i := 5) (oi := _) (v := ?_) rfl (by kernel_rfl) (by kernel_rfl) (by kernel_rfl) (fun _ _ _ h => h) (Or.inl ⟨by rfl, ?_⟩) (by assumption) ?_
                  rotate_left
                  · intro W hSw
                    (try dsimp only at hSw)
                    go_simp
                    try with_reducible rfl
                  try simp only [Act.put]
                  refine wpAnyH_take (i := 6) (oi := _) (v := ?_) rfl (by kernel_rfl) (by kernel_rfl) (by kernel_rfl) (fun _ _ _ h => h) (Or.inl ⟨by rfl, ?_⟩) (by assumption) ?_
                  rotate_left
                  · intro W hSw
                    (try dsimp only at hSw)
                    go_simp
                    try with_reducible rfl
                  try simp only [Act.put]
                  refine wpAnyH_take (i := 7) (oi := _) (v := ?_) rfl (by kernel_rfl) (by kernel_rfl) (by kernel_rfl) (fun _ _ _ h => h) (Or.inl ⟨by rfl, ?_⟩) (by assumption) ?_
                  rotate_left
                  · intro W hSw
                    (try dsimp only at hSw)
                    go_simp
                    try with_reducible rfl
                  try simp only [Act.put]
                  refine wpAnyH_take (i := 8) (oi := _) (v := ?_) rfl (by kernel_rfl) (by kernel_rfl) (by kernel_rfl) (fun _ _ _ h => h) (Or.inl ⟨by rfl, ?_⟩) (by assumption) ?_
                  rotate_left
                  · intro W hSw
                    (try dsimp only at hSw)
                    go_simp
                    try with_reducible rfl
                  try simp only [Act.put]
                  refine wpAnyH_take (i := 9) (oi := _) (v := ?_) rfl (by kernel_rfl) (by kernel_rfl) (by kernel_rfl) (fun _ _ _ h => h) (Or.inl ⟨by rfl, ?_⟩) (by assumption) ?_
                  rotate_left
                  · intro W hSw
                    (try dsimp only at hSw)
                    go_simp
                    try with_reducible rfl
                  try simp only [Act.put]
                  refine wpAnyH_take (i := 10) (oi := _) (v := ?_) rfl (by kernel_rfl) (by kernel_rfl) (by kernel_rfl) (fun _ _ _ h => h) (Or.inl ⟨by rfl, ?_⟩) (by assumption) ?_
                  rotate_left
                  · intro W hSw
                    (try dsimp only at hSw)
                    go_simp
                    try with_reducible rfl
                  try simp only [Act.put]
                  refine wpAnyH_take (i := 11) (oi := _) (v := ?_) rfl (by kernel_rfl) (by kernel_rfl) (by kernel_rfl) (fun _ _ _ h => h) (Or.inl ⟨by rfl, ?_⟩) (by assumption) ?_
                  rotate_left
                  · intro W hSw
                    (try dsimp only at hSw)
                    go_simp
                    try with_reducible rfl
                  try simp only [Act.put]
                  refine wpAnyH_take (i := 13) (oi := _) (v := ?_) rfl (by kernel_rfl) (by kernel_rfl) (by kernel_rfl) (fun _ _ _ h => h) (Or.inl ⟨by rfl, ?_⟩) (by assumption) ?_
                  rotate_left
                  · intro W hSw
                    (try dsimp only at hSw)
                    go_simp
                    try with_reducible rfl
                  try simp only [Act.put]
                  refine wpAnyH_take (i := 14) (oi := _) (v := ?_) rfl (by kernel_rfl) (by kernel_rfl) (by kernel_rfl) (fun _ _ _ h => h) (Or.inl ⟨by rfl, ?_⟩) (by assumption) ?_
                  rotate_left
                  · intro W hSw
                    (try dsimp only at hSw)
                    go_simp
                    try with_reducible rfl
                  try simp only [Act.put]
                  refine wpAnyH_ready (rs := [12, 15]) (by kernel_rfl) (by simp) ?_
                  refine AllReadyH.cons rfl (fun K hK => ?_) ?_
                  · skip
                    go_simp
                    refine hK.out _ _ ?_ (fun hHeld => ?_)
                    · (try dsimp only)
                      (first | assumption | exact HS0.out _ ((Fr.refl (fun _ => False) w3).drew) | exact HS0.out _ (((Fr.refl (fun _ => False) w3).alloc _).drew) | exact HS4.out | exact HS5.out)
                    clear hK K
                    refine wpAnyH_ready (rs := [15]) (by kernel_rfl) (by simp) ?_
                    refine AllReadyH.cons rfl (fun K hK => ?_) ?_
                    · skip
                      go_simp
                      refine hK.out _ _ ?_ (fun hHeld => ?_)
                      · (try dsimp only)
                        (first | assumption | exact HS0.out _ ((Fr.refl (fun _ => False) w3).drew) | exact HS0.out _ (((Fr.refl (fun _ => False) w3).alloc _).drew) | exact HS4.out | exact HS5.out)
                      clear hK K
                      refine wpAnyH_ready (rs := [16]) (by kernel_rfl) (by simp) ?_
                      refine AllReadyH.cons rfl (fun K hK => ?_) ?_
                      · skip
                        refine step_append_one (o := ⟨some 135, _, _, _, _, _⟩) rfl (.tmp 131) (.tmp 134) 32 rfl 3 _ 1 8 Tryz.underlying32 ti3 (V ait) (natRows (wrs (A.take k) ait)) (w.heap.size + 6) rfl ((HR3.out.vers.own ait).keep (((Fr.refl (fun _ => False) w3).alloc _).drew) (fun _ _ h => h)) (by simp; omega) w3.heap.size 1 rfl #[.int .i64 (atx : Nat)] (by simp [go_sem]) (by simp [go_sem]; rfl) (by intro z hz; simp at hz; rcases hz with rfl; rfl) (natRows_size _) (by rw [natRows_length]; simp only [maxLen]; omega) (fitsN (by rw [natRows_length]; omega) (by omega)) ?_
                        intro g' cap' w4 ho4 f4 hn4
                        rw [natRows_length] at ho4 ⊢
                        have f34 : Fr (fun i => (V ait).ownBlock = some i) w3 w4 := ((((Fr.refl (fun _ => False) w3).alloc _).drew).mono (fun _ _ e => e.elim)).trans f4 (fun _ _ e => e)
                        have hnv : ∀ i, i < w.heap.size + 6 → ¬ (V ait).ownBlock = some i := (fun i hi e => by have := ((HR3.out.vers.own ait).lt e).1; omega)
                        have hs4 : w3.heap.size ≤ w4.heap.size := f34.size
                        obtain ⟨w5, f5, hst4, hv5, hf5⟩ := HR3.out.vers.turn f34 (hnv _ (by omega)) (fun i e => e) (by simp only [maxLen]; omega) hai (l := wrs (A.take k) ait ++ [atx]) (by simp) (by rw [natRows_snoc]; exact ho4) (fun i hi => by simp only [Value.ownBlock, Option.some.injEq] at hi; subst hi; exact hn4.elim .inl (fun e => .inr (by simp at e; omega)))
                        have HS4 := Lib.hid (HST.out w3 _ hSS.out f34 HNV.out)
                        have HS5 := Lib.hid (HST.out w4 _ HS4.out hf5 (by omega))
                        have HV5 := Lib.hid hv5
                        have HF5 := Lib.hid hf5
                        have HF4 := Lib.hid f34
                        unfold strV at hst4
                        clear hv5 hf5 f34 ho4 f4 hn4 hnv
                        refine hK.out _ _ ?_ (fun hHeld => ?_)
                        · (try dsimp only)
                          (first | assumption | exact HS0.out _ ((Fr.refl (fun _ => False) w3).drew) | exact HS0.out _ (((Fr.refl (fun _ => False) w3).alloc _).drew) | exact HS4.out | exact HS5.out)
                        clear hK K
                        refine wpAnyH_ready (rs := [17]) (by kernel_rfl) (by simp) ?_
                        refine AllReadyH.cons rfl (fun K hK => ?_) ?_
                        · skip
                          go_simp
                          refine hK.out _ _ ?_ (fun hHeld => ?_)
                          · (try dsimp only)
                            (first | assumption | exact HS0.out _ ((Fr.refl (fun _ => False) w3).drew) | exact HS0.out _ (((Fr.refl (fun _ => False) w3).alloc _).drew) | exact HS4.out | exact HS5.out)
                          clear hK K
                          refine wpAnyH_done (by kernel_rfl) ?_ _
                          refine NoPanic.normal ?_
                          go_wp2
                          have f35 : Fr (fun i => (V ait).ownBlock = some i ∨ i = w.heap.size + 2) w3 w5 := (HF4.out.mono (G := fun i => (V ait).ownBlock = some i ∨ i = w.heap.size + 2) (fun _ _ e => .inl e)).trans HF5.out (fun _ _ e => .inr e)
                          have hbase : ∀ i, (V ait).ownBlock = some i → w.heap.size + 6 ≤ i := fun i e => ((HR3.out.vers.own ait).lt e).1
                          have h5 := HR3.out.turn f35 (fun i e => e.elim (fun e => .inr (.inr (.inr (hbase i e)))) (fun e => .inr (.inl e))) (HR3.out.place.fr f35 (fun e => e.elim (fun e => by have := hbase _ e; omega) (fun e => by omega))) HV5.out (HR3.out.next.fr f35 (fun e => e.elim (fun e => by have := hbase _ e; omega) (fun e => by omega)))
                          rw [wrs_put (A.take k) atx ait 0, nx1_put (A.take k) atx ait 0, ← HTK.out] at h5
                          go_roundw
                          case rel => exact ⟨k + 1, n2 + 1, n3 + 1, _, _, by go_num, by have := HLT.out; omega, by omega, by omega, h5⟩
                          case measure => (have := HLT.out; simp only [intOf]; omega)
                        exact AllReadyH.nil
                      exact AllReadyH.nil
                    exact AllReadyH.nil
                  refine AllReadyH.cons rfl (fun K hK => ?_) ?_
                  · skip
                    go_simp
                    refine hK.out _ _ ?_ (fun hHeld => ?_)
                    · (try dsimp only)
                      (first | assumption | exact HS0.out _ ((Fr.refl (fun _ => False) w3).drew) | exact HS0.out _ (((Fr.refl (fun _ => False) w3).alloc _).drew) | exact HS4.out | exact HS5.out)
                    clear hK K
                    refine wpAnyH_ready (rs := [12]) (by kernel_rfl) (by simp) ?_
                    refine AllReadyH.cons rfl (fun K hK => ?_) ?_
                    · skip
                      go_simp
                      refine hK.out _ _ ?_ (fun hHeld => ?_)
                      · (try dsimp only)
                        (first | assumption | exact HS0.out _ ((Fr.refl (fun _ => False) w3).drew) | exact HS0.out _ (((Fr.refl (fun _ => False) w3).alloc _).drew) | exact HS4.out | exact HS5.out)
                      clear hK K
                      refine wpAnyH_ready (rs := [16]) (by kernel_rfl) (by simp) ?_
                      refine AllReadyH.cons rfl (fun K hK => ?_) ?_
                      · skip
                        refine step_append_one (o := ⟨some 135, _, _, _, _, _⟩) rfl (.tmp 131) (.tmp 134) 32 rfl 3 _ 1 8 Tryz.underlying32 ti3 (V ait) (natRows (wrs (A.take k) ait)) (w.heap.size + 6) rfl ((HR3.out.vers.own ait).keep (((Fr.refl (fun _ => False) w3).alloc _).drew) (fun _ _ h => h)) (by simp; omega) w3.heap.size 1 rfl #[.int .i64 (atx : Nat)] (by simp [go_sem]) (by simp [go_sem]; rfl) (by intro z hz; simp at hz; rcases hz with rfl; rfl) (natRows_size _) (by rw [natRows_length]; simp only [maxLen]; omega) (fitsN (by rw [natRows_length]; omega) (by omega)) ?_
                        intro g' cap' w4 ho4 f4 hn4
                        rw [natRows_length] at ho4 ⊢
                        have f34 : Fr (fun i => (V ait).ownBlock = some i) w3 w4 := ((((Fr.refl (fun _ => False) w3).alloc _).drew).mono (fun _ _ e => e.elim)).trans f4 (fun _ _ e => e)
                        have hnv : ∀ i, i < w.heap.size + 6 → ¬ (V ait).ownBlock = some i := (fun i hi e => by have := ((HR3.out.vers.own ait).lt e).1; omega)
                        have hs4 : w3.heap.size ≤ w4.heap.size := f34.size
                        obtain ⟨w5, f5, hst4, hv5, hf5⟩ := HR3.out.vers.turn f34 (hnv _ (by omega)) (fun i e => e) (by simp only [maxLen]; omega) hai (l := wrs (A.take k) ait ++ [atx]) (by simp) (by rw [natRows_snoc]; exact ho4) (fun i hi => by simp only [Value.ownBlock, Option.some.injEq] at hi; subst hi; exact hn4.elim .inl (fun e => .inr (by simp at e; omega)))
                        have HS4 := Lib.hid (HST.out w3 _ hSS.out f34 HNV.out)
                        have HS5 := Lib.hid (HST.out w4 _ HS4.out hf5 (by omega))
                        have HV5 := Lib.hid hv5
                        have HF5 := Lib.hid hf5
                        have HF4 := Lib.hid f34
                        unfold strV at hst4
                        clear hv5 hf5 f34 ho4 f4 hn4 hnv
                        refine hK.out _ _ ?_ (fun hHeld => ?_)
                        · (try dsimp only)
                          (first | assumption | exact HS0.out _ ((Fr.refl (fun _ => False) w3).drew) | exact HS0.out _ (((Fr.refl (fun _ => False) w3).alloc _).drew) | exact HS4.out | exact HS5.out)
                        clear hK K
                        refine wpAnyH_ready (rs := [17]) (by kernel_rfl) (by simp) ?_
                        refine AllReadyH.cons rfl (fun K hK => ?_) ?_
                        · skip
                          go_simp
                          refine hK.out _ _ ?_ (fun hHeld => ?_)
                          · (try dsimp only)
                            (first | assumption | exact HS0.out _ ((Fr.refl (fun _ => False) w3).drew) | exact HS0.out _ (((Fr.refl (fun _ => False) w3).alloc _).drew) | exact HS4.out | exact HS5.out)
                          clear hK K
                          refine wpAnyH_done (by kernel_rfl) ?_ _
                          refine NoPanic.normal ?_
                          go_wp2
                          have f35 : Fr (fun i => (V ait).ownBlock = some i ∨ i = w.heap.size + 2) w3 w5 := (HF4.out.mono (G := fun i => (V ait).ownBlock = some i ∨ i = w.heap.size + 2) (fun _ _ e => .inl e)).trans HF5.out (fun _ _ e => .inr e)
                          have hbase : ∀ i, (V ait).ownBlock = some i → w.heap.size + 6 ≤ i := fun i e => ((HR3.out.vers.own ait).lt e).1
                          have h5 := HR3.out.turn f35 (fun i e => e.elim (fun e => .inr (.inr (.inr (hbase i e)))) (fun e => .inr (.inl e))) (HR3.out.place.fr f35 (fun e => e.elim (fun e => by have := hbase _ e; omega) (fun e => by omega))) HV5.out (HR3.out.next.fr f35 (fun e => e.elim (fun e => by have := hbase _ e; omega) (fun e => by omega)))
                          rw [wrs_put (A.take k) atx ait 0, nx1_put (A.take k) atx ait 0, ← HTK.out] at h5
                          go_roundw
                          case rel => exact ⟨k + 1, n2 + 1, n3 + 1, _, _, by go_num, by have := HLT.out; omega, by omega, by omega, h5⟩
                          case measure => (have := HLT.out; simp only [intOf]; omega)
                        exact AllReadyH.nil
                      exact AllReadyH.nil
                    exact AllReadyH.nil
                  exact AllReadyH.nil
          -- L2 END
        · obtain rfl : k = A.length := by omega
          rw [List.take_length] at hR
          have HR2 := Lib.hid hR
          have hn2' := hn2
          have hn3' := hn3
          clear hR HR1
          have rpR := HR2.out.rp
          have rxR := HR2.out.rx
          go_wp2_with (at_range; refine wpList_rangeF _ rfl _ 157 rfl law9 Tryz.underlying157 HR2.out.vers.map rfl ?_; intro w0 cnt0 hrg0 hcn0 hf0 hs0)
          go_frame
          have hr0 := HR2.out.fr0 hf0
          obtain ⟨rr, hrr⟩ : ∃ rr, wr.heap.size = rr := ⟨_, rfl⟩
          rw [hrr] at hrg0 hs0 ⊢
          have HRL := Lib.hid (⟨by have := HR2.out.lt; omega, fun k i hi => by have := ((HR2.out.vers.own k).lt hi).2; omega⟩ : w.heap.size + 5 < rr ∧ ∀ k i, (V k).ownBlock = some i → i < rr)
          go_loopw [142] (fun _ wr => ∃ (left : Value → Prop) (cnt n3 : Nat), RangeF wr 9 (w.heap.size + 2) rr n2 f left cnt ∧ n3 + 4096 * cnt ≤ 33554432 ∧ (∀ v, left v → (f v).isSome = true) ∧ RS w wr (.slice ac C.length cc) (.slice aa A.length ca) C.length n2 n3 (plc C) f (vsM A C left) V (nxM A C left)) (fun _ wr => wr.rangeLeft (w.heap.size + 2) rr)
          case atStart =>
            have hnl : ∀ k, ¬ (f (strV k)).isSome = true → wrs A k = [] := fun k hk => by
              by_cases hkl : k.length < 2 ^ 32
              · have := hr0.vers.at_ k hkl
                by_cases e : wrs A k = []
                · exact e
                · rw [if_neg e] at this; rw [this] at hk; exact absurd rfl hk
              · refine List.eq_nil_iff_forall_not_mem.2 (fun t ht => ?_)
                obtain ⟨a, ha, -, rfl, -⟩ := mem_wrs.1 ht
                exact hkl (HB.out.a a ha).2
            refine ⟨_, cnt0, n3, hrg0, by omega, fun _ h => h, ?_⟩
            rw [vsM_all hnl, nxM_all hnl]
            exact hr0
          case round =>
            obtain ⟨left, cnt, n3, hrg, hcn, hle, hR⟩ := hrel
            have HRG := Lib.hid hrg
            have HLE := Lib.hid hle
            have HR := Lib.hid hR
            clear hle hR HR2 rpR rxR hr0 hf0 hrg0
            go_wp2_with (at_next; refine wpList_nextF _ rfl _ rfl law9 rr rfl hrg ?_ ?_)
            · intro hc0 hl0
              clear hrg
              have hR := HR.out
              rw [vsM_none hl0, nxM_none hl0] at hR
              have HR3 := Lib.hid hR
              have rh3 := hR.rh
              clear hR HR HLE
              go_wp2_with fail
              go_loopw [170] (fun t170 wr => ∃ k : Nat, t170 = .int .i64 (k : Nat) ∧ k ≤ A.length ∧ RS w wr (.slice ac C.length cc) (.slice aa A.length ca) C.length n2 n3 (plc C) f (vers A C) V (nxt A C)) (fun t170 _ => A.length - (intOf t170).toNat)
              case atStart => exact ⟨0, rfl, Nat.zero_le _, HR3.out⟩
              case round =>
                obtain ⟨k, rfl, hk, hR⟩ := hrel
                have rpR := hR.rp
                have rxR := hR.rx
                have hlw := hR.lt
                by_cases hlt : k < A.length
                · obtain ⟨g, rfl, hbg, hlg, -, hxc, hsz, hget⟩ := (HA.out.keep hR.fr (fun _ _ e => e)).get (k := k) (by rw [List.length_map]; exact hlt)
                  have hrow : (A.map actRow)[k]'(by rw [List.length_map]; exact hlt) = actRow A[k] := by simp
                  have HM := Lib.hid (List.getElem_mem hlt)
                  have HLT := Lib.hid hlt
                  generalize hq : A[k] = a at HM hrow
                  obtain ⟨hav, hai⟩ := HB.out.a a HM.out
                  obtain ⟨atx, awr, ait, avr⟩ := a
                  simp only [actRow] at hrow hav hai
                  have c0 : (rowOf wr g)[k * 4]? = some (.int .i64 (atx : Nat)) := by have := hget 0 (by omega); rw [hrow] at this; simpa using this
                  have c1 : (rowOf wr g)[k * 4 + 1]? = some (.bool awr) := by have := hget 1 (by omega); rw [hrow] at this; simpa using this
                  have c2 : (rowOf wr g)[k * 4 + 2]? = some (.string ⟨ait.toArray⟩) := by have := hget 2 (by omega); rw [hrow] at this; simpa using this
                  have c3 : (rowOf wr g)[k * 4 + 3]? = some (.int .i64 (avr : Nat)) := by have := hget 3 (by omega); rw [hrow] at this; simpa using this
                  have hki : (k : Int) < (A.length : Int) := by omega
                  have HR := Lib.hid hR
                  clear hget hrow hR hq
                  go_upto_region 38 with fail
                  obtain ⟨hBf, hBr, hBl, hBlt⟩ := boxed_new wr #[.int .i64 0, .bool false, .string ⟨#[]⟩, .int .i64 0] #[.int .i64 (atx : Nat), .bool awr, .string ⟨ait.toArray⟩, .int .i64 (avr : Nat)] 69
                  generalize (wr.alloc (.cells #[.int .i64 0, .bool false, .string ⟨#[]⟩, .int .i64 0] 69)).setRow wr.heap.size #[.int .i64 (atx : Nat), .bool awr, .string ⟨ait.toArray⟩, .int .i64 (avr : Nat)] = WB at hBf hBr hBl hBlt ⊢
                  have hRB := HR.out.fr0 hBf
                  have rpB := hRB.rp
                  have rxB := hRB.rx
                  have hlook := (hRB.fr0 (Fr.refl _ _).drew).next.look hav hai
                  have hvm : awr = false → avr ≠ 0 → (nxt A C avr ait).isSome = true := fun h1 h2 => by
                    obtain ⟨i, hi, -⟩ := nxt_spec (HH.out.ver_mem HM.out h1 h2)
                    show (nxt A C avr ait).isSome = true
                    rw [show nxt A C avr ait = some (i + 1) from hi]; rfl
                  generalize (nxt A C avr ait).isSome = ob at hlook hvm
                  generalize (nxt A C avr ait).getD 0 = on at hlook
                  rw [ownV_eq] at hlook
                  have HRB := Lib.hid hRB
                  clear hRB c0 c1 c2 c3 rpR rxR rh3 hBf hBl
                  have fin : RS w WB.drew (.slice ac C.length cc) (.slice (some ⟨g, 0, none⟩) A.length ca) C.length n2 n3 (plc C) f (vers A C) V (nxt A C) := HRB.out.fr0 (Fr.refl _ _).drew
                  have FIN := Lib.hid fin
                  clear fin
                  cases awr with
                  | true =>
                    clear hvm
                    go_wp2_with fail
                    go_region
                    all_goals
                      go_wp2_with fail
                      go_roundw
                      case rel => exact ⟨k + 1, by go_num, by have := HLT.out; omega, FIN.out⟩
                      case measure => (have := HLT.out; simp only [intOf]; omega)
                  | false =>
                    by_cases hv0 : avr = 0
                    · subst hv0
                      rw [show ((0 : Nat) : Int) = 0 from rfl] at hlook
                      clear hvm
                      go_wp2_with fail
                      go_region
                      all_goals
                        go_wp2_with fail
                        go_roundw
                        case rel => exact ⟨k + 1, by go_num, by have := HLT.out; omega, FIN.out⟩
                        case measure => (have := HLT.out; simp only [intOf]; omega)
                    · have hd : ((avr : Int) == 0) = false := by rw [beq_eq_false_iff_ne]; omega
                      have hd2 : ¬ ((avr : Int) = 0) := by omega
                      obtain rfl : ob = true := hvm rfl hv0
                      clear hvm
                      go_wp2_with fail
                      go_region
                      all_goals
                        go_wp2_with fail
                        go_roundw
                        case rel => exact ⟨k + 1, by go_num, by have := HLT.out; omega, FIN.out⟩
                        case measure => (have := HLT.out; simp only [intOf]; omega)
                · obtain rfl : k = A.length := by omega
                  have FIN := Lib.hid hR
                  clear hR
                  go_wp2_with fail
                  go_ret2
                  exact ⟨_, _, _, _, _, rfl, by omega, FIN.out⟩
            · intro key x kl w1 cnt1 hkey hlk hfx hrg1 hlt hf1 hs1 hen
              obtain ⟨k, rfl, hkl⟩ := HR.out.vers.all _ _ hfx
              have hbase : ∀ l i, (V l).ownBlock = some i → w.heap.size + 6 ≤ i ∧ i < rr := fun l i hi => ⟨((HR.out.vers.own l).lt hi).1, HRL.out.2 l i hi⟩
              have hrr := HRL.out.1
              have hR1 := HR.out.turn hf1 (fun i e => by omega) (HR.out.place.fr hf1 (by omega)) (HR.out.vers.fr hf1 (by omega) (fun l i hi e => by have := hbase l i hi; omega)) (HR.out.next.fr hf1 (by omega))
              have hne : vsM A C left k ≠ [] := fun e => by
                have := HR.out.vers.at_ k hkl
                rw [if_pos e, hfx] at this; cases this
              have hxV : x = V k := by
                have := HR.out.vers.at_ k hkl
                rw [if_neg hne, hfx] at this; exact Option.some.inj this
              have hlk' := hlk
              have hvl := HH.out.vers_perm k
              have hwl := wrs_length A k
              obtain ⟨a, c, hxe⟩ := (hR1.vers.own k).len
              rw [natRows_length, vsM_left hlk, hvl.length_eq] at hxe
              have ho1 := hR1.vers.own k
              rw [vsM_left hlk] at ho1 hne
              have HX := Lib.hid (HS w1 (V k) (wrs A k) (w.heap.size + 6) (w.heap.size + 5) (w.heap.size + 4) (w.heap.size + 1) C.length (plc C) _ _ ho1 (by omega) (fun t ht => HB.out.c t (HH.out.wrs_mem ht)) hR1.rx hR1.lx hR1.rp hR1.lp hR1.place (fun e => by have := hbase k _ e; omega) (fun e => by have := hbase k _ e; omega))
              have HR1 := Lib.hid hR1
              have HRG1 := Lib.hid hrg1
              have HBA := Lib.hid hbase
              have HLK := Lib.hid hlk
              have HNE := Lib.hid hne
              have HF1 := Lib.hid hf1
              have HVL := Lib.hid hvl
              rw [hxV] at hen ⊢
              rw [hxe] at hen HX ⊢
              have HXE := Lib.hid hxe
              simp only [strV] at hen ⊢
              clear hR1 hrg1 hbase hlk hlk' hne hf1 hvl ho1 hxe hxV hfx hkey hs1 hrg HR
              go_wp2_with (go_at_call 77; refine HX.out.mono ?_; rintro e w2 ⟨rfl, ys, hp, hsd, hoy, hf2⟩)
              obtain rfl := HH.out.sorted hp hsd
              rw [← HXE.out] at hf2 hoy
              have hvn : vers A C k ≠ [] := fun e => HNE.out (List.length_eq_zero_iff.1 (by rw [HVL.out.length_eq, e]; rfl))
              have hv2 := HR1.out.vers.same hf2 (l := vers A C k) ⟨fun e => absurd e hvn, fun e => absurd (by rw [vsM_left HLK.out] at e; exact e) HNE.out⟩ hoy
              rw [vsM_done] at hv2
              have hnb : ∀ i, i < w.heap.size + 6 → ¬ (V k).ownBlock = some i := fun i hi e => by have := (HBA.out k i e).1; omega
              have hR2 := HR1.out.turn hf2 (fun i e => .inr (.inr (.inr (HBA.out k i e).1))) (HR1.out.place.fr hf2 (hnb _ (by omega))) hv2 (HR1.out.next.fr hf2 (hnb _ (by omega)))
              have hrg2 := HRG1.out.fr hf2 (hnb _ (by omega)) (fun e => by have := (HBA.out k _ e).2; omega)
              have HR2 := Lib.hid hR2
              have HRG2 := Lib.hid hrg2
              have hlen : (vers A C k).length ≤ 4096 := by have := wrs_length A k; have := HVL.out.length_eq; omega
              clear hp hsd hf2 hoy hvn hv2 hnb hR2 hrg2 HX
              go_wp2_with fail
              go_loopw [152] (fun t152 wr => ∃ (i m3 : Nat), t152 = .int .i64 (i : Nat) ∧ i ≤ (vers A C k).length ∧ m3 ≤ n3 + i ∧ RangeF wr 9 (w.heap.size + 2) rr n2 f (fun v => left v ∧ v ≠ strV k) cnt1 ∧ RS w wr (.slice ac C.length cc) (.slice aa A.length ca) C.length n2 m3 (plc C) f (vsM A C (fun v => left v ∧ v ≠ strV k)) V (nxI A C left k i)) (fun t152 _ => (vers A C k).length - (intOf t152).toNat)
              case atStart => exact ⟨0, n3, rfl, Nat.zero_le _, Nat.le_refl _, HRG2.out, by rw [nxI_zero]; exact HR2.out⟩
              case round =>
                obtain ⟨i, m3, rfl, hi, hm3, hrg, hR⟩ := hrel
                have HRG3 := Lib.hid hrg
                have HR3 := Lib.hid hR
                have rpI := hR.rp
                have rxI := hR.rx
                by_cases hlt2 : i < (vers A C k).length
                · have ho := hR.vers.own k
                  rw [HXE.out, vsM_self] at ho
                  obtain ⟨g, rfl, -, hlg, -, -, hsz, hget⟩ := ho.get (k := i) (by rw [natRows_length]; exact hlt2)
                  have hrow : (natRows (vers A C k))[i]'(by rw [natRows_length]; exact hlt2) = #[.int .i64 ((vers A C k)[i] : Nat)] := by simp [natRows]
                  have c0 : (rowOf wr g)[i]? = some (.int .i64 ((vers A C k)[i] : Nat)) := by have := hget 0 (by omega); rw [hrow] at this; simpa using this
                  have ht40 : (vers A C k)[i] < 2 ^ 40 := HB.out.c _ (mem_vers.1 (List.getElem_mem hlt2)).1
                  obtain ⟨w3, hst, hp3, hf3⟩ := hR.next.store (by simp only [maxLen]; omega) (t := (vers A C k)[i]) (i := i + 1) ht40 hkl
                  have HR4 := Lib.hid (hR.putNext hf3 hp3)
                  have HRG4 := Lib.hid (hrg.fr hf3 (by omega) (by have := HRL.out.1; omega))
                  have HST2 := Lib.hid (nxI_step HH.out (left := left) hlt2)
                  rw [ownV_eq, show ((i + 1 : Nat) : Int) = (i : Int) + 1 from rfl] at hst
                  have hii : (i : Int) < ((vers A C k).length : Int) := by omega
                  have HLT2 := Lib.hid hlt2
                  generalize hq : (vers A C k)[i] = q at *
                  clear hget hrow ho hR hrg hp3 hf3 hq
                  go_wp2_with fail
                  go_roundw
                  case rel => exact ⟨i + 1, m3 + 1, by go_num, by have := HLT2.out; omega, by omega, HRG4.out, by rw [← HST2.out]; exact HR4.out⟩
                  case measure => (have := HLT2.out; simp only [intOf]; omega)
                · obtain rfl : i = (vers A C k).length := by omega
                  rw [nxI_all HH.out HLK.out] at hR
                  have HR5 := Lib.hid hR
                  clear hrg hR
                  go_wp2_with fail
                  go_roundw
                  case rel => exact ⟨_, cnt1, m3, HRG3.out, by omega, fun v hv => HLE.out v hv.1, HR5.out⟩
                  case measure => (rw [HRG3.out.left_eq, HRG.out.left_eq]; exact hlt)

end
end Go.Proofs.YteldfmgjbgedaaaGreat
