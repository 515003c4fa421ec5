/-
  A play and the transactions (plain): the beginning, the end; what a read has seen.
  The dependencies of a play's history are dependencies of its transactions (plain).
  The history of a play is a right one (plain).
-/
import Derived.Test.YteldfmgjbgedaaaGreatRdf
import Derived.Test.YteldfmgjbgedaaaGreatNk
namespace Go.Proofs.YteldfmgjbgedaaaGreat

/-- Nobody yet. -/
def SS.zero : SS := ⟨0, 0, 0, fun _ => ⟨2, 0, 0, 0, 0, false, false, false, fun _ => False, []⟩, fun _ _ => False⟩

theorem Inv.zero : Inv SS.zero where
  st := fun _ => .inr (.inr rfl)
  new := fun _ _ => rfl
  act := fun _ h => by cases h
  com := fun _ h => by cases h
  gone := fun _ _ => rfl
  i1 := fun _ h => by cases h
  i2 := fun _ _ _ h => absurd rfl h.1
  i3 := fun _ _ _ h => absurd rfl h.1
  i4 := fun _ h => by cases h
  i6 := fun _ _ h => by cases h
  t1 := fun _ _ h => by cases h
  t2 := fun _ _ h => by cases h
  te := fun _ _ h => by cases h

theorem Good.init (keys : List Key) (vk : Value) : Good MS.zero ⟨[], [], [], keys, .slice none 0 0, .slice none 0 0, .slice none 0 0, vk⟩ SS.zero where
  tie := {
    now := rfl
    clock := rfl
    last := rfl
    H := fun _ _ h => h.elim
    trk := fun t => ⟨fun h => (by cases h), fun h => (by obtain ⟨r, hr⟩ := h; cases hr)⟩
    tx := fun t r hr => (by cases hr)
    lk := fun s t => ⟨fun h => (by cases h), fun h => (by cases h.1)⟩
    wc := fun t r hr => (by cases hr)
    nt := fun t h => absurd rfl h }
  idle := fun _ _ => rfl
  inv := Inv.zero
  len := rfl
  tx := fun i p h => by simp at h
  opn := fun i p h => by simp at h
  wr := fun i p h => by simp at h
  cov := fun i p h => by simp at h
  rd := fun i p h => by simp at h
  zero := rfl
  ord := fun t => ⟨fun h => (by cases h), fun h => (by cases h)⟩
  ordS := List.Pairwise.nil
  vs := rfl

/-- All over: the manager holds nothing. -/
theorem Good.done {M : MS} {S : PS} {Z : SS} (h : Good M S Z) (hall : ∀ (i : Nat) (p : PT), S.l[i]? = some p → p.over = true) : (∀ t, (Z.L t).st ≠ 0) ∧ (∀ t, M.T t = none) ∧ (∀ s, M.G s = none) ∧ ∀ t, M.N t = none := by
  have h0 : ∀ t, (Z.L t).st ≠ 0 := fun t e => by
    obtain ⟨i, p, rfl, hp⟩ := h.lt (t := t) (by omega)
    have := (h.opn i p hp).2 e
    rw [hall i p hp] at this; cases this
  have hT := h.idle (fun t r hr => by
    cases e : r.2.act with
    | false => rfl
    | true => exact absurd (h.tie.act hr e) (h0 t))
  refine ⟨h0, hT, fun s => ?_, fun t => ?_⟩
  · cases e : M.G s with
    | none => rfl
    | some t => exact absurd ((h.tie.lk s t).1 e).1 (h0 t)
  · cases e : M.N t with
    | none => rfl
    | some L => obtain ⟨r, hr⟩ := h.tie.nt t (by rw [e]; simp); rw [hT] at hr; cases hr

/-- The commits: each once, each by a number. -/
theorem Good.ord_nodup {M : MS} {S : PS} {Z : SS} (h : Good M S Z) : S.ord.Nodup := by
  refine List.Pairwise.imp (fun {a b} hab => ?_) h.ordS
  intro e; rw [e] at hab; omega
theorem Good.ord_pos {M : MS} {S : PS} {Z : SS} (h : Good M S Z) {t : Nat} (ht : t ∈ S.ord) : 1 ≤ t := by
  have h1 := (h.ord t).1 ht
  rcases Nat.eq_zero_or_pos t with e | e
  · rw [e, h.zero] at h1; omega
  · exact e

theorem snocInd {α : Type} {P : List α → Prop} (h0 : P []) (h1 : ∀ l x, P l → P (l ++ [x])) (l : List α) : P l := by
  have h : ∀ l : List α, P l.reverse := by
    intro l
    induction l with
    | nil => exact h0
    | cons a l ih => rw [List.reverse_cons]; exact h1 _ _ ih
  have := h l.reverse
  rwa [List.reverse_reverse] at this

/-- The last version with a number of at most sn (or 0, where there is none). -/
theorem seenL_spec (key : Key) (sn : Nat) : ∀ vs : List (Key × Nat × Nat), (seenL vs key sn = 0 ∧ (∀ v ∈ vs, v.1 = key → v.2.1 ≤ sn → v.2.2 = 0)) ∨
    ∃ a v b, vs = a ++ v :: b ∧ v.1 = key ∧ v.2.1 ≤ sn ∧ v.2.2 = seenL vs key sn ∧ ∀ u ∈ b, u.1 = key → sn < u.2.1 := by
  intro vs
  refine snocInd (P := fun vs => (seenL vs key sn = 0 ∧ (∀ v ∈ vs, v.1 = key → v.2.1 ≤ sn → v.2.2 = 0)) ∨ ∃ a v b, vs = a ++ v :: b ∧ v.1 = key ∧ v.2.1 ≤ sn ∧ v.2.2 = seenL vs key sn ∧ ∀ u ∈ b, u.1 = key → sn < u.2.1) (Or.inl ⟨rfl, fun v hv => by cases hv⟩) (fun vs x ih => ?_) vs
  · show (seenL (vs ++ [x]) key sn = 0 ∧ _) ∨ _
    rw [seenL_snoc]
    by_cases e : x.1 = key ∧ x.2.1 ≤ sn
    · rw [if_pos e]
      exact .inr ⟨vs, x, [], by simp, e.1, e.2, rfl, fun u hu => by cases hu⟩
    · rw [if_neg e]
      rcases ih with ⟨h1, h2⟩ | ⟨a, v, b, rfl, h1, h2, h3, h4⟩
      · exact .inl ⟨h1, fun v hv hk hs => by
          rcases List.mem_append.1 hv with hv | hv
          · exact h2 v hv hk hs
          · have := List.mem_singleton.1 hv; subst this; exact absurd ⟨hk, hs⟩ e⟩
      · refine .inr ⟨a, v, b ++ [x], by simp, h1, h2, h3, fun u hu hk => ?_⟩
        rcases List.mem_append.1 hu with hu | hu
        · exact h4 u hu hk
        · have := List.mem_singleton.1 hu; subst this
          exact Nat.lt_of_not_le (fun hle => e ⟨hk, hle⟩)
end Go.Proofs.YteldfmgjbgedaaaGreat

namespace Go.Proofs.YteldfmgjbgedaaaGreat

/-- An act of a history. -/
structure PAct where
  txn : Nat
  write : Bool
  item : Key
  ver : Nat

/-- Who wrote an item, in the order of the commits. -/
def vers (A : List PAct) (C : List Nat) (k : Key) : List Nat := C.filter (fun t => A.any (fun a => a.write && (a.txn == t && a.item == k)))
/-- The writer of the version behind v (behind none: the first). -/
def nextV (l : List Nat) (v t : Nat) : Prop := (v = 0 ∧ l[0]? = some t) ∨ ∃ i, l[i]? = some v ∧ l[i + 1]? = some t

/-- The dependencies of a history. -/
def SDep (A : List PAct) (C : List Nat) (s t : Nat) : Prop :=
  s ≠ t ∧ ((∃ k i, (vers A C k)[i]? = some s ∧ (vers A C k)[i + 1]? = some t) ∨ (∃ a ∈ A, a.write = false ∧ a.ver ≠ 0 ∧ s = a.ver ∧ t = a.txn) ∨ (∃ a ∈ A, a.write = false ∧ s = a.txn ∧ nextV (vers A C a.item) a.ver t))

/-- The acts of a play's history. -/
def ptP (S : PS) (p : PT) : List PAct :=
  if p.tx ∈ S.ord then p.rd.map (fun x => ⟨p.tx, false, x.1, x.2⟩) ++ p.wr.map (fun x => ⟨p.tx, true, x, 0⟩) ++ p.rg.flatMap (fun r => (S.keys.filter (fun k => inR r.1 r.2 k)).map (fun k => ⟨p.tx, false, k, seenL S.vs k p.snap⟩)) else []
def histP (S : PS) : List PAct := S.l.flatMap (ptP S)

/-- A read act: its transaction covers the key, and saw that version. -/
theorem Good.readAct {M : MS} {S : PS} {Z : SS} (h : Good M S Z) {a : PAct} (ha : a ∈ histP S) (hw : a.write = false) : (Z.L a.txn).st = 1 ∧ (Z.L a.txn).cov a.item ∧ a.ver = seenL S.vs a.item (Z.L a.txn).snap := by
  obtain ⟨p, hp, hap⟩ := List.mem_flatMap.1 ha
  obtain ⟨i, hi⟩ := List.getElem?_of_mem hp
  unfold ptP at hap
  split at hap
  · rename_i ho
    have htx := h.tx i p hi
    have h1 := (h.ord _).1 ho
    rw [htx.1] at h1
    have hcov := h.cov i p hi (by omega)
    rcases List.mem_append.1 hap with hap | hap
    · rcases List.mem_append.1 hap with hap | hap
      · obtain ⟨x, hx, rfl⟩ := List.mem_map.1 hap
        refine ⟨by rw [htx.1]; exact h1, by rw [htx.1]; exact (hcov x.1).2 (.inl ⟨x.2, hx⟩), ?_⟩
        rw [htx.1, ← htx.2]; exact h.rd i p hi (by omega) x hx
      · obtain ⟨x, -, rfl⟩ := List.mem_map.1 hap; cases hw
    · obtain ⟨r, hr, hk⟩ := List.mem_flatMap.1 hap
      obtain ⟨k, hk2, rfl⟩ := List.mem_map.1 hk
      refine ⟨by rw [htx.1]; exact h1, by rw [htx.1]; exact (hcov k).2 (.inr ⟨r, hr, (List.mem_filter.1 hk2).2⟩), ?_⟩
      rw [htx.1, ← htx.2]
  · cases hap

/-- A write act: its transaction wrote the key. -/
theorem Good.writeAct {M : MS} {S : PS} {Z : SS} (h : Good M S Z) (t : Nat) (k : Key) : (histP S).any (fun a => a.write && (a.txn == t && a.item == k)) = true ↔ ((Z.L t).st = 1 ∧ k ∈ (Z.L t).wr) := by
  rw [List.any_eq_true]
  constructor
  · rintro ⟨a, ha, hx⟩
    simp only [Bool.and_eq_true, beq_iff_eq] at hx
    obtain ⟨hw, rfl, rfl⟩ := hx
    obtain ⟨p, hp, hap⟩ := List.mem_flatMap.1 ha
    obtain ⟨i, hi⟩ := List.getElem?_of_mem hp
    unfold ptP at hap
    split at hap
    · rename_i ho
      have htx := h.tx i p hi
      have h1 := (h.ord _).1 ho
      rw [htx.1] at h1
      rcases List.mem_append.1 hap with hap | hap
      · rcases List.mem_append.1 hap with hap | hap
        · obtain ⟨x, -, rfl⟩ := List.mem_map.1 hap; cases hw
        · obtain ⟨x, hx, rfl⟩ := List.mem_map.1 hap
          rw [htx.1]; exact ⟨h1, by rw [(h.wr i p hi (by omega)).1]; exact hx⟩
      · obtain ⟨r, -, hk⟩ := List.mem_flatMap.1 hap
        obtain ⟨k, -, rfl⟩ := List.mem_map.1 hk; cases hw
    · cases hap
  · rintro ⟨h1, hk⟩
    obtain ⟨i, p, rfl, hi⟩ := h.lt (t := t) (by omega)
    have htx := h.tx i p hi
    rw [(h.wr i p hi (by omega)).1] at hk
    refine ⟨⟨i + 1, true, k, 0⟩, List.mem_flatMap.2 ⟨p, List.mem_of_getElem? hi, ?_⟩, by simp⟩
    unfold ptP
    rw [if_pos (by rw [htx.1]; exact (h.ord _).2 h1), htx.1]
    exact List.mem_append_left _ (List.mem_append_right _ (List.mem_map.2 ⟨k, hk, rfl⟩))

theorem Good.mem_vers {M : MS} {S : PS} {Z : SS} (h : Good M S Z) {t : Nat} {k : Key} : t ∈ vers (histP S) S.ord k ↔ ((Z.L t).st = 1 ∧ k ∈ (Z.L t).wr) := by
  unfold vers
  rw [List.mem_filter, h.writeAct, h.ord]
  exact ⟨fun e => e.2, fun e => ⟨e.1, e⟩⟩

theorem Good.vers_lt {M : MS} {S : PS} {Z : SS} (h : Good M S Z) {s t i : Nat} {k : Key} (h1 : (vers (histP S) S.ord k)[i]? = some s) (h2 : (vers (histP S) S.ord k)[i + 1]? = some t) : (Z.L s).e < (Z.L t).e := by
  have hp : (vers (histP S) S.ord k).Pairwise (fun s t => (Z.L s).e < (Z.L t).e) := h.ordS.filter _
  obtain ⟨l1, rfl⟩ := List.getElem?_eq_some_iff.1 h1
  obtain ⟨l2, rfl⟩ := List.getElem?_eq_some_iff.1 h2
  exact (List.pairwise_iff_getElem.1 hp) i (i + 1) l1 l2 (by omega)

theorem Good.mem_vs {M : MS} {S : PS} {Z : SS} (h : Good M S Z) (v : Key × Nat × Nat) : v ∈ S.vs ↔ ((Z.L v.2.2).st = 1 ∧ v.1 ∈ (Z.L v.2.2).wr ∧ v.2.1 = (Z.L v.2.2).at_) := by
  rw [h.vs, List.mem_flatMap]
  constructor
  · rintro ⟨t, ht, hv⟩
    obtain ⟨x, hx, rfl⟩ := List.mem_map.1 hv
    exact ⟨(h.ord t).1 ht, hx, rfl⟩
  · rintro ⟨h1, h2, h3⟩
    exact ⟨v.2.2, (h.ord _).2 h1, List.mem_map.2 ⟨v.1, h2, by rw [← h3]⟩⟩

/-- The versions lie in the order of the commits. -/
theorem Good.vs_sorted {M : MS} {S : PS} {Z : SS} (h : Good M S Z) : S.vs.Pairwise (fun u v => (Z.L u.2.2).e ≤ (Z.L v.2.2).e) := by
  rw [h.vs]
  have : ∀ l : List Nat, l.Pairwise (fun s t => (Z.L s).e < (Z.L t).e) → (l.flatMap (fun t => (Z.L t).wr.map (fun x => (x, (Z.L t).at_, t)))).Pairwise (fun u v => (Z.L u.2.2).e ≤ (Z.L v.2.2).e) := by
    intro l
    induction l with
    | nil => intro _; exact List.Pairwise.nil
    | cons a l ih =>
      intro hp
      rw [List.pairwise_cons] at hp
      rw [List.flatMap_cons, List.pairwise_append]
      refine ⟨?_, ih hp.2, ?_⟩
      · refine List.pairwise_of_forall_mem_list ?_
        intro u hu v hv
        obtain ⟨x, -, rfl⟩ := List.mem_map.1 hu
        obtain ⟨y, -, rfl⟩ := List.mem_map.1 hv
        exact Nat.le_refl _
      · intro u hu v hv
        obtain ⟨x, -, rfl⟩ := List.mem_map.1 hu
        obtain ⟨b, hb, hv⟩ := List.mem_flatMap.1 hv
        obtain ⟨y, -, rfl⟩ := List.mem_map.1 hv
        exact Nat.le_of_lt (hp.1 b hb)
  exact this _ h.ordS

/-- THE HISTORY's DEPENDENCIES ARE THE TRANSACTIONS'. -/
theorem Good.dep {M : MS} {S : PS} {Z : SS} (h : Good M S Z) {s t : Nat} (hd : SDep (histP S) S.ord s t) : Z.dep s t := by
  obtain ⟨hne, hd⟩ := hd
  refine ⟨hne, ?_⟩
  rcases hd with ⟨k, i, h1, h2⟩ | ⟨a, ha, hw, hv, rfl, rfl⟩ | ⟨a, ha, hw, rfl, hnx⟩
  · have m1 := h.mem_vers.1 (List.mem_of_getElem? h1)
    have m2 := h.mem_vers.1 (List.mem_of_getElem? h2)
    exact .inl ⟨k, m1.2, m2.2, h.inv.t2 s t m1.1 m2.1 (List.ne_nil_of_mem m1.2) (List.ne_nil_of_mem m2.2) (h.vers_lt h1 h2)⟩
  · obtain ⟨h1, h2, h3⟩ := h.readAct ha hw
    rcases seenL_spec a.item (Z.L a.txn).snap S.vs with ⟨h4, -⟩ | ⟨x, v, y, hvs, h4, h5, h6, -⟩
    · exact absurd (h3.trans h4) hv
    · have hm := (h.mem_vs v).1 (by rw [hvs]; simp)
      rw [h6, ← h3] at hm
      exact .inr (.inl ⟨a.item, h4 ▸ hm.2.1, h2, hm.2.2 ▸ h5⟩)
  · obtain ⟨h1, h2, h3⟩ := h.readAct ha hw
    right; right
    have key : ∀ t, (Z.L t).st = 1 ∧ a.item ∈ (Z.L t).wr → (a.ver = 0 ∨ (Z.L a.ver).e < (Z.L t).e) → (Z.L a.txn).snap < (Z.L t).at_ := by
      intro t ht hor
      have hmt := (h.mem_vs (a.item, (Z.L t).at_, t)).2 ⟨ht.1, ht.2, rfl⟩
      refine Nat.lt_of_not_le (fun hle => ?_)
      rcases seenL_spec a.item (Z.L a.txn).snap S.vs with ⟨h4, h5⟩ | ⟨x, v, y, hvs, h4, h5, h6, h7⟩
      · have := h5 _ hmt rfl hle
        have hp := h.ord_pos ((h.ord t).2 ht.1)
        simp only at this; omega
      · have hver : v.2.2 = a.ver := h6.trans h3.symm
        have hmv := (h.mem_vs v).1 (by rw [hvs]; simp)
        have hpos := h.ord_pos ((h.ord _).2 hmv.1)
        rw [hver] at hpos
        have hlt : (Z.L a.ver).e < (Z.L t).e := hor.elim (fun e => by omega) (fun e => e)
        have hso := h.vs_sorted
        rw [hvs] at hmt hso
        rcases List.mem_append.1 hmt with hm | hm
        · have := (List.pairwise_append.1 hso).2.2 _ hm v (List.mem_cons_self ..)
          rw [hver] at this
          simp only at this; omega
        · rcases List.mem_cons.1 hm with hm | hm
          · rw [← hm] at hver
            simp only at hver
            rw [hver] at hlt; omega
          · have := h7 _ hm rfl
            simp only at this; omega
    rcases hnx with ⟨hz, hl⟩ | ⟨i, hl1, hl2⟩
    · have mt := h.mem_vers.1 (List.mem_of_getElem? hl)
      exact ⟨a.item, h2, mt.2, key t mt (.inl hz)⟩
    · have mt := h.mem_vers.1 (List.mem_of_getElem? hl2)
      exact ⟨a.item, h2, mt.2, key t mt (.inr (h.vers_lt hl1 hl2))⟩

/-- Of any of the commits, one has no dependency from the others. -/
theorem Good.source {M : MS} {S : PS} {Z : SS} (h : Good M S Z) (U : List Nat) (hU : U ≠ []) (hc : ∀ t ∈ U, t ∈ S.ord) : ∃ t ∈ U, ∀ s ∈ U, ¬ SDep (histP S) S.ord s t := by
  obtain ⟨t, ht, hs⟩ := h.inv.source U hU (fun t ht => (h.ord t).1 (hc t ht))
  exact ⟨t, ht, fun s hsu hd => hs s hsu (h.dep hd)⟩
end Go.Proofs.YteldfmgjbgedaaaGreat

namespace Go.Proofs.YteldfmgjbgedaaaGreat

/-- A history that serial.read takes. -/
structure HistOk (A : List PAct) (C : List Nat) : Prop where
  nd : C.Nodup
  pos : ∀ t ∈ C, 1 ≤ t
  txn : ∀ a ∈ A, a.txn ∈ C
  w0 : ∀ a ∈ A, a.write = true → a.ver = 0
  once : A.Pairwise (fun a b => a.write = true → b.write = true → ¬ (a.txn = b.txn ∧ a.item = b.item))
  seen : ∀ a ∈ A, a.write = false → a.ver ≠ 0 → ∃ b ∈ A, b.write = true ∧ b.txn = a.ver ∧ b.item = a.item

theorem ptP_txn {S : PS} {p : PT} {a : PAct} (h : a ∈ ptP S p) : a.txn = p.tx ∧ p.tx ∈ S.ord ∧ (a.write = true → a.ver = 0 ∧ a.item ∈ p.wr) := by
  unfold ptP at h
  split at h
  · rename_i ho
    rcases List.mem_append.1 h with h | h
    · rcases List.mem_append.1 h with h | h
      · obtain ⟨x, -, rfl⟩ := List.mem_map.1 h; exact ⟨rfl, ho, fun e => by cases e⟩
      · obtain ⟨x, hx, rfl⟩ := List.mem_map.1 h; exact ⟨rfl, ho, fun _ => ⟨rfl, hx⟩⟩
    · obtain ⟨r, -, hk⟩ := List.mem_flatMap.1 h
      obtain ⟨k, -, rfl⟩ := List.mem_map.1 hk; exact ⟨rfl, ho, fun e => by cases e⟩
  · cases h

theorem ptP_once (S : PS) (p : PT) (hn : p.tx ∈ S.ord → p.wr.Nodup) : (ptP S p).Pairwise (fun a b => a.write = true → b.write = true → ¬ (a.txn = b.txn ∧ a.item = b.item)) := by
  unfold ptP
  split
  · rename_i ho
    rw [List.pairwise_append, List.pairwise_append]
    refine ⟨⟨?_, ?_, ?_⟩, ?_, ?_⟩
    · refine List.pairwise_of_forall_mem_list ?_
      intro a ha b _ hw
      obtain ⟨x, -, rfl⟩ := List.mem_map.1 ha; cases hw
    · rw [List.pairwise_map]
      refine List.Pairwise.imp (fun {a b} hab _ _ e => hab e.2) (hn ho)
    · intro a ha b _ hw
      obtain ⟨x, -, rfl⟩ := List.mem_map.1 ha; cases hw
    · refine List.pairwise_of_forall_mem_list ?_
      intro a ha b _ hw
      obtain ⟨r, -, hk⟩ := List.mem_flatMap.1 ha
      obtain ⟨k, -, rfl⟩ := List.mem_map.1 hk; cases hw
    · intro a _ b hb _ hw
      obtain ⟨r, -, hk⟩ := List.mem_flatMap.1 hb
      obtain ⟨k, -, rfl⟩ := List.mem_map.1 hk; cases hw
  · exact List.Pairwise.nil

theorem Good.histOk {M : MS} {S : PS} {Z : SS} (h : Good M S Z) : HistOk (histP S) S.ord where
  nd := h.ord_nodup
  pos := fun t ht => h.ord_pos ht
  txn := fun a ha => by
    obtain ⟨p, -, hap⟩ := List.mem_flatMap.1 ha
    obtain ⟨e, ho, -⟩ := ptP_txn hap
    rw [e]; exact ho
  w0 := fun a ha hw => by
    obtain ⟨p, -, hap⟩ := List.mem_flatMap.1 ha
    exact ((ptP_txn hap).2.2 hw).1
  once := by
    have hd : S.l.Pairwise (fun p q => p.tx ≠ q.tx) := by
      rw [List.pairwise_iff_getElem]
      intro i j hi hj hij e
      have h1 := (h.tx i _ (List.getElem?_eq_getElem hi)).1
      have h2 := (h.tx j _ (List.getElem?_eq_getElem hj)).1
      omega
    have hn : ∀ p ∈ S.l, p.tx ∈ S.ord → p.wr.Nodup := fun p hp ho => by
      obtain ⟨i, hi⟩ := List.getElem?_of_mem hp
      have h1 := (h.ord _).1 ho
      rw [(h.tx i p hi).1] at h1
      exact (h.wr i p hi (by omega)).2
    have : ∀ l : List PT, l.Pairwise (fun p q => p.tx ≠ q.tx) → (∀ p ∈ l, p.tx ∈ S.ord → p.wr.Nodup) → (l.flatMap (ptP S)).Pairwise (fun a b => a.write = true → b.write = true → ¬ (a.txn = b.txn ∧ a.item = b.item)) := by
      intro l
      induction l with
      | nil => intro _ _; exact List.Pairwise.nil
      | cons p l ih =>
        intro hp hn
        rw [List.pairwise_cons] at hp
        rw [List.flatMap_cons, List.pairwise_append]
        refine ⟨ptP_once S p (hn p (List.mem_cons_self ..)), ih hp.2 (fun q hq => hn q (List.mem_cons_of_mem _ hq)), ?_⟩
        intro a ha b hb _ _ e
        obtain ⟨q, hq, hbq⟩ := List.mem_flatMap.1 hb
        exact hp.1 q hq (by rw [← (ptP_txn ha).1, ← (ptP_txn hbq).1]; exact e.1)
    exact this _ hd hn
  seen := fun a ha hw hv => by
    obtain ⟨-, -, h3⟩ := h.readAct ha hw
    rcases seenL_spec a.item (Z.L a.txn).snap S.vs with ⟨h4, -⟩ | ⟨x, v, y, hvs, h4, h5, h6, -⟩
    · exact absurd (h3.trans h4) hv
    · have hm := (h.mem_vs v).1 (by rw [hvs]; simp)
      rw [h6, ← h3, h4] at hm
      have := (h.writeAct a.ver a.item).2 ⟨hm.1, hm.2.1⟩
      obtain ⟨b, hb, hx⟩ := List.any_eq_true.1 this
      simp only [Bool.and_eq_true, beq_iff_eq] at hx
      exact ⟨b, hb, hx.1, hx.2.1, hx.2.2⟩
end Go.Proofs.YteldfmgjbgedaaaGreat
