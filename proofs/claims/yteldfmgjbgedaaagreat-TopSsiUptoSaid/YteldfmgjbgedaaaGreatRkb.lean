/-
  serial's orders, in plain: what holds of 'into' while an order is built; there is always one to go on with.
  A source among the transactions is a source among their places (plain).
  serial, in plain: the writers of an item, their places; the web.
-/
import Derived.Test.YteldfmgjbgedaaaGreatPx
import Derived.Test.YteldfmgjbgedaaaGreatRgi
namespace Go.Proofs.YteldfmgjbgedaaaGreat

/-- Those in done were taken; into: how many of the others lead there (-1: taken). -/
structure Taking (next : List (List Nat)) (done : List Nat) (into : List Int) : Prop where
  len : into.length = next.length
  val : ∀ v, v < next.length → into[v]? = some (if v ∈ done then (-1 : Int) else ((leads next done v : Nat) : Int))
  closed : ∀ u v, u < next.length → v ∈ done → v ∈ next[u]?.getD [] → u ∈ done
  lt : ∀ v ∈ done, v < next.length

/-- One more is taken. -/
def take1 (into : List Int) (i : Nat) (l : List Nat) : List Int := l.foldl (fun s v => s.set v ((s[v]?.getD 0) - 1)) (into.set i (-1))

theorem take1_get (l : List Nat) : ∀ (s : List Int), l.Nodup → (l.foldl (fun s v => s.set v ((s[v]?.getD 0) - 1)) s).length = s.length ∧ ∀ v, v < s.length → (l.foldl (fun s v => s.set v ((s[v]?.getD 0) - 1)) s)[v]? = some (s[v]?.getD 0 - (if v ∈ l then 1 else 0)) := by
  induction l with
  | nil => intro s _; exact ⟨rfl, fun v hv => by simp [List.getElem?_eq_getElem hv]⟩
  | cons a l ih =>
    intro s hn
    rw [List.nodup_cons] at hn
    obtain ⟨h1, h2⟩ := ih (s.set a ((s[a]?.getD 0) - 1)) hn.2
    rw [List.foldl_cons]
    refine ⟨by rw [h1, List.length_set], fun v hv => ?_⟩
    rw [h2 v (by rw [List.length_set]; exact hv)]
    by_cases e : v = a
    · subst e
      rw [List.getElem?_set_self hv]
      simp [hn.1]
    · rw [List.getElem?_set_ne (fun h => e h.symm)]
      simp [e]

theorem Taking.step {next : List (List Nat)} {done : List Nat} {into : List Int} (h : Taking next done into) (hn : ∀ l ∈ next, l.Nodup ∧ ∀ v ∈ l, v < next.length) {i : Nat} (hi : i < next.length) (h0 : into[i]? = some 0) : Taking next (i :: done) (take1 into i (next[i]?.getD [])) := by
  have hv := h.val i hi
  rw [h0] at hv
  have hnd : i ∉ done := fun e => by rw [if_pos e] at hv; injection hv with hv; omega
  rw [if_neg hnd] at hv
  have hl0 : leads next done i = 0 := by injection hv with hv; omega
  have hni : next[i]?.getD [] ∈ next := by rw [List.getElem?_eq_getElem hi]; exact List.getElem_mem hi
  have no : ∀ u, u < next.length → i ∈ next[u]?.getD [] → u ∈ done := fun u hu hm => by
    by_cases e : u ∈ done
    · exact e
    · have := leads_pos.2 ⟨u, hu, e, hm⟩; omega
  obtain ⟨t1, t2⟩ := take1_get (next[i]?.getD []) (into.set i (-1)) (hn _ hni).1
  constructor
  · unfold take1; rw [t1, List.length_set, h.len]
  · intro v hvv
    unfold take1
    rw [t2 v (by rw [List.length_set, h.len]; exact hvv)]
    by_cases e : v = i
    · subst e
      have : v ∉ next[v]?.getD [] := fun hm => hnd (no v hi hm)
      rw [List.getElem?_set_self (by rw [h.len]; exact hi)]
      simp [this]
    · rw [List.getElem?_set_ne (fun h => e h.symm), h.val v hvv]
      have hm : (v ∈ i :: done) ↔ v ∈ done := by simp [e]
      by_cases e2 : v ∈ done
      · have : v ∉ next[i]?.getD [] := fun hm2 => hnd (h.closed i v hi e2 hm2)
        simp [e2, this]
      · have hld := leads_done (next := next) (done := done) (v := v) hi hnd
        rw [if_neg (fun h => e2 (hm.1 h))]
        simp only [if_neg e2, Option.getD_some]
        rw [hld]
        congr 1
        by_cases e3 : v ∈ next[i]?.getD []
        · rw [if_pos e3, if_pos e3]; omega
        · rw [if_neg e3, if_neg e3]; omega
  · intro u v hu hvd hm
    rcases List.mem_cons.1 hvd with e | e
    · subst e; exact List.mem_cons_of_mem _ (no u hu hm)
    · exact List.mem_cons_of_mem _ (h.closed u v hu e hm)
  · intro v hv
    rcases List.mem_cons.1 hv with e | e
    · rw [e]; exact hi
    · exact h.lt v e

/-- While one is left, one may be taken. -/
theorem Taking.some {next : List (List Nat)} {done : List Nat} {into : List Int} (h : Taking next done into) (hs : ∀ U : List Nat, U ≠ [] → (∀ v ∈ U, v < next.length) → ∃ v ∈ U, ∀ u ∈ U, v ∉ next[u]?.getD []) (hleft : ∃ v, v < next.length ∧ v ∉ done) : ∃ i, i < next.length ∧ into[i]? = some 0 ∧ i ∉ done := by
  obtain ⟨v0, h1, h2⟩ := hleft
  obtain ⟨v, hv, hno⟩ := hs ((List.range next.length).filter (fun v => decide (v ∉ done))) (List.ne_nil_of_mem (List.mem_filter.2 ⟨List.mem_range.2 h1, by simpa using h2⟩)) (fun v hv => List.mem_range.1 (List.mem_filter.1 hv).1)
  have hvl := List.mem_range.1 (List.mem_filter.1 hv).1
  have hvd : v ∉ done := by simpa using (List.mem_filter.1 hv).2
  refine ⟨v, hvl, ?_, hvd⟩
  rw [h.val v hvl, if_neg hvd]
  have : leads next done v = 0 := by
    rcases Nat.eq_zero_or_pos (leads next done v) with e | e
    · exact e
    · obtain ⟨u, hu, hud, hm⟩ := leads_pos.1 e
      exact absurd hm (hno u (List.mem_filter.2 ⟨List.mem_range.2 hu, by simpa using hud⟩))
  rw [this]; rfl
end Go.Proofs.YteldfmgjbgedaaaGreat

namespace Go.Proofs.YteldfmgjbgedaaaGreat

theorem places_source {ws : List Nat} {next : List (List Nat)} {E : Nat → Nat → Prop} (hn : next.length = ws.length) (hnext : ∀ i j, i < ws.length → j ∈ next[i]?.getD [] → j < ws.length → E (ws[i]?.getD 0) (ws[j]?.getD 0))
    (hsrc : ∀ U : List Nat, U ≠ [] → (∀ t ∈ U, t ∈ ws) → ∃ t ∈ U, ∀ s ∈ U, ¬ E s t) : ∀ U : List Nat, U ≠ [] → (∀ v ∈ U, v < next.length) → ∃ v ∈ U, ∀ u ∈ U, v ∉ next[u]?.getD [] := by
  intro U hU hlt
  obtain ⟨t, ht, hno⟩ := hsrc (U.map (fun v => ws[v]?.getD 0)) (by simpa using hU) (fun t ht => by
    obtain ⟨v, hv, rfl⟩ := List.mem_map.1 ht
    have := hlt v hv
    rw [hn] at this
    rw [List.getElem?_eq_getElem this]; exact List.getElem_mem this)
  obtain ⟨v, hv, rfl⟩ := List.mem_map.1 ht
  refine ⟨v, hv, fun u hu hm => ?_⟩
  have h1 := hlt u hu
  have h2 := hlt v hv
  rw [hn] at h1 h2
  exact hno _ (List.mem_map.2 ⟨u, hu, rfl⟩) (hnext u v h1 hm h2)

/-- A play's history, in a web: while one is left, one may be taken. -/
theorem Good.places {M : MS} {S : PS} {Z : SS} (h : Good M S Z) {ws : List Nat} (hws : ∀ t, t ∈ ws → t ∈ S.ord) {next : List (List Nat)} (hn : next.length = ws.length) (hnext : ∀ i j, i < ws.length → j ∈ next[i]?.getD [] → j < ws.length → SDep (histP S) S.ord (ws[i]?.getD 0) (ws[j]?.getD 0)) :
    ∀ U : List Nat, U ≠ [] → (∀ v ∈ U, v < next.length) → ∃ v ∈ U, ∀ u ∈ U, v ∉ next[u]?.getD [] :=
  places_source hn hnext (fun U hU hU2 => h.source U hU (fun t ht => hws t (hU2 t ht)))
end Go.Proofs.YteldfmgjbgedaaaGreat

namespace Go.Proofs.YteldfmgjbgedaaaGreat

/-- Who writes an item, in the order of the acts. -/
def wrs (A : List PAct) (k : Key) : List Nat := (A.filter (fun a => a.write && a.item == k)).map PAct.txn

theorem mem_wrs {A : List PAct} {k : Key} {t : Nat} : t ∈ wrs A k ↔ ∃ a ∈ A, a.write = true ∧ a.item = k ∧ a.txn = t := by
  unfold wrs
  simp only [List.mem_map, List.mem_filter, Bool.and_eq_true, beq_iff_eq]
  constructor
  · rintro ⟨a, ⟨h1, h2, h3⟩, h4⟩; exact ⟨a, h1, h2, h3, h4⟩
  · rintro ⟨a, h1, h2, h3, h4⟩; exact ⟨a, ⟨h1, h2, h3⟩, h4⟩

theorem wrs_snoc (A : List PAct) (a : PAct) (k : Key) : wrs (A ++ [a]) k = wrs A k ++ (if a.write = true ∧ a.item = k then [a.txn] else []) := by
  unfold wrs
  rw [List.filter_append, List.map_append]
  by_cases h1 : a.write = true
  · by_cases h2 : a.item = k
    · simp [h1, h2]
    · simp [h1, h2]
  · simp [h1]

theorem mem_vers {A : List PAct} {C : List Nat} {k : Key} {t : Nat} : t ∈ vers A C k ↔ t ∈ C ∧ t ∈ wrs A k := by
  unfold vers
  rw [List.mem_filter, mem_wrs, List.any_eq_true]
  simp only [Bool.and_eq_true, beq_iff_eq]
  constructor
  · rintro ⟨h, a, h1, h2, h3, h4⟩; exact ⟨h, a, h1, h2, h4, h3⟩
  · rintro ⟨h, a, h1, h2, h4, h3⟩; exact ⟨h, a, h1, h2, h3, h4⟩

theorem HistOk.wrs_nodup {A : List PAct} {C : List Nat} (h : HistOk A C) (k : Key) : (wrs A k).Nodup := by
  unfold wrs
  rw [List.Nodup, List.pairwise_map]
  refine List.Pairwise.imp_of_mem ?_ (h.once.filter _)
  intro a b ha hb hab e
  simp only [List.mem_filter, Bool.and_eq_true, beq_iff_eq] at ha hb
  exact hab ha.2.1 hb.2.1 ⟨e, ha.2.2.trans hb.2.2.symm⟩

theorem HistOk.wrs_mem {A : List PAct} {C : List Nat} (h : HistOk A C) {k : Key} {t : Nat} (ht : t ∈ wrs A k) : t ∈ C := by
  obtain ⟨a, ha, -, -, rfl⟩ := mem_wrs.1 ht
  exact h.txn a ha

theorem HistOk.vers_nodup {A : List PAct} {C : List Nat} (h : HistOk A C) (k : Key) : (vers A C k).Nodup := h.nd.filter _

theorem HistOk.vers_perm {A : List PAct} {C : List Nat} (h : HistOk A C) (k : Key) : (wrs A k).Perm (vers A C k) :=
  (List.perm_ext_iff_of_nodup (h.wrs_nodup k) (h.vers_nodup k)).2 (fun t => by rw [mem_vers]; exact ⟨fun e => ⟨h.wrs_mem e, e⟩, fun e => e.2⟩)

/-- Where a transaction is among the commits. -/
def plc (C : List Nat) (t : Nat) : Option Nat := if t ∈ C then some (C.idxOf t) else none
theorem idxOf_nodup {C : List Nat} (h : C.Nodup) {i : Nat} (hi : i < C.length) : C.idxOf C[i] = i := by
  have h1 : C.idxOf C[i] < C.length := List.idxOf_lt_length_of_mem (List.getElem_mem hi)
  have h2 := List.getElem_idxOf h1
  exact (List.getElem_inj h).1 h2

theorem plc_snoc {C : List Nat} {t : Nat} (h : t ∉ C) (u : Nat) : plc (C ++ [t]) u = if u = t then some C.length else plc C u := by
  unfold plc
  by_cases e : u = t
  · subst e
    simp [List.idxOf_append, h]
  · by_cases hu : u ∈ C
    · simp [List.idxOf_append, hu, e]
    · simp [hu, e]

theorem pairwise_idx {C : List Nat} (h : C.Nodup) : C.Pairwise (fun a b => C.idxOf a ≤ C.idxOf b) := by
  rw [List.pairwise_iff_getElem]
  intro i j hi hj hij
  rw [idxOf_nodup h hi, idxOf_nodup h hj]; omega

theorem idxOf_inj {C : List Nat} {a b : Nat} (ha : a ∈ C) (hb : b ∈ C) (e : C.idxOf a = C.idxOf b) : a = b := by
  have h1 := List.getElem_idxOf (List.idxOf_lt_length_of_mem ha)
  have h2 := List.getElem_idxOf (List.idxOf_lt_length_of_mem hb)
  rw [← h1, ← h2]
  simp only [e]

/-- Those who write an item, sorted by their places: its versions. -/
theorem HistOk.sorted {A : List PAct} {C : List Nat} (h : HistOk A C) {k : Key} {ys : List Nat} (hp : ys.Perm (wrs A k)) (hs : ys.Pairwise (fun a b => (plc C a).getD 0 ≤ (plc C b).getD 0)) : ys = vers A C k := by
  have hm : ∀ t ∈ ys, t ∈ C := fun t ht => h.wrs_mem (hp.mem_iff.1 ht)
  refine List.Perm.eq_of_pairwise (le := fun a b => C.idxOf a ≤ C.idxOf b) (fun a b ha hb h1 h2 => idxOf_inj (hm a ha) (mem_vers.1 hb).1 (by omega)) ?_ ((pairwise_idx h.nd).filter _) (hp.trans (h.vers_perm k))
  refine List.Pairwise.imp_of_mem ?_ hs
  intro a b ha hb hab
  simpa [plc, hm a ha, hm b hb] using hab

/-- The place of a version's writer among the writers, from 1 on. -/
def nxt (A : List PAct) (C : List Nat) (t : Nat) (k : Key) : Option Nat := if t ∈ vers A C k then some ((vers A C k).idxOf t + 1) else none

theorem nxt_spec {A : List PAct} {C : List Nat} {t : Nat} {k : Key} (h : t ∈ vers A C k) : ∃ i, nxt A C t k = some (i + 1) ∧ (vers A C k)[i]? = some t := by
  refine ⟨_, if_pos h, ?_⟩
  have h1 := List.idxOf_lt_length_of_mem h
  rw [List.getElem?_eq_getElem h1, List.getElem_idxOf h1]

theorem SDep.ww {A : List PAct} {C : List Nat} {k : Key} {i s t : Nat} (hs : (vers A C k)[i]? = some s) (ht : (vers A C k)[i + 1]? = some t) (hne : s ≠ t) : SDep A C s t := ⟨hne, .inl ⟨k, i, hs, ht⟩⟩
theorem SDep.wr {A : List PAct} {C : List Nat} {a : PAct} (ha : a ∈ A) (hw : a.write = false) (hv : a.ver ≠ 0) (hne : a.ver ≠ a.txn) : SDep A C a.ver a.txn := ⟨hne, .inr (.inl ⟨a, ha, hw, hv, rfl, rfl⟩)⟩
theorem SDep.rw0 {A : List PAct} {C : List Nat} {a : PAct} (ha : a ∈ A) (hw : a.write = false) (hv : a.ver = 0) {t : Nat} (ht : (vers A C a.item)[0]? = some t) (hne : a.txn ≠ t) : SDep A C a.txn t := ⟨hne, .inr (.inr ⟨a, ha, hw, rfl, .inl ⟨hv, ht⟩⟩)⟩
theorem SDep.rw1 {A : List PAct} {C : List Nat} {a : PAct} (ha : a ∈ A) (hw : a.write = false) {i t : Nat} (hi : (vers A C a.item)[i]? = some a.ver) (ht : (vers A C a.item)[i + 1]? = some t) (hne : a.txn ≠ t) : SDep A C a.txn t := ⟨hne, .inr (.inr ⟨a, ha, hw, rfl, .inr ⟨i, hi, ht⟩⟩)⟩

theorem HistOk.ver_mem {A : List PAct} {C : List Nat} (h : HistOk A C) {a : PAct} (ha : a ∈ A) (hw : a.write = false) (hv : a.ver ≠ 0) : a.ver ∈ vers A C a.item := by
  obtain ⟨b, hb, h1, h2, h3⟩ := h.seen a ha hw hv
  have : a.ver ∈ wrs A a.item := mem_wrs.2 ⟨b, hb, h1, h3, h2⟩
  exact mem_vers.2 ⟨h.wrs_mem this, this⟩

theorem SDep.mem {A : List PAct} {C : List Nat} (h : HistOk A C) {s t : Nat} (hd : SDep A C s t) : s ∈ C ∧ t ∈ C := by
  have hv : ∀ {k : Key} {i t : Nat}, (vers A C k)[i]? = some t → t ∈ C := fun e => (mem_vers.1 (List.mem_of_getElem? e)).1
  obtain ⟨-, ⟨k, i, h1, h2⟩ | ⟨a, ha, hw, h0, rfl, rfl⟩ | ⟨a, ha, hw, rfl, ⟨-, h2⟩ | ⟨i, -, h2⟩⟩⟩ := hd
  · exact ⟨hv h1, hv h2⟩
  · exact ⟨(mem_vers.1 (h.ver_mem ha hw h0)).1, h.txn a ha⟩
  · exact ⟨h.txn a ha, hv h2⟩
  · exact ⟨h.txn a ha, hv h2⟩

/-- How many of the first i places lead to v. -/
def leadsTo (N : List (List Nat)) (i v : Nat) : Nat := ((List.range i).filter (fun u => decide (v ∈ N[u]?.getD []))).length
theorem leadsTo_zero (N : List (List Nat)) (v : Nat) : leadsTo N 0 v = 0 := rfl
theorem leadsTo_succ (N : List (List Nat)) (i v : Nat) : leadsTo N (i + 1) v = leadsTo N i v + (if v ∈ N[i]?.getD [] then 1 else 0) := by
  unfold leadsTo
  rw [List.range_succ, List.filter_append, List.length_append]
  congr 1
  by_cases h : v ∈ N[i]?.getD []
  · rw [if_pos h]; simp [h]
  · rw [if_neg h]; simp [h]
theorem leadsTo_congr {N N' : List (List Nat)} {i : Nat} (h : ∀ u, u < i → N[u]?.getD [] = N'[u]?.getD []) (v : Nat) : leadsTo N i v = leadsTo N' i v := by
  unfold leadsTo
  congr 1
  apply List.filter_congr
  intro u hu
  rw [h u (List.mem_range.1 hu)]
theorem leadsTo_all (N : List (List Nat)) (v : Nat) : leadsTo N N.length v = leads N [] v := by
  unfold leadsTo leads
  congr 1

/-- The web of a history, for the transactions ws. -/
structure WebOk (E : Nat → Nat → Prop) (ws : List Nat) (N : List (List Nat)) (I : List Int) : Prop where
  n : N.length = ws.length
  i : I.length = ws.length
  row : ∀ l ∈ N, l.Nodup ∧ ∀ v ∈ l, v < N.length
  dep : ∀ i j, i < ws.length → j ∈ N[i]?.getD [] → j < ws.length → E (ws[i]?.getD 0) (ws[j]?.getD 0)
  into : ∀ v, v < N.length → I[v]? = some ((leads N [] v : Nat) : Int)

theorem WebOk.taking {E : Nat → Nat → Prop} {ws : List Nat} {N : List (List Nat)} {I : List Int} (h : WebOk E ws N I) : Taking N [] I :=
  ⟨h.i.trans h.n.symm, fun v hv => by rw [h.into v hv]; simp, fun _ _ _ hv => (by cases hv), fun _ hv => (by cases hv)⟩

/-- The places to which nothing leads, of the first i. -/
def free0 (I : List Int) (i : Nat) : List Nat := (List.range i).filter (fun v => decide (I[v]?.getD 0 = 0))
theorem free0_succ (I : List Int) (i : Nat) : free0 I (i + 1) = free0 I i ++ (if I[i]?.getD 0 = 0 then [i] else []) := by
  unfold free0
  rw [List.range_succ, List.filter_append]
  congr 1
  by_cases h : I[i]?.getD 0 = 0
  · rw [if_pos h]; simp [h]
  · rw [if_neg h]; simp [h]

theorem WebOk.kahn {E : Nat → Nat → Prop} {ws : List Nat} {N : List (List Nat)} {I : List Int} (h : WebOk E ws N I) : Kahn N I (free0 I I.length) 0 where
  d := Nat.zero_le _
  nd := List.nodup_range.filter _
  lt := fun v hv => by
    have := List.mem_range.1 (List.mem_filter.1 hv).1
    rw [h.n, ← h.i]; exact this
  il := h.i.trans h.n.symm
  iv := fun v hv => by rw [h.into v hv]; simp
  fr := fun v hv => by
    have hvi : v < I.length := by rw [h.i, ← h.n]; exact hv
    unfold free0
    rw [List.mem_filter, h.into v hv]
    simp only [List.mem_range, hvi, true_and, Option.getD_some, decide_eq_true_eq, List.take_zero]
    omega

end Go.Proofs.YteldfmgjbgedaaaGreat
