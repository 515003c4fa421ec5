/-
  TopSsi, in plain: a set of transactions whose dependencies go forward in time, or are antidependencies of concurrent ones of which none has two behind one another, has a source.
  TopSsi, in plain: what holds of the transactions under the manager between two calls, and that each call keeps it.
  TopSsi, in plain: a commit keeps what holds of the transactions; of any committed ones one has no dependency from the others.
-/
namespace Go.Proofs.YteldfmgjbgedaaaGreat

theorem least_of {α : Type} (f : α → Nat) : ∀ (U : List α), U ≠ [] → ∃ t ∈ U, ∀ s ∈ U, f t ≤ f s
  | [], h => absurd rfl h
  | [x], _ => ⟨x, List.mem_singleton.2 rfl, fun s hs => by rw [List.mem_singleton.1 hs]; exact Nat.le_refl _⟩
  | x :: y :: r, _ => by
    obtain ⟨t, ht, hm⟩ := least_of f (y :: r) (by simp)
    by_cases h : f x ≤ f t
    · exact ⟨x, List.mem_cons_self .., fun s hs => by
        rcases List.mem_cons.1 hs with e | e
        · rw [e]; exact Nat.le_refl _
        · exact Nat.le_trans h (hm s e)⟩
    · exact ⟨t, List.mem_cons_of_mem _ ht, fun s hs => by
        rcases List.mem_cons.1 hs with e | e
        · rw [e]; omega
        · exact hm s e⟩

/-- b, c: when a transaction began, when it committed. E: dependencies. R: antidependencies of concurrent ones. -/
theorem source_of {α : Type} (b c : α → Nat) (E R : α → α → Prop) (U : List α) (hbc : ∀ t ∈ U, b t < c t)
    (hE : ∀ s ∈ U, ∀ t ∈ U, E s t → s ≠ t ∧ (c s ≤ b t ∨ (R s t ∧ b s < c t))) (hpiv : ∀ q ∈ U, ∀ p ∈ U, ∀ t ∈ U, R q p → R p t → False) (hU : U ≠ []) :
    ∃ t ∈ U, ∀ s ∈ U, ¬ E s t := by
  obtain ⟨t, ht, hmin⟩ := least_of c U hU
  by_cases h : ∃ p ∈ U, E p t
  · obtain ⟨p, hp, hpt⟩ := h
    obtain ⟨hne, hcase⟩ := hE p hp t ht hpt
    have h1 := hmin p hp
    have h2 := hbc t ht
    have hR : R p t ∧ b p < c t := hcase.resolve_left (by omega)
    refine ⟨p, hp, fun q hq hqp => ?_⟩
    obtain ⟨-, hq1 | hq1⟩ := hE q hq p hp hqp
    · have := hmin q hq; omega
    · exact hpiv q hq p hp t ht hq1.1 hR.1
  · exact ⟨t, ht, fun s hs he => h ⟨s, hs, he⟩⟩

/-! ### Kahn's loop. -/
/-- How many of the places that are not among 'done' lead to v. -/
def leads (next : List (List Nat)) (done : List Nat) (v : Nat) : Nat := ((List.range next.length).filter fun u => decide (u ∉ done) && decide (v ∈ next[u]?.getD [])).length

theorem leads_pos {next : List (List Nat)} {done : List Nat} {v : Nat} : 0 < leads next done v ↔ ∃ u, u < next.length ∧ u ∉ done ∧ v ∈ next[u]?.getD [] := by
  unfold leads
  rw [List.length_pos_iff_exists_mem]
  constructor
  · rintro ⟨u, hu⟩
    simp only [List.mem_filter, List.mem_range, Bool.and_eq_true, decide_eq_true_eq] at hu
    exact ⟨u, hu.1, hu.2.1, hu.2.2⟩
  · rintro ⟨u, h1, h2, h3⟩
    exact ⟨u, by simp only [List.mem_filter, List.mem_range, Bool.and_eq_true, decide_eq_true_eq]; exact ⟨h1, h2, h3⟩⟩

/-- One more done: those to which it leads have one fewer. -/
theorem leads_done {next : List (List Nat)} {done : List Nat} {u v : Nat} (hu : u < next.length) (hd : u ∉ done) : leads next done v = leads next (u :: done) v + (if v ∈ next[u]?.getD [] then 1 else 0) := by
  unfold leads
  have key : ∀ l : List Nat, l.Nodup → ((l.filter fun x => decide (x ∉ done) && decide (v ∈ next[x]?.getD [])).length = (l.filter fun x => decide (x ∉ u :: done) && decide (v ∈ next[x]?.getD [])).length + (if u ∈ l ∧ v ∈ next[u]?.getD [] then 1 else 0)) := by
    intro l hl
    induction l with
    | nil => simp
    | cons x l ih =>
      have hx := (List.nodup_cons.1 hl).1
      have ih := ih (List.nodup_cons.1 hl).2
      by_cases e : x = u
      · subst e
        have h0 : ¬ (x ∈ l ∧ v ∈ next[x]?.getD []) := fun h => hx h.1
        rw [if_neg h0] at ih
        by_cases hv : v ∈ next[x]?.getD []
        · simp [hd, hv] at ih ⊢; omega
        · simp [hd, hv] at ih ⊢; exact ih
      · have e2 : (u ∈ x :: l) ↔ u ∈ l := by simp [Ne.symm e]
        by_cases h1 : x ∈ done <;> by_cases h2 : v ∈ next[x]?.getD [] <;> simp [h1, h2, e, Ne.symm e] at ih ⊢ <;> omega
  have := key (List.range next.length) List.nodup_range
  rw [this]
  simp [hu]

theorem leads_same {next : List (List Nat)} {d d' : List Nat} {v : Nat} (h : ∀ x, x ∈ d ↔ x ∈ d') : leads next d v = leads next d' v := by
  unfold leads
  congr 1
  apply List.filter_congr
  intro x _
  by_cases h1 : x ∈ d
  · have := (h x).1 h1; simp [h1, this]
  · have : x ∉ d' := fun e => h1 ((h x).2 e)
    simp [h1, this]

/-- One lead fewer to v; if it was the last one, v is free. -/
def relax (s : List Int × List Nat) (v : Nat) : List Int × List Nat :=
  (s.1.set v (s.1[v]?.getD 0 - 1), if s.1[v]?.getD 0 - 1 = 0 then s.2 ++ [v] else s.2)
def relaxAll (s : List Int × List Nat) (l : List Nat) : List Int × List Nat := l.foldl relax s

theorem relaxAll_spec : ∀ (l : List Nat) (into : List Int) (free : List Nat), l.Nodup → (∀ v ∈ l, v < into.length) →
    (relaxAll (into, free) l).1.length = into.length ∧ (∀ v, v < into.length → (relaxAll (into, free) l).1[v]?.getD 0 = into[v]?.getD 0 - (if v ∈ l then 1 else 0)) ∧
    (relaxAll (into, free) l).2 = free ++ l.filter (fun v => decide (into[v]?.getD 0 = 1))
  | [], into, free, _, _ => by simp [relaxAll]
  | x :: l, into, free, hn, hl => by
    have hx := (List.nodup_cons.1 hn).1
    have hlt : x < into.length := hl x (by simp)
    have e : relaxAll (into, free) (x :: l) = relaxAll (into.set x (into[x]?.getD 0 - 1), if into[x]?.getD 0 - 1 = 0 then free ++ [x] else free) l := rfl
    obtain ⟨h1, h2, h3⟩ := relaxAll_spec l (into.set x (into[x]?.getD 0 - 1)) (if into[x]?.getD 0 - 1 = 0 then free ++ [x] else free) (List.nodup_cons.1 hn).2 (fun v hv => by rw [List.length_set]; exact hl v (List.mem_cons_of_mem _ hv))
    rw [e]
    refine ⟨by rw [h1, List.length_set], fun v hv => ?_, ?_⟩
    · rw [h2 v (by rw [List.length_set]; exact hv)]
      by_cases hvx : v = x
      · subst hvx
        simp [hx, hlt]
      · have : (into.set x (into[x]?.getD 0 - 1))[v]? = into[v]? := List.getElem?_set_ne (fun e => hvx e.symm)
        rw [this]
        simp [hvx]
    · rw [h3]
      have hf : l.filter (fun v => decide ((into.set x (into[x]?.getD 0 - 1))[v]?.getD 0 = 1)) = l.filter (fun v => decide (into[v]?.getD 0 = 1)) := by
        apply List.filter_congr
        intro v hv
        have hvx : ¬ x = v := fun e => hx (e ▸ hv)
        rw [List.getElem?_set_ne hvx]
      rw [hf]
      by_cases h0 : into[x]?.getD 0 = 1
      · simp [h0]
      · have : ¬ into[x]?.getD 0 - 1 = 0 := by omega
        simp [h0, this]

/-- What holds ahead of each round of Kahn's loop. -/
structure Kahn (next : List (List Nat)) (into : List Int) (free : List Nat) (done : Nat) : Prop where
  d : done ≤ free.length
  nd : free.Nodup
  lt : ∀ v ∈ free, v < next.length
  il : into.length = next.length
  iv : ∀ v, v < next.length → into[v]?.getD 0 = leads next (free.take done) v
  fr : ∀ v, v < next.length → (v ∈ free ↔ leads next (free.take done) v = 0)

theorem Kahn.step {next : List (List Nat)} {into : List Int} {free : List Nat} {done : Nat} (h : Kahn next into free done) (hn : ∀ l ∈ next, l.Nodup ∧ ∀ v ∈ l, v < next.length) (hd : done < free.length) :
    Kahn next (relaxAll (into, free) (next[free[done]]?.getD [])).1 (relaxAll (into, free) (next[free[done]]?.getD [])).2 (done + 1) := by
  obtain ⟨u, hu⟩ : ∃ u, free[done] = u := ⟨_, rfl⟩
  have hum : u ∈ free := hu ▸ List.getElem_mem hd
  have hun := h.lt u hum
  obtain ⟨l, hl⟩ : ∃ l, next[u]?.getD [] = l := ⟨_, rfl⟩
  have hlm : l ∈ next := by rw [← hl, List.getElem?_eq_getElem hun]; exact List.getElem_mem hun
  obtain ⟨hln, hlt⟩ := hn l hlm
  rw [hu, hl]
  obtain ⟨h1, h2, h3⟩ := relaxAll_spec l into free hln (fun v hv => by rw [h.il]; exact hlt v hv)
  have htk : (free ++ l.filter (fun v => decide (into[v]?.getD 0 = 1))).take (done + 1) = free.take done ++ [u] := by
    rw [List.take_append_of_le_length (by omega), List.take_succ_eq_append_getElem hd, hu]
  have hut : u ∉ free.take done := by
    intro hm
    obtain ⟨i, hi, e⟩ := List.getElem_of_mem hm
    rw [List.length_take] at hi
    rw [List.getElem_take] at e
    have := (List.getElem_inj (i := i) (j := done) (h₀ := by omega) (h₁ := hd) h.nd).1 (e.trans hu.symm)
    omega
  have key : ∀ v, leads next (free.take done) v = leads next (free.take done ++ [u]) v + (if v ∈ l then 1 else 0) := fun v => by
    rw [leads_done hun hut, hl, leads_same (d := u :: free.take done) (d' := free.take done ++ [u]) (by intro x; simp [or_comm])]
  have hone : ∀ v, v < next.length → v ∈ l → into[v]?.getD 0 = 1 → v ∉ free := fun v hv hm h1 hf => by
    have h4 := (h.fr v hv).1 hf
    have h5 := h.iv v hv
    rw [h4, h1] at h5; simp at h5
  refine ⟨by rw [h3, List.length_append]; omega, ?_, ?_, by rw [h1, h.il], fun v hv => ?_, fun v hv => ?_⟩
  · rw [h3]
    refine List.nodup_append.2 ⟨h.nd, hln.filter _, fun a ha b hb e => ?_⟩
    subst e
    simp only [List.mem_filter, decide_eq_true_eq] at hb
    exact hone a (hlt a hb.1) hb.1 hb.2 ha
  · intro v hv
    rw [h3] at hv
    rcases List.mem_append.1 hv with hv | hv
    · exact h.lt v hv
    · simp only [List.mem_filter] at hv; exact hlt v hv.1
  · rw [h2 v (by rw [h.il]; exact hv), h.iv v hv, h3, htk, key v]
    by_cases hm : v ∈ l
    · simp [hm]
    · simp [hm]
  · rw [h3, htk]
    have hk := key v
    have hiv := h.iv v hv
    constructor
    · intro hm
      rcases List.mem_append.1 hm with hm | hm
      · have := (h.fr v hv).1 hm; omega
      · simp only [List.mem_filter, decide_eq_true_eq] at hm
        rw [if_pos hm.1] at hk
        omega
    · intro h0
      by_cases hm : v ∈ l
      · rw [if_pos hm] at hk
        exact List.mem_append_right _ (by simp only [List.mem_filter, decide_eq_true_eq]; exact ⟨hm, by omega⟩)
      · rw [if_neg hm] at hk
        exact List.mem_append_left _ ((h.fr v hv).2 (by omega))

theorem nodup_le : ∀ (l m : List Nat), l.Nodup → (∀ x ∈ l, x ∈ m) → l.length ≤ m.length
  | [], _, _, _ => Nat.zero_le _
  | x :: l, m, hn, hs => by
    have hx := (List.nodup_cons.1 hn).1
    have := nodup_le l (m.erase x) (List.nodup_cons.1 hn).2 (fun y hy => (List.mem_erase_of_ne (show y ≠ x from fun e => hx (e ▸ hy))).2 (hs y (List.mem_cons_of_mem _ hy)))
    have hm := hs x (by simp)
    rw [List.length_erase_of_mem hm] at this
    have := List.length_pos_of_mem hm
    simp only [List.length_cons]
    omega

/-- Where each nonempty set of places has a source, Kahn's loop ends with all of them done. -/
theorem Kahn.all {next : List (List Nat)} {into : List Int} {free : List Nat} (h : Kahn next into free free.length)
    (hs : ∀ U : List Nat, U ≠ [] → (∀ u ∈ U, u < next.length) → ∃ t ∈ U, ∀ s ∈ U, ¬ t ∈ next[s]?.getD []) : free.length = next.length := by
  have hall : ∀ v, v < next.length → v ∈ free := by
    intro v hv
    refine Classical.byContradiction fun hf => ?_
    obtain ⟨t, ht, hno⟩ := hs ((List.range next.length).filter fun u => decide (u ∉ free)) (fun e => by
      have : v ∈ (List.range next.length).filter fun u => decide (u ∉ free) := by simp only [List.mem_filter, List.mem_range, decide_eq_true_eq]; exact ⟨hv, hf⟩
      rw [e] at this; cases this) (fun u hu => by simp only [List.mem_filter, List.mem_range] at hu; exact hu.1)
    simp only [List.mem_filter, List.mem_range, decide_eq_true_eq] at ht
    have h0 : 0 < leads next (free.take free.length) t := Nat.pos_of_ne_zero (fun e => ht.2 ((h.fr t ht.1).2 e))
    rw [List.take_length] at h0
    obtain ⟨u, h1, h2, h3⟩ := leads_pos.1 h0
    exact hno u (by simp only [List.mem_filter, List.mem_range, decide_eq_true_eq]; exact ⟨h1, h2⟩) h3
  have h1 := nodup_le free (List.range next.length) h.nd (fun x hx => List.mem_range.2 (h.lt x hx))
  have h2 := nodup_le (List.range next.length) free List.nodup_range (fun x hx => hall x (List.mem_range.1 hx))
  rw [List.length_range] at h1 h2
  omega

end Go.Proofs.YteldfmgjbgedaaaGreat

namespace Go.Proofs.YteldfmgjbgedaaaGreat

abbrev Key := List UInt8

/-- A transaction that was begun: st: 0 under way, 1 committed, 2 without a trace (or never begun). b, e: the manager's clock when it began, when it committed. -/
structure Tx where
  st : Nat
  snap : Nat
  b : Nat
  e : Nat
  at_ : Nat
  fin : Bool
  fout : Bool
  trk : Bool
  cov : Key → Prop
  wr : List Key

/-- The transactions, by number; what is noted of their reads (H). -/
structure SS where
  now : Nat
  clock : Nat
  last : Nat
  L : Nat → Tx
  H : Nat → Key → Prop

def SS.conc (S : SS) (s t : Nat) : Prop :=
  (S.L s).st ≠ 2 ∧ (S.L t).st ≠ 2 ∧ ((S.L t).st = 1 → (S.L s).b < (S.L t).e) ∧ ((S.L s).st = 1 → (S.L t).b < (S.L s).e)

theorem SS.conc_symm {S : SS} {s t : Nat} (h : S.conc s t) : S.conc t s := ⟨h.2.1, h.1, h.2.2.2, h.2.2.1⟩

structure Inv (S : SS) : Prop where
  st : ∀ i, (S.L i).st = 0 ∨ (S.L i).st = 1 ∨ (S.L i).st = 2
  new : ∀ i, S.last < i → (S.L i).st = 2
  act : ∀ i, (S.L i).st = 0 → (S.L i).trk = true ∧ (S.L i).b ≤ S.clock ∧ (S.L i).snap ≤ S.now
  com : ∀ i, (S.L i).st = 1 → (S.L i).b < (S.L i).e ∧ (S.L i).e ≤ S.clock ∧ (S.L i).at_ ≤ S.now ∧ (S.L i).snap ≤ S.now
  gone : ∀ i, (S.L i).st = 2 → (S.L i).trk = false
  i1 : ∀ i, (S.L i).st = 1 → ¬ ((S.L i).fin = true ∧ (S.L i).fout = true)
  i2 : ∀ s t, s ≠ t → S.conc s t → ∀ k, (S.L s).cov k → k ∈ (S.L t).wr → (S.L s).fout = true ∧ (S.L t).fin = true
  i3 : ∀ s t, s ≠ t → S.conc s t → ∀ k, k ∈ (S.L s).wr → k ∉ (S.L t).wr
  i4 : ∀ i, (S.L i).trk = true → ∀ k, (S.L i).cov k → S.H i k
  i6 : ∀ s t, (S.L s).st = 1 → (S.L t).st = 0 → S.conc s t → (∃ k, (S.L s).cov k ∨ k ∈ (S.L s).wr) → (S.L s).trk = true
  t1 : ∀ s t, (S.L s).st = 1 → (S.L s).wr ≠ [] → (S.L t).st ≠ 2 → ((S.L s).e < (S.L t).b ∧ (S.L s).at_ ≤ (S.L t).snap) ∨ ((S.L t).b < (S.L s).e ∧ (S.L t).snap < (S.L s).at_)
  t2 : ∀ s t, (S.L s).st = 1 → (S.L t).st = 1 → (S.L s).wr ≠ [] → (S.L t).wr ≠ [] → (S.L s).e < (S.L t).e → (S.L s).at_ < (S.L t).at_
  te : ∀ s t, (S.L s).st = 1 → (S.L t).st = 1 → s ≠ t → (S.L s).e ≠ (S.L t).e

def SS.put (S : SS) (t : Nat) (g : Tx) : Nat → Tx := fun i => if i = t then g else S.L i
theorem SS.put_same (S : SS) (t : Nat) (g : Tx) : S.put t g t = g := if_pos rfl
theorem SS.put_ne (S : SS) {t i : Nat} (g : Tx) (h : i ≠ t) : S.put t g i = S.L i := if_neg h

/-- Begin. -/
def SS.begin (S : SS) : SS :=
  { S with clock := S.clock + 1, last := S.last + 1, L := S.put (S.last + 1) ⟨0, S.now, S.clock + 1, 0, 0, false, false, true, fun _ => False, []⟩ }

theorem Inv.begin {S : SS} (h : Inv S) : Inv S.begin := by
  obtain ⟨n, hn⟩ : ∃ n, S.last + 1 = n := ⟨_, rfl⟩
  have hN : (S.L n).st = 2 := h.new n (by omega)
  have eL : ∀ i, i ≠ n → S.begin.L i = S.L i := fun i hi => by unfold SS.begin; simp only; rw [hn]; exact S.put_ne _ hi
  have eN : S.begin.L n = ⟨0, S.now, S.clock + 1, 0, 0, false, false, true, fun _ => False, []⟩ := by unfold SS.begin; simp only; rw [hn]; exact S.put_same _ _
  have ec : S.begin.clock = S.clock + 1 := rfl
  have en : S.begin.now = S.now := rfl
  have cc : ∀ s t, s ≠ n → t ≠ n → S.begin.conc s t → S.conc s t := fun s t hs ht hc => by unfold SS.conc at hc ⊢; rw [eL s hs, eL t ht] at hc; exact hc
  constructor
  · intro i; by_cases hi : i = n
    · subst hi; rw [eN]; simp
    · rw [eL i hi]; exact h.st i
  · intro i hi
    have : S.last + 1 < i := hi
    rw [eL i (by omega)]; exact h.new i (by omega)
  · intro i; by_cases hi : i = n
    · subst hi; rw [eN]; simp [ec, en]
    · rw [eL i hi, ec, en]; intro h0; have := h.act i h0; exact ⟨this.1, by omega, this.2.2⟩
  · intro i; by_cases hi : i = n
    · subst hi; rw [eN]; simp
    · rw [eL i hi, ec, en]; intro h0; have := h.com i h0; exact ⟨this.1, by omega, this.2.2⟩
  · intro i; by_cases hi : i = n
    · subst hi; rw [eN]; simp
    · rw [eL i hi]; exact h.gone i
  · intro i; by_cases hi : i = n
    · subst hi; rw [eN]; simp
    · rw [eL i hi]; exact h.i1 i
  · intro s t hst hc k; by_cases hs : s = n
    · subst hs; rw [eN]; intro hk; exact hk.elim
    · by_cases ht : t = n
      · subst ht; rw [eN]; intro _ hk; cases hk
      · rw [eL s hs, eL t ht]; exact h.i2 s t hst (cc s t hs ht hc) k
  · intro s t hst hc k; by_cases hs : s = n
    · subst hs; rw [eN]; intro hk; cases hk
    · by_cases ht : t = n
      · subst ht; rw [eN]; intro _ hk; cases hk
      · rw [eL s hs, eL t ht]; exact h.i3 s t hst (cc s t hs ht hc) k
  · intro i; by_cases hi : i = n
    · subst hi; rw [eN]; intro _ k hk; exact hk.elim
    · rw [eL i hi]; exact h.i4 i
  · intro s t; by_cases hs : s = n
    · subst hs; rw [eN]; simp
    · by_cases ht : t = n
      · subst ht
        intro h1 h2 hc hk
        have := hc.2.2.2 h1
        rw [eN, eL s hs] at this
        rw [eL s hs] at h1
        have := (h.com s h1).2.1
        simp only at *
        omega
      · intro h1 h2 hc hk
        have hc := cc s t hs ht hc
        rw [eL s hs] at h1 hk ⊢; rw [eL t ht] at h2
        exact h.i6 s t h1 h2 hc hk
  · intro s t; by_cases hs : s = n
    · subst hs; rw [eN]; simp
    · by_cases ht : t = n
      · subst ht; rw [eN, eL s hs]; intro h1 _ _
        have := h.com s h1
        exact .inl ⟨by simp only; omega, this.2.2.1⟩
      · rw [eL s hs, eL t ht]; exact h.t1 s t
  · intro s t; by_cases hs : s = n
    · subst hs; rw [eN]; simp
    · by_cases ht : t = n
      · subst ht; rw [eN]; simp
      · rw [eL s hs, eL t ht]; exact h.t2 s t
  · intro s t; by_cases hs : s = n
    · subst hs; rw [eN]; simp
    · by_cases ht : t = n
      · subst ht; rw [eN]; simp
      · rw [eL s hs, eL t ht]; exact h.te s t

/-- One leaves without a trace. -/
def SS.drop (S : SS) (t : Nat) : SS :=
  { S with L := S.put t { S.L t with st := 2, trk := false }, H := fun i k => i ≠ t ∧ S.H i k }

theorem Inv.drop {S : SS} (h : Inv S) (t : Nat) : Inv (S.drop t) := by
  have eL : ∀ i, i ≠ t → (S.drop t).L i = S.L i := fun i hi => S.put_ne _ hi
  have eN : ((S.drop t).L t).st = 2 ∧ ((S.drop t).L t).trk = false := by unfold SS.drop; simp only; rw [S.put_same]; exact ⟨rfl, rfl⟩
  have cc : ∀ a b, (S.drop t).conc a b → a ≠ t ∧ b ≠ t ∧ S.conc a b := fun a b hc => by
    have ha : a ≠ t := fun e => by subst e; exact hc.1 eN.1
    have hb : b ≠ t := fun e => by subst e; exact hc.2.1 eN.1
    refine ⟨ha, hb, ?_⟩
    unfold SS.conc at hc ⊢; rw [eL a ha, eL b hb] at hc; exact hc
  have off : ∀ i, ((S.drop t).L i).st ≠ 2 → i ≠ t := fun i hi e => by subst e; exact hi eN.1
  constructor
  · intro i; by_cases hi : i = t
    · subst hi; exact .inr (.inr eN.1)
    · rw [eL i hi]; exact h.st i
  · intro i hi; by_cases hit : i = t
    · subst hit; exact eN.1
    · rw [eL i hit]; exact h.new i hi
  · intro i h0
    have hi := off i (by omega)
    rw [eL i hi] at h0 ⊢; exact h.act i h0
  · intro i h0
    have hi := off i (by omega)
    rw [eL i hi] at h0 ⊢; exact h.com i h0
  · intro i; by_cases hi : i = t
    · subst hi; intro _; exact eN.2
    · rw [eL i hi]; exact h.gone i
  · intro i h0
    have hi := off i (by omega)
    rw [eL i hi] at h0 ⊢; exact h.i1 i h0
  · intro a b hab hc k
    obtain ⟨ha, hb, hc⟩ := cc a b hc
    rw [eL a ha, eL b hb]; exact h.i2 a b hab hc k
  · intro a b hab hc k
    obtain ⟨ha, hb, hc⟩ := cc a b hc
    rw [eL a ha, eL b hb]; exact h.i3 a b hab hc k
  · intro i htr k hk; by_cases hi : i = t
    · subst hi; rw [eN.2] at htr; cases htr
    · rw [eL i hi] at htr hk; exact ⟨hi, h.i4 i htr k hk⟩
  · intro a b h1 h2 hc hk
    obtain ⟨ha, hb, hc⟩ := cc a b hc
    rw [eL a ha] at h1 hk ⊢; rw [eL b hb] at h2
    exact h.i6 a b h1 h2 hc hk
  · intro a b h1 h2 h3
    have ha := off a (by omega)
    have hb := off b h3
    rw [eL a ha] at h1 h2 ⊢; rw [eL b hb] at h3 ⊢
    exact h.t1 a b h1 h2 h3
  · intro a b h1 h2
    have ha := off a (by omega)
    have hb := off b (by omega)
    rw [eL a ha, eL b hb] at *
    exact h.t2 a b h1 h2
  · intro a b h1 h2
    have ha := off a (by omega)
    have hb := off b (by omega)
    rw [eL a ha, eL b hb] at *
    exact h.te a b h1 h2

/-- Committed ones that are concurrent with none under way are let go. -/
def SS.forget (S : SS) (F : Nat → Bool) : SS :=
  { S with L := fun i => if F i = true then { S.L i with trk := false } else S.L i, H := fun i k => F i = false ∧ S.H i k }

theorem Inv.forget {S : SS} (h : Inv S) (F : Nat → Bool) (hF : ∀ i, F i = true → (S.L i).st ≠ 0 ∧ ∀ a, (S.L a).st = 0 → ¬ S.conc i a) : Inv (S.forget F) := by
  have e : ∀ i, (S.forget F).L i = if F i = true then { S.L i with trk := false } else S.L i := fun i => rfl
  have est : ∀ i, ((S.forget F).L i).st = (S.L i).st := fun i => by rw [e]; split <;> rfl
  have eb : ∀ i, ((S.forget F).L i).b = (S.L i).b := fun i => by rw [e]; split <;> rfl
  have ee : ∀ i, ((S.forget F).L i).e = (S.L i).e := fun i => by rw [e]; split <;> rfl
  have ea : ∀ i, ((S.forget F).L i).at_ = (S.L i).at_ := fun i => by rw [e]; split <;> rfl
  have es : ∀ i, ((S.forget F).L i).snap = (S.L i).snap := fun i => by rw [e]; split <;> rfl
  have ei : ∀ i, ((S.forget F).L i).fin = (S.L i).fin := fun i => by rw [e]; split <;> rfl
  have eo : ∀ i, ((S.forget F).L i).fout = (S.L i).fout := fun i => by rw [e]; split <;> rfl
  have ec : ∀ i, ((S.forget F).L i).cov = (S.L i).cov := fun i => by rw [e]; split <;> rfl
  have ew : ∀ i, ((S.forget F).L i).wr = (S.L i).wr := fun i => by rw [e]; split <;> rfl
  have et : ∀ i, ((S.forget F).L i).trk = true ↔ ((S.L i).trk = true ∧ F i = false) := fun i => by
    rw [e]; by_cases hf : F i = true
    · simp [hf]
    · simp [hf]
  have cc : ∀ a b, (S.forget F).conc a b ↔ S.conc a b := fun a b => by unfold SS.conc; rw [est, est, eb, ee, eb, ee]
  constructor
  · intro i; rw [est]; exact h.st i
  · intro i hi; rw [est]; exact h.new i hi
  · intro i h0; rw [est] at h0; rw [eb, es]
    refine ⟨(et i).2 ⟨(h.act i h0).1, ?_⟩, (h.act i h0).2⟩
    cases hf : F i with
    | false => rfl
    | true => exact absurd h0 (hF i hf).1
  · intro i h0; rw [est] at h0; rw [eb, ee, ea, es]; exact h.com i h0
  · intro i h0; rw [est] at h0
    cases ht : ((S.forget F).L i).trk with
    | false => rfl
    | true => have := ((et i).1 ht).1; rw [h.gone i h0] at this; cases this
  · intro i h0; rw [est] at h0; rw [ei, eo]; exact h.i1 i h0
  · intro a b hab hc k; rw [ec, ew, eo, ei]; exact h.i2 a b hab ((cc a b).1 hc) k
  · intro a b hab hc k; rw [ew, ew]; exact h.i3 a b hab ((cc a b).1 hc) k
  · intro i ht k hk; rw [ec] at hk
    have := (et i).1 ht
    exact ⟨this.2, h.i4 i this.1 k hk⟩
  · intro a b h1 h2 hc hk; rw [est] at h1 h2; rw [ec, ew] at hk
    replace hc := (cc a b).1 hc
    refine (et a).2 ⟨h.i6 a b h1 h2 hc hk, ?_⟩
    cases hf : F a with
    | false => rfl
    | true => exact absurd hc ((hF a hf).2 b h2)
  · intro a b; rw [est, est, ew, ee, eb, ea, es]; exact h.t1 a b
  · intro a b; rw [est, est, ew, ew, ee, ee, ea, ea]; exact h.t2 a b
  · intro a b; rw [est, est, ee, ee]; exact h.te a b

/-- A read of the keys K by t; O: on whom it depends. H: what is noted then. -/
def SS.read (S : SS) (t : Nat) (K : Key → Prop) (O : Nat → Bool) (some : Bool) (H : Nat → Key → Prop) : SS :=
  { S with L := fun i => if i = t then { S.L t with cov := fun k => (S.L t).cov k ∨ K k, fout := (S.L t).fout || some } else if O i = true then { S.L i with fin := true } else S.L i, H := H }

theorem Inv.read {S : SS} (h : Inv S) {t : Nat} (h0 : (S.L t).st = 0) (K : Key → Prop) (O : Nat → Bool) (some : Bool) (H : Nat → Key → Prop)
    (hO : ∀ o, o ≠ t → (S.L o).trk = true → S.conc t o → (∃ k, k ∈ (S.L o).wr ∧ K k) → O o = true) (hsome : ∀ o, O o = true → o ≠ t → some = true)
    (hbad : ∀ o, o ≠ t → O o = true → (S.L o).st = 1 → (S.L o).fout = false) (hH : ∀ i k, S.H i k → H i k) (hK : ∀ k, K k → H t k) : Inv (S.read t K O some H) := by
  have eT : (S.read t K O some H).L t = { S.L t with cov := fun k => (S.L t).cov k ∨ K k, fout := (S.L t).fout || some } := if_pos rfl
  have e : ∀ i, i ≠ t → (S.read t K O some H).L i = if O i = true then { S.L i with fin := true } else S.L i := fun i hi => if_neg hi
  have est : ∀ i, ((S.read t K O some H).L i).st = (S.L i).st := fun i => by
    by_cases hi : i = t
    · rw [hi, eT]
    · rw [e i hi]; split <;> rfl
  have eb : ∀ i, ((S.read t K O some H).L i).b = (S.L i).b := fun i => by
    by_cases hi : i = t
    · rw [hi, eT]
    · rw [e i hi]; split <;> rfl
  have ee : ∀ i, ((S.read t K O some H).L i).e = (S.L i).e := fun i => by
    by_cases hi : i = t
    · rw [hi, eT]
    · rw [e i hi]; split <;> rfl
  have ea : ∀ i, ((S.read t K O some H).L i).at_ = (S.L i).at_ := fun i => by
    by_cases hi : i = t
    · rw [hi, eT]
    · rw [e i hi]; split <;> rfl
  have es : ∀ i, ((S.read t K O some H).L i).snap = (S.L i).snap := fun i => by
    by_cases hi : i = t
    · rw [hi, eT]
    · rw [e i hi]; split <;> rfl
  have ew : ∀ i, ((S.read t K O some H).L i).wr = (S.L i).wr := fun i => by
    by_cases hi : i = t
    · rw [hi, eT]
    · rw [e i hi]; split <;> rfl
  have et : ∀ i, ((S.read t K O some H).L i).trk = (S.L i).trk := fun i => by
    by_cases hi : i = t
    · rw [hi, eT]
    · rw [e i hi]; split <;> rfl
  have ec : ∀ i, i ≠ t → ((S.read t K O some H).L i).cov = (S.L i).cov := fun i hi => by rw [e i hi]; split <;> rfl
  have eo : ∀ i, i ≠ t → ((S.read t K O some H).L i).fout = (S.L i).fout := fun i hi => by rw [e i hi]; split <;> rfl
  have oo : ∀ i, (S.L i).fout = true → ((S.read t K O some H).L i).fout = true := fun i hi => by
    by_cases hit : i = t
    · rw [hit] at hi ⊢; rw [eT]; simp [hi]
    · rw [eo i hit]; exact hi
  have fi : ∀ i, (S.L i).fin = true → ((S.read t K O some H).L i).fin = true := fun i hi => by
    by_cases hit : i = t
    · rw [hit] at hi ⊢; rw [eT]; exact hi
    · rw [e i hit]; split
      · rfl
      · exact hi
  have cc : ∀ a b, (S.read t K O some H).conc a b ↔ S.conc a b := fun a b => by unfold SS.conc; rw [est, est, eb, ee, eb, ee]
  constructor
  · intro i; rw [est]; exact h.st i
  · intro i hi; rw [est]; exact h.new i hi
  · intro i hi; rw [est] at hi; rw [et, eb, es]; exact h.act i hi
  · intro i hi; rw [est] at hi; rw [eb, ee, ea, es]; exact h.com i hi
  · intro i hi; rw [est] at hi; rw [et]; exact h.gone i hi
  · intro i hi; rw [est] at hi
    have hit : i ≠ t := fun e => by rw [e] at hi; omega
    rw [e i hit]
    by_cases hO2 : O i = true
    · rw [if_pos hO2]; simp only; rw [hbad i hit hO2 hi]; simp
    · rw [if_neg hO2]; exact h.i1 i hi
  · intro a b hab hc k hk hw
    replace hc := (cc a b).1 hc
    rw [ew] at hw
    by_cases hat : a = t
    · subst hat
      rw [eT] at hk
      rcases hk with hk | hk
      · have := h.i2 a b hab hc k hk hw
        exact ⟨oo a this.1, fi b this.2⟩
      · have hbt : b ≠ a := fun e => hab e.symm
        have htr : (S.L b).trk = true := by
          rcases h.st b with hs | hs | hs
          · exact (h.act b hs).1
          · exact h.i6 b a hs h0 (SS.conc_symm hc) ⟨k, .inr hw⟩
          · exact absurd hs hc.2.1
        have hOb := hO b hbt htr hc ⟨k, hw, hk⟩
        refine ⟨?_, ?_⟩
        · rw [eT]; simp [hsome b hOb hbt]
        · rw [e b hbt, if_pos hOb]
    · rw [ec a hat] at hk
      have := h.i2 a b hab hc k hk hw
      exact ⟨oo a this.1, fi b this.2⟩
  · intro a b hab hc k; rw [ew, ew]; exact h.i3 a b hab ((cc a b).1 hc) k
  · intro i htr k hk; rw [et] at htr
    by_cases hit : i = t
    · subst hit; rw [eT] at hk
      rcases hk with hk | hk
      · exact hH i k (h.i4 i htr k hk)
      · exact hK k hk
    · rw [ec i hit] at hk; exact hH i k (h.i4 i htr k hk)
  · intro a b h1 h2 hc hk; rw [est] at h1 h2
    have hat : a ≠ t := fun e => by rw [e] at h1; omega
    rw [ec a hat, ew] at hk; rw [et]
    exact h.i6 a b h1 h2 ((cc a b).1 hc) hk
  · intro a b; rw [est, est, ew, ee, eb, ea, es]; exact h.t1 a b
  · intro a b; rw [est, est, ew, ew, ee, ee, ea, ea]; exact h.t2 a b
  · intro a b; rw [est, est, ee, ee]; exact h.te a b

/-- A write of a key by t; O: who depends on it. -/
def SS.write (S : SS) (t : Nat) (x : Key) (O : Nat → Bool) (some : Bool) : SS :=
  { S with L := fun i => if i = t then { S.L t with wr := (S.L t).wr ++ [x], fin := (S.L t).fin || some } else if O i = true then { S.L i with fout := true } else S.L i }

theorem Inv.write {S : SS} (h : Inv S) {t : Nat} (h0 : (S.L t).st = 0) (x : Key) (O : Nat → Bool) (some : Bool)
    (hO : ∀ o, o ≠ t → (S.L o).trk = true → S.conc t o → S.H o x → O o = true) (hsome : ∀ o, O o = true → o ≠ t → some = true)
    (hbad : ∀ o, o ≠ t → O o = true → (S.L o).st = 1 → (S.L o).fin = false)
    (hfree : ∀ o, o ≠ t → (S.L o).st = 0 → x ∉ (S.L o).wr) (hlate : ∀ o, o ≠ t → (S.L o).st = 1 → (S.L o).trk = true → S.conc t o → x ∉ (S.L o).wr) : Inv (S.write t x O some) := by
  have eT : (S.write t x O some).L t = { S.L t with wr := (S.L t).wr ++ [x], fin := (S.L t).fin || some } := if_pos rfl
  have e : ∀ i, i ≠ t → (S.write t x O some).L i = if O i = true then { S.L i with fout := true } else S.L i := fun i hi => if_neg hi
  have est : ∀ i, ((S.write t x O some).L i).st = (S.L i).st := fun i => by
    by_cases hi : i = t
    · rw [hi, eT]
    · rw [e i hi]; split <;> rfl
  have eb : ∀ i, ((S.write t x O some).L i).b = (S.L i).b := fun i => by
    by_cases hi : i = t
    · rw [hi, eT]
    · rw [e i hi]; split <;> rfl
  have ee : ∀ i, ((S.write t x O some).L i).e = (S.L i).e := fun i => by
    by_cases hi : i = t
    · rw [hi, eT]
    · rw [e i hi]; split <;> rfl
  have ea : ∀ i, ((S.write t x O some).L i).at_ = (S.L i).at_ := fun i => by
    by_cases hi : i = t
    · rw [hi, eT]
    · rw [e i hi]; split <;> rfl
  have es : ∀ i, ((S.write t x O some).L i).snap = (S.L i).snap := fun i => by
    by_cases hi : i = t
    · rw [hi, eT]
    · rw [e i hi]; split <;> rfl
  have ec : ∀ i, ((S.write t x O some).L i).cov = (S.L i).cov := fun i => by
    by_cases hi : i = t
    · rw [hi, eT]
    · rw [e i hi]; split <;> rfl
  have et : ∀ i, ((S.write t x O some).L i).trk = (S.L i).trk := fun i => by
    by_cases hi : i = t
    · rw [hi, eT]
    · rw [e i hi]; split <;> rfl
  have ew : ∀ i, i ≠ t → ((S.write t x O some).L i).wr = (S.L i).wr := fun i hi => by rw [e i hi]; split <;> rfl
  have oo : ∀ i, (S.L i).fout = true → ((S.write t x O some).L i).fout = true := fun i hi => by
    by_cases hit : i = t
    · rw [hit] at hi ⊢; rw [eT]; exact hi
    · rw [e i hit]; split
      · rfl
      · exact hi
  have fi : ∀ i, (S.L i).fin = true → ((S.write t x O some).L i).fin = true := fun i hi => by
    by_cases hit : i = t
    · rw [hit] at hi ⊢; rw [eT]; simp [hi]
    · rw [e i hit]; split <;> exact hi
  have cc : ∀ a b, (S.write t x O some).conc a b ↔ S.conc a b := fun a b => by unfold SS.conc; rw [est, est, eb, ee, eb, ee]
  have fresh : ∀ o, o ≠ t → S.conc t o → x ∉ (S.L o).wr := fun o ho hc hx => by
    rcases h.st o with hs | hs | hs
    · exact hfree o ho hs hx
    · exact hlate o ho hs (h.i6 o t hs h0 (SS.conc_symm hc) ⟨x, .inr hx⟩) hc hx
    · exact hc.2.1 hs
  constructor
  · intro i; rw [est]; exact h.st i
  · intro i hi; rw [est]; exact h.new i hi
  · intro i hi; rw [est] at hi; rw [et, eb, es]; exact h.act i hi
  · intro i hi; rw [est] at hi; rw [eb, ee, ea, es]; exact h.com i hi
  · intro i hi; rw [est] at hi; rw [et]; exact h.gone i hi
  · intro i hi; rw [est] at hi
    have hit : i ≠ t := fun e => by rw [e] at hi; omega
    rw [e i hit]
    by_cases hO2 : O i = true
    · rw [if_pos hO2]; simp only; rw [hbad i hit hO2 hi]; simp
    · rw [if_neg hO2]; exact h.i1 i hi
  · intro a b hab hc k hk hw
    replace hc := (cc a b).1 hc
    rw [ec] at hk
    by_cases hbt : b = t
    · subst hbt
      rw [eT] at hw
      rcases List.mem_append.1 hw with hw | hw
      · have := h.i2 a b hab hc k hk hw
        exact ⟨oo a this.1, fi b this.2⟩
      · have hkx : k = x := List.mem_singleton.1 hw
        subst hkx
        have htr : (S.L a).trk = true := by
          rcases h.st a with hs | hs | hs
          · exact (h.act a hs).1
          · exact h.i6 a b hs h0 hc ⟨k, .inl hk⟩
          · exact absurd hs hc.1
        have hOa := hO a hab htr (SS.conc_symm hc) (h.i4 a htr k hk)
        exact ⟨by rw [e a hab, if_pos hOa], by rw [eT]; simp [hsome a hOa hab]⟩
    · rw [ew b hbt] at hw
      have := h.i2 a b hab hc k hk hw
      exact ⟨oo a this.1, fi b this.2⟩
  · intro a b hab hc k hk hw
    replace hc := (cc a b).1 hc
    by_cases hat : a = t
    · subst hat
      have hbt : b ≠ a := fun e => hab e.symm
      rw [ew b hbt] at hw; rw [eT] at hk
      rcases List.mem_append.1 hk with hk | hk
      · exact h.i3 a b hab hc k hk hw
      · rw [List.mem_singleton.1 hk] at hw; exact fresh b hbt hc hw
    · rw [ew a hat] at hk
      by_cases hbt : b = t
      · subst hbt; rw [eT] at hw
        rcases List.mem_append.1 hw with hw | hw
        · exact h.i3 a b hab hc k hk hw
        · rw [List.mem_singleton.1 hw] at hk; exact fresh a hat (SS.conc_symm hc) hk
      · rw [ew b hbt] at hw; exact h.i3 a b hab hc k hk hw
  · intro i htr k hk; rw [et] at htr; rw [ec] at hk; exact h.i4 i htr k hk
  · intro a b h1 h2 hc hk; rw [est] at h1 h2
    have hat : a ≠ t := fun e => by rw [e] at h1; omega
    rw [ec, ew a hat] at hk; rw [et]
    exact h.i6 a b h1 h2 ((cc a b).1 hc) hk
  · intro a b h1 h2 h3; rw [est] at h1
    have hat : a ≠ t := fun e => by rw [e] at h1; omega
    rw [ew a hat] at h2; rw [est] at h3; rw [ee, eb, ea, es]; exact h.t1 a b h1 h2 h3
  · intro a b h1 h2; rw [est] at h1 h2
    have hat : a ≠ t := fun e => by rw [e] at h1; omega
    have hbt : b ≠ t := fun e => by rw [e] at h2; omega
    rw [ew a hat, ew b hbt, ee, ee, ea, ea]; exact h.t2 a b h1 h2
  · intro a b; rw [est, est, ee, ee]; exact h.te a b

end Go.Proofs.YteldfmgjbgedaaaGreat

namespace Go.Proofs.YteldfmgjbgedaaaGreat

/-- A commit; tr: whether it is kept. -/
def SS.commit (S : SS) (t : Nat) (tr : Bool) : SS :=
  { S with now := if (S.L t).wr = [] then S.now else S.now + 1, clock := S.clock + 1,
           L := S.put t { S.L t with st := 1, e := S.clock + 1, at_ := if (S.L t).wr = [] then S.now else S.now + 1, trk := tr }, H := fun i k => (i ≠ t ∨ tr = true) ∧ S.H i k }

theorem Inv.commit {S : SS} (h : Inv S) {t : Nat} (h0 : (S.L t).st = 0) (tr : Bool) (hf : ¬ ((S.L t).fin = true ∧ (S.L t).fout = true))
    (htr : tr = false → (∀ a, a ≠ t → (S.L a).st ≠ 0) ∨ ((S.L t).wr = [] ∧ ∀ k, ¬ (S.L t).cov k)) : Inv (S.commit t tr) := by
  obtain ⟨nn, hnn⟩ : ∃ nn, (if (S.L t).wr = [] then S.now else S.now + 1) = nn := ⟨_, rfl⟩
  have en : (S.commit t tr).now = nn := hnn
  have hnn1 : S.now ≤ nn := by rw [← hnn]; split <;> omega
  have hnn2 : (S.L t).wr ≠ [] → nn = S.now + 1 := fun hw => by rw [← hnn, if_neg hw]
  have ec : (S.commit t tr).clock = S.clock + 1 := rfl
  have eT : (S.commit t tr).L t = { S.L t with st := 1, e := S.clock + 1, at_ := nn, trk := tr } := by unfold SS.commit; simp only; rw [S.put_same, hnn]
  have e : ∀ i, i ≠ t → (S.commit t tr).L i = S.L i := fun i hi => S.put_ne _ hi
  have eb : ∀ i, ((S.commit t tr).L i).b = (S.L i).b := fun i => by
    by_cases hi : i = t
    · rw [hi, eT]
    · rw [e i hi]
  have es : ∀ i, ((S.commit t tr).L i).snap = (S.L i).snap := fun i => by
    by_cases hi : i = t
    · rw [hi, eT]
    · rw [e i hi]
  have ei : ∀ i, ((S.commit t tr).L i).fin = (S.L i).fin := fun i => by
    by_cases hi : i = t
    · rw [hi, eT]
    · rw [e i hi]
  have eo : ∀ i, ((S.commit t tr).L i).fout = (S.L i).fout := fun i => by
    by_cases hi : i = t
    · rw [hi, eT]
    · rw [e i hi]
  have ev : ∀ i, ((S.commit t tr).L i).cov = (S.L i).cov := fun i => by
    by_cases hi : i = t
    · rw [hi, eT]
    · rw [e i hi]
  have ew : ∀ i, ((S.commit t tr).L i).wr = (S.L i).wr := fun i => by
    by_cases hi : i = t
    · rw [hi, eT]
    · rw [e i hi]
  have est2 : ∀ i, ((S.commit t tr).L i).st = 2 ↔ (S.L i).st = 2 := fun i => by
    by_cases hi : i = t
    · rw [hi, eT]; simp [h0]
    · rw [e i hi]
  have bt := (h.act t h0).2.1
  have bi : ∀ i, (S.L i).st ≠ 2 → (S.L i).b ≤ S.clock := fun i hi => by
    rcases h.st i with hs | hs | hs
    · exact (h.act i hs).2.1
    · have := h.com i hs; omega
    · exact absurd hs hi
  have cc : ∀ a b, (S.commit t tr).conc a b → S.conc a b := fun a b hc => by
    obtain ⟨c1, c2, c3, c4⟩ := hc
    refine ⟨fun x => c1 ((est2 a).2 x), fun x => c2 ((est2 b).2 x), fun x => ?_, fun x => ?_⟩
    · have hb : b ≠ t := fun y => by rw [y] at x; omega
      rw [e b hb, eb] at c3; exact c3 x
    · have ha : a ≠ t := fun y => by rw [y] at x; omega
      rw [e a ha, eb] at c4; exact c4 x
  constructor
  · intro i; by_cases hi : i = t
    · rw [hi, eT]; simp
    · rw [e i hi]; exact h.st i
  · intro i hi; exact (est2 i).2 (h.new i hi)
  · intro i hi
    have hit : i ≠ t := fun y => by rw [y, eT] at hi; simp at hi
    rw [e i hit] at hi ⊢; rw [ec, en]; have := h.act i hi; exact ⟨this.1, by omega, by omega⟩
  · intro i hi; by_cases hit : i = t
    · rw [hit, eT, ec, en]; exact ⟨by simp only; omega, Nat.le_refl _, Nat.le_refl _, by have := (h.act t h0).2.2; simp only; omega⟩
    · rw [e i hit] at hi ⊢; rw [ec, en]; have := h.com i hi; exact ⟨this.1, by omega, by omega, by omega⟩
  · intro i hi
    have h2 := (est2 i).1 hi
    have hit : i ≠ t := fun y => by rw [y] at h2; omega
    rw [e i hit]; exact h.gone i h2
  · intro i hi; rw [ei, eo]; by_cases hit : i = t
    · rw [hit]; exact hf
    · rw [e i hit] at hi; exact h.i1 i hi
  · intro a b hab hc k; rw [ev, ew, eo, ei]; exact h.i2 a b hab (cc a b hc) k
  · intro a b hab hc k; rw [ew, ew]; exact h.i3 a b hab (cc a b hc) k
  · intro i hi k hk; rw [ev] at hk
    by_cases hit : i = t
    · subst hit; rw [eT] at hi
      exact ⟨.inr hi, h.i4 i (h.act i h0).1 k hk⟩
    · rw [e i hit] at hi; exact ⟨.inl hit, h.i4 i hi k hk⟩
  · intro a b h1 h2 hc hk
    have hbt : b ≠ t := fun y => by rw [y, eT] at h2; simp at h2
    rw [e b hbt] at h2; rw [ev, ew] at hk
    by_cases hat : a = t
    · subst hat; rw [eT]
      cases htt : tr with
      | true => rfl
      | false =>
        rcases htr htt with hx | ⟨hx, hy⟩
        · exact absurd h2 (hx b hbt)
        · obtain ⟨k, hk | hk⟩ := hk
          · exact absurd hk (hy k)
          · rw [hx] at hk; cases hk
    · rw [e a hat] at h1 ⊢; exact h.i6 a b h1 h2 (cc a b hc) hk
  · intro a b h1 h2 h3; rw [ew] at h2; rw [eb, es]
    have h3' : (S.L b).st ≠ 2 := fun x => h3 ((est2 b).2 x)
    by_cases hat : a = t
    · subst hat; rw [eT]
      have hn := hnn2 h2
      have hb := bi b h3'
      refine .inr ⟨by simp only; omega, ?_⟩
      show (S.L b).snap < nn
      rcases h.st b with hs | hs | hs
      · have := (h.act b hs).2.2; omega
      · have h4 := h.com b hs; omega
      · exact absurd hs h3'
    · rw [e a hat] at h1 ⊢; exact h.t1 a b h1 h2 h3'
  · intro a b h1 h2 h3 h4; rw [ew] at h3 h4
    by_cases hat : a = t
    · subst hat; rw [eT]
      by_cases hbt : b = a
      · subst hbt; rw [eT]; simp
      · rw [e b hbt] at h2 ⊢; intro hlt
        have := (h.com b h2).2.1
        simp only at hlt; omega
    · rw [e a hat] at h1 ⊢
      by_cases hbt : b = t
      · subst hbt; rw [eT]; intro _
        have := (h.com a h1).2.2.1
        show _ < nn
        rw [hnn2 h4]; omega
      · rw [e b hbt] at h2 ⊢; exact h.t2 a b h1 h2 h3 h4
  · intro a b h1 h2 hab
    by_cases hat : a = t
    · subst hat; rw [eT]
      have hbt : b ≠ a := fun y => hab y.symm
      rw [e b hbt] at h2 ⊢
      have := (h.com b h2).2.1
      simp only; omega
    · rw [e a hat] at h1 ⊢
      by_cases hbt : b = t
      · subst hbt; rw [eT]
        have := (h.com a h1).2.1
        simp only; omega
      · rw [e b hbt] at h2 ⊢; exact h.te a b h1 h2 hab

/-- s is behind t in no serial order: it wrote a version ahead of t's, or one that t saw, or read one that t's came behind. -/
def SS.dep (S : SS) (s t : Nat) : Prop :=
  s ≠ t ∧ ((∃ k, k ∈ (S.L s).wr ∧ k ∈ (S.L t).wr ∧ (S.L s).at_ < (S.L t).at_) ∨ (∃ k, k ∈ (S.L s).wr ∧ (S.L t).cov k ∧ (S.L s).at_ ≤ (S.L t).snap) ∨ (∃ k, (S.L s).cov k ∧ k ∈ (S.L t).wr ∧ (S.L s).snap < (S.L t).at_))

/-- Of any committed ones, one has no dependency from the others. -/
theorem Inv.source {S : SS} (h : Inv S) (U : List Nat) (hU : U ≠ []) (hc : ∀ t ∈ U, (S.L t).st = 1) : ∃ t ∈ U, ∀ s ∈ U, ¬ S.dep s t := by
  refine source_of (fun i => (S.L i).b) (fun i => (S.L i).e) S.dep (fun s t => (S.L s).fout = true ∧ (S.L t).fin = true) U (fun t ht => (h.com t (hc t ht)).1) ?_ ?_ hU
  · intro s hs t ht hd
    have cs := hc s hs
    have ct := hc t ht
    have bs := (h.com s cs).1
    have bt := (h.com t ct).1
    obtain ⟨hne, hd⟩ := hd
    refine ⟨hne, ?_⟩
    rcases hd with ⟨k, h1, h2, h3⟩ | ⟨k, h1, h2, h3⟩ | ⟨k, h1, h2, h3⟩
    · by_cases hle : (S.L s).e ≤ (S.L t).b
      · exact .inl hle
      · by_cases hle2 : (S.L t).e ≤ (S.L s).b
        · have := h.t2 t s ct cs (List.ne_nil_of_mem h2) (List.ne_nil_of_mem h1) (by omega); omega
        · exact absurd h2 (h.i3 s t hne ⟨by omega, by omega, fun _ => by omega, fun _ => by omega⟩ k h1)
    · rcases h.t1 s t cs (List.ne_nil_of_mem h1) (by omega) with hx | hx
      · exact .inl (by omega)
      · omega
    · rcases h.t1 t s ct (List.ne_nil_of_mem h2) (by omega) with hx | hx
      · omega
      · by_cases hle : (S.L s).e ≤ (S.L t).b
        · exact .inl hle
        · exact .inr ⟨h.i2 s t hne ⟨by omega, by omega, fun _ => by omega, fun _ => by omega⟩ k h1 h2, by omega⟩
  · intro q _ p hp t _ h1 h2
    exact h.i1 p (hc p hp) ⟨h1.2, h2.1⟩

end Go.Proofs.YteldfmgjbgedaaaGreat
