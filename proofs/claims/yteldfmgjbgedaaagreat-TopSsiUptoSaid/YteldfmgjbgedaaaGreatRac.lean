/-
  The manager's state and the transactions' (plain): what ties them, and that each step keeps it.
  The tie (plain): a read or a scan that is noted; a write.
  The tie (plain): a write, a commit.
-/
import Derived.Test.YteldfmgjbgedaaaGreatPx
import Derived.Test.YteldfmgjbgedaaaGreatOg
namespace Go.Proofs.YteldfmgjbgedaaaGreat

/-- What the manager holds of the transactions. -/
structure Tie0 (M : MS) (Z : SS) : Prop where
  now : Z.now = M.now
  clock : Z.clock = M.clock
  last : Z.last = M.last
  H : ∀ i k, Z.H i k → HN M.N i k
  trk : ∀ t, (Z.L t).trk = true ↔ ∃ r, M.T t = some r
  tx : ∀ t r, M.T t = some r → (Z.L t).st = (if r.2.act = true then 0 else 1) ∧ (Z.L t).snap = r.2.snap ∧ (Z.L t).b = r.2.b ∧ (r.2.act = false → (Z.L t).e = r.2.e) ∧ (Z.L t).fin = r.2.fi ∧ (Z.L t).fout = r.2.fo
  lk : ∀ s t, M.G s = some t ↔ ((Z.L t).st = 0 ∧ s ∈ (Z.L t).wr)
  wc : ∀ t r, M.T t = some r → r.2.act = false → ∀ s, s ∈ (Z.L t).wr ↔ s ∈ M.W t
  nt : ∀ t, M.N t ≠ none → ∃ r, M.T t = some r

/-- With nobody under way, nobody is kept. -/
def Idle (M : MS) : Prop := (∀ t r, M.T t = some r → r.2.act = false) → ∀ t, M.T t = none

theorem Tie0.st0 {M : MS} {Z : SS} (h : Tie0 M Z) (hi : Inv Z) {t : Nat} (h0 : (Z.L t).st = 0) : ∃ r, M.T t = some r ∧ r.2.act = true := by
  obtain ⟨r, hr⟩ := (h.trk t).1 (hi.act t h0).1
  refine ⟨r, hr, ?_⟩
  have h1 := (h.tx t r hr).1
  cases e : r.2.act with
  | true => rfl
  | false => rw [e, h0] at h1; simp at h1

theorem Tie0.act {M : MS} {Z : SS} (h : Tie0 M Z) {t : Nat} {r : Nat × TR} (hr : M.T t = some r) (ha : r.2.act = true) : (Z.L t).st = 0 := by
  have h1 := (h.tx t r hr).1
  rw [ha] at h1; simpa using h1

/-- Who is concurrent. -/
theorem Tie0.with_ {M : MS} {Z : SS} (h : Tie0 M Z) {t : Nat} {r : Nat × TR} (hr : M.T t = some r) (ha : r.2.act = true) (o : Nat) : M.with_ t o ↔ o ≠ t ∧ (Z.L o).trk = true ∧ Z.conc t o := by
  have h0 := h.act hr ha
  constructor
  · rintro ⟨ho, r', p, hr', hp, hc⟩
    rw [hr] at hr'; cases hr'
    have hx := h.tx o p hp
    refine ⟨ho, (h.trk o).2 ⟨p, hp⟩, by omega, ?_, ?_, fun e => by omega⟩
    · rw [hx.1]; split <;> omega
    · intro e
      cases ea : p.2.act with
      | true => rw [hx.1, ea] at e; simp at e
      | false =>
        rw [hx.2.2.2.1 ea, (h.tx t r hr).2.2.1]
        rcases hc with e2 | e2
        · rw [ea] at e2; cases e2
        · exact e2
  · rintro ⟨ho, ht, hc⟩
    obtain ⟨p, hp⟩ := (h.trk o).1 ht
    refine ⟨ho, r, p, hr, hp, ?_⟩
    have hx := h.tx o p hp
    cases ea : p.2.act with
    | true => exact .inl rfl
    | false =>
      right
      have e1 : (Z.L o).st = 1 := by rw [hx.1, ea]; rfl
      have := hc.2.2.1 e1
      rw [hx.2.2.2.1 ea, (h.tx t r hr).2.2.1] at this
      exact this

theorem Tie0.begin {M : MS} {Z : SS} (h : Tie0 M Z) (hi : Inv Z) (b : Nat) : Tie0 (M.begin b) Z.begin := by
  have hz : (Z.L (M.last + 1)).st = 2 := hi.new _ (by rw [h.last]; omega)
  have hn : M.T (M.last + 1) = none := by
    cases e : M.T (M.last + 1) with
    | none => rfl
    | some r => have := (h.trk _).2 ⟨r, e⟩; rw [hi.gone _ hz] at this; cases this
  have eL : ∀ i, i ≠ M.last + 1 → Z.begin.L i = Z.L i := fun i hi => by unfold SS.begin; simp only; exact Z.put_ne _ (by rw [h.last]; exact hi)
  have eN : Z.begin.L (M.last + 1) = ⟨0, Z.now, Z.clock + 1, 0, 0, false, false, true, fun _ => False, []⟩ := by
    unfold SS.begin; simp only; rw [h.last]; exact Z.put_same _ _
  have eT : ∀ i, i ≠ M.last + 1 → (M.begin b).T i = M.T i := fun i hi => if_neg hi
  have eTN : (M.begin b).T (M.last + 1) = some (b, ⟨M.last + 1, M.now, true, M.clock + 1, 0, false, false, .slice none 0 0⟩) := if_pos rfl
  constructor
  · exact h.now
  · show Z.clock + 1 = M.clock + 1; rw [h.clock]
  · show Z.last + 1 = M.last + 1; rw [h.last]
  · exact h.H
  · intro t
    by_cases e : t = M.last + 1
    · subst e; rw [eN, eTN]; simp
    · rw [eL t e, eT t e]; exact h.trk t
  · intro t r hr
    by_cases e : t = M.last + 1
    · subst e; rw [eTN] at hr; cases hr; rw [eN]; exact ⟨rfl, h.now, by show Z.clock + 1 = M.clock + 1; rw [h.clock], fun e => (by cases e), rfl, rfl⟩
    · rw [eT t e] at hr; rw [eL t e]; exact h.tx t r hr
  · intro s t
    show M.G s = some t ↔ _
    by_cases e : t = M.last + 1
    · subst e; rw [eN, h.lk, hz]; simp
    · rw [eL t e]; exact h.lk s t
  · intro t r hr ha s
    by_cases e : t = M.last + 1
    · subst e; rw [eTN] at hr; cases hr; cases ha
    · rw [eT t e] at hr; rw [eL t e]
      show _ ↔ s ∈ (if t = M.last + 1 then [] else M.W t)
      rw [if_neg e]; exact h.wc t r hr ha s
  · intro t ht
    obtain ⟨r, hr⟩ := h.nt t ht
    exact ⟨r, by rw [eT t (fun e => by rw [e, hn] at hr; cases hr)]; exact hr⟩

theorem Tie0.drop {M : MS} {Z : SS} (h : Tie0 M Z) (t : Nat) : Tie0 (M.drop t) (Z.drop t) := by
  have eL : ∀ i, i ≠ t → (Z.drop t).L i = Z.L i := fun i hi => Z.put_ne _ hi
  have eN : (Z.drop t).L t = { Z.L t with st := 2, trk := false } := Z.put_same _ _
  have eT : ∀ i, i ≠ t → (M.drop t).T i = M.T i := fun i hi => if_neg hi
  have eTN : (M.drop t).T t = none := if_pos rfl
  constructor
  · exact h.now
  · exact h.clock
  · exact h.last
  · rintro i k ⟨hi, hk⟩
    obtain ⟨L, hL, hy⟩ := h.H i k hk
    exact ⟨L, by show setN M.N t none i = some L; unfold setN; rw [if_neg hi]; exact hL, hy⟩
  · intro i
    by_cases e : i = t
    · subst e; rw [eN, eTN]; simp
    · rw [eL i e, eT i e]; exact h.trk i
  · intro i r hr
    by_cases e : i = t
    · subst e; rw [eTN] at hr; cases hr
    · rw [eT i e] at hr; rw [eL i e]; exact h.tx i r hr
  · intro s i
    show (if M.G s = some t then none else M.G s) = some i ↔ _
    by_cases e : i = t
    · subst e
      rw [eN]
      constructor
      · intro hh; split at hh
        · cases hh
        · rename_i hne; exact absurd hh hne
      · rintro ⟨hh, -⟩; simp at hh
    · rw [eL i e, ← h.lk s i]
      constructor
      · intro hh; split at hh
        · cases hh
        · exact hh
      · intro hh; rw [if_neg (fun e2 => e (by rw [e2] at hh; cases hh; rfl))]; exact hh
  · intro i r hr ha s
    by_cases e : i = t
    · subst e; rw [eTN] at hr; cases hr
    · rw [eT i e] at hr; rw [eL i e]; exact h.wc i r hr ha s
  · intro i hi
    have hn : i ≠ t ∧ M.N i ≠ none := by
      by_cases e : i = t
      · exact absurd (by show setN M.N t none i = none; unfold setN; rw [if_pos e]) hi
      · exact ⟨e, fun h2 => hi (by show setN M.N t none i = none; unfold setN; rw [if_neg e]; exact h2)⟩
    obtain ⟨r, hr⟩ := h.nt i hn.2
    exact ⟨r, by rw [eT i hn.1]; exact hr⟩

/-- Those that are let go are committed, and concurrent with none under way. -/
theorem Tie0.old {M : MS} {Z : SS} (h : Tie0 M Z) (hi : Inv Z) {i : Nat} (ho : M.old i) : (Z.L i).st ≠ 0 ∧ ∀ a, (Z.L a).st = 0 → ¬ Z.conc i a := by
  obtain ⟨p, hp, ha, hc⟩ := ho
  have hx := h.tx i p hp
  have h1 : (Z.L i).st = 1 := by rw [hx.1, ha]; rfl
  refine ⟨by omega, fun a h0 hcc => ?_⟩
  obtain ⟨r, hr, hra⟩ := h.st0 hi h0
  have := hcc.2.2.2 h1
  rw [hx.2.2.2.1 ha, (h.tx a r hr).2.2.1] at this
  exact hc a r hr hra this

theorem Tie0.forget {M : MS} {Z : SS} (h : Tie0 M Z) {F : Nat → Bool} (hF : ∀ i, F i = true ↔ M.old i) : Tie0 (M.forget F) (Z.forget F) ∧ Idle (M.forget F) := by
  have e : ∀ i, (Z.forget F).L i = if F i = true then { Z.L i with trk := false } else Z.L i := fun i => rfl
  have est : ∀ i, ((Z.forget F).L i).st = (Z.L i).st := fun i => by rw [e]; split <;> rfl
  have ewr : ∀ i, ((Z.forget F).L i).wr = (Z.L i).wr := fun i => by rw [e]; split <;> rfl
  have eT : ∀ i, (M.forget F).T i = if F i = true then none else M.T i := fun i => rfl
  have some_ : ∀ {i r}, (M.forget F).T i = some r → F i = false ∧ M.T i = some r := fun {i r} hr => by
    rw [eT] at hr
    cases hf : F i with
    | true => rw [hf] at hr; simp at hr
    | false => rw [hf] at hr; exact ⟨rfl, by simpa using hr⟩
  refine ⟨?_, ?_⟩
  · constructor
    · exact h.now
    · exact h.clock
    · exact h.last
    · rintro i k ⟨hi, hk⟩
      obtain ⟨L, hL, hy⟩ := h.H i k hk
      exact ⟨L, by show (if F i = true then none else M.N i) = some L; rw [hi]; exact hL, hy⟩
    · intro i
      rw [e, eT]
      cases hf : F i with
      | true => simp
      | false => simpa using h.trk i
    · intro i r hr
      obtain ⟨hf, hr⟩ := some_ hr
      rw [e, hf]; exact h.tx i r hr
    · intro s i
      rw [est, ewr]; exact h.lk s i
    · intro i r hr ha s
      obtain ⟨hf, hr⟩ := some_ hr
      rw [ewr]; exact h.wc i r hr ha s
    · intro i hi
      have hn : F i = false ∧ M.N i ≠ none := by
        cases hf : F i with
        | true => exact absurd (by show (if F i = true then none else M.N i) = none; rw [hf]; rfl) hi
        | false => exact ⟨rfl, fun h2 => hi (by show (if F i = true then none else M.N i) = none; rw [hf]; exact h2)⟩
      obtain ⟨r, hr⟩ := h.nt i hn.2
      exact ⟨r, by rw [eT, hn.1]; exact hr⟩
  · intro hall t
    rw [eT]
    cases hf : F t with
    | true => rfl
    | false =>
      simp only [Bool.false_eq_true, if_false]
      cases ht : M.T t with
      | none => rfl
      | some p =>
        exfalso
        have hact : ∀ a r, M.T a = some r → r.2.act = false := fun a r hr => by
          cases hfa : F a with
          | true => obtain ⟨p', hp', ha', -⟩ := (hF a).1 hfa; rw [hr] at hp'; cases hp'; exact ha'
          | false => exact hall a r (by rw [eT, hfa]; exact hr)
        have := (hF t).2 ⟨p, ht, hact t p ht, fun a r hr hra => by rw [hact a r hr] at hra; cases hra⟩
        rw [hf] at this; cases this

/-- One leaves without a trace. -/
theorem Tie0.gone {M M' : MS} {Z : SS} (h : Tie0 M Z) (hi : Inv Z) {t : Nat} (hg : M.GoneStep t M') : ∃ F, Tie0 M' ((Z.drop t).forget F) ∧ Idle M' ∧ Inv ((Z.drop t).forget F) := by
  obtain ⟨F, rfl, hF⟩ := hg
  have h1 := h.drop t
  have i1 := hi.drop t
  obtain ⟨h2, h3⟩ := h1.forget hF
  exact ⟨F, h2, h3, i1.forget F (fun i e => h1.old i1 ((hF i).1 e))⟩
end Go.Proofs.YteldfmgjbgedaaaGreat

namespace Go.Proofs.YteldfmgjbgedaaaGreat

/-- A transaction's record with flags laid on. -/
def flag2 (fi fo : Bool) (p : Nat × TR) : Nat × TR := (p.1, { p.2 with fi := p.2.fi || fi, fo := p.2.fo || fo })

theorem flag2_T (M : MS) {t : Nat} {os : List Nat} (ht : t ∉ os) (inn : Bool) (i : Nat) : ((M.flags (oneIf t os) (!inn)).flags os inn).T i =
    (M.T i).map (flag2 (if i = t then !inn && !os.isEmpty else inn && decide (i ∈ os)) (if i = t then inn && !os.isEmpty else !inn && decide (i ∈ os))) := by
  have e0 : ∀ (M : MS) (l : List Nat) (b : Bool) (i : Nat), (M.flags l b).T i = if i ∈ l then (M.T i).map (flagP b) else M.T i := fun _ _ _ _ => rfl
  have eid : ∀ o : Option (Nat × TR), o.map (flag2 false false) = o := fun o => by cases o <;> simp [flag2]
  rw [e0, e0]
  by_cases e : i = t
  · subst e
    rw [if_neg ht]
    cases os with
    | nil => simp [oneIf, eid]
    | cons a l => cases inn <;> simp [oneIf] <;> congr 1
  · have h1 : i ∉ oneIf t os := by cases os with | nil => simp [oneIf] | cons a l => simpa [oneIf] using e
    rw [if_neg h1]
    by_cases h2 : i ∈ os
    · cases inn <;> simp [h2, e] <;> congr 1
    · simp [h2, e, eid]

theorem flag2_act {p : Nat × TR} {a b : Bool} : (flag2 a b p).2.act = p.2.act := rfl

/-- The manager's state with flags laid on; the transactions' likewise. -/
theorem Tie0.flagged {M M' : MS} {Z Z' : SS} (h : Tie0 M Z) (fi fo : Nat → Bool) (hn : Z'.now = M'.now) (hc : Z'.clock = M'.clock) (hl : Z'.last = M'.last) (hT : ∀ i, M'.T i = (M.T i).map (flag2 (fi i) (fo i))) (hW : M'.W = M.W)
    (hH : ∀ i k, Z'.H i k → HN M'.N i k) (hN : ∀ t, M'.N t ≠ none → ∃ r, M.T t = some r)
    (hst : ∀ i, (Z'.L i).st = (Z.L i).st) (htrk : ∀ i, (Z'.L i).trk = (Z.L i).trk) (hsn : ∀ i, (Z'.L i).snap = (Z.L i).snap) (hb : ∀ i, (Z'.L i).b = (Z.L i).b) (he : ∀ i, (Z'.L i).e = (Z.L i).e)
    (hfi : ∀ i, (Z'.L i).fin = ((Z.L i).fin || fi i)) (hfo : ∀ i, (Z'.L i).fout = ((Z.L i).fout || fo i))
    (hlk : ∀ s t, M'.G s = some t ↔ ((Z.L t).st = 0 ∧ s ∈ (Z'.L t).wr)) (hwr : ∀ t, (Z.L t).st ≠ 0 → (Z'.L t).wr = (Z.L t).wr) : Tie0 M' Z' := by
  have some_ : ∀ {i r}, M'.T i = some r → ∃ p, M.T i = some p ∧ r = flag2 (fi i) (fo i) p := fun {i r} hr => by
    rw [hT] at hr
    cases e : M.T i with
    | none => rw [e] at hr; cases hr
    | some p => rw [e] at hr; cases hr; exact ⟨p, rfl, rfl⟩
  constructor
  · exact hn
  · exact hc
  · exact hl
  · exact hH
  · intro t
    rw [htrk, h.trk, hT]
    constructor
    · rintro ⟨r, hr⟩; exact ⟨_, by rw [hr]; rfl⟩
    · rintro ⟨r, hr⟩
      cases e : M.T t with
      | none => rw [e] at hr; cases hr
      | some p => exact ⟨p, rfl⟩
  · intro t r hr
    obtain ⟨p, hp, rfl⟩ := some_ hr
    obtain ⟨a1, a2, a3, a4, a5, a6⟩ := h.tx t p hp
    refine ⟨by rw [hst]; exact a1, by rw [hsn]; exact a2, by rw [hb]; exact a3, fun ha => by rw [he]; exact a4 ha, by rw [hfi, a5]; rfl, by rw [hfo, a6]; rfl⟩
  · intro s t
    rw [hst]; exact hlk s t
  · intro t r hr ha s
    obtain ⟨p, hp, rfl⟩ := some_ hr
    have ha' : p.2.act = false := ha
    rw [hwr t (by rw [(h.tx t p hp).1, ha']; simp), hW]
    exact h.wc t p hp ha' s
  · intro t ht
    obtain ⟨r, hr⟩ := hN t ht
    exact ⟨_, by rw [hT, hr]; rfl⟩

theorem Idle.flagged {M M' : MS} {fi fo : Nat → Bool} (h : Idle M) (hT : ∀ i, M'.T i = (M.T i).map (flag2 (fi i) (fo i))) : Idle M' := by
  intro hall t
  rw [hT, h (fun a r hr => hall a (flag2 (fi a) (fo a) r) (by rw [hT, hr]; rfl)) t]; rfl

/-- Other notes. -/
theorem Tie0.notes {M : MS} {Z : SS} (h : Tie0 M Z) {t : Nat} {rt : Nat × TR} (hr : M.T t = some rt) {N' : Nat → Option (List RdT)} (hk : NoteKeep M.N N' t) : Tie0 { M with N := N' } Z :=
  ⟨h.now, h.clock, h.last, fun i k hi => hk.mono i k (h.H i k hi), h.trk, h.tx, h.lk, h.wc, fun i hi => (hk.only i hi).elim (h.nt i) (fun e => ⟨rt, by rw [e]; exact hr⟩)⟩

/-- A read that is noted. -/
theorem Tie0.note {M M' : MS} {Z : SS} (h : Tie0 M Z) (hi : Inv Z) (hid : Idle M) {t : Nat} {rt : Nat × TR} (hr : M.T t = some rt) (ha : rt.2.act = true) {x : RdT} {c : Int} (hs : M.NoteStep t rt x c M') :
    (c ≠ 0 ∧ ∃ F, Tie0 M' ((Z.drop t).forget F) ∧ Idle M' ∧ Inv ((Z.drop t).forget F)) ∨
    (c = 0 ∧ ∃ O some H, Tie0 M' (Z.read t (fun k => covK x k = true) O some H) ∧ Idle M' ∧ Inv (Z.read t (fun k => covK x k = true) O some H)) := by
  obtain ⟨N', hk, hs⟩ := hs
  have h1 := h.notes hr hk
  rcases hs with ⟨hc, hg⟩ | ⟨hc, os, hcov, hos, hbad, rfl⟩
  · exact .inl ⟨hc, h1.gone hi hg⟩
  · right
    have h0 := h.act hr ha
    have hnot : t ∉ os := fun e => ((hos t).1 e).1.1 rfl
    have hmem : ∀ o, o ∈ os → o ≠ t := fun o ho e => hnot (e ▸ ho)
    have hbo : ∀ o ∈ os, M.badO true o = false := fun o ho => by
      have := (Bool.or_eq_false_iff.1 hbad).2
      have := List.any_eq_false.1 this o ho
      simpa using this
    refine ⟨hc, fun o => decide (o ∈ os), !os.isEmpty, HN N', ?_, ?_, ?_⟩
    · have eL : ∀ i, (Z.read t (fun k => covK x k = true) (fun o => decide (o ∈ os)) (!os.isEmpty) (HN N')).L i = if i = t then { Z.L t with cov := fun k => (Z.L t).cov k ∨ covK x k = true, fout := (Z.L t).fout || !os.isEmpty } else if decide (i ∈ os) = true then { Z.L i with fin := true } else Z.L i := fun i => rfl
      refine h1.flagged (fun i => if i = t then !true && !os.isEmpty else true && decide (i ∈ os)) (fun i => if i = t then true && !os.isEmpty else !true && decide (i ∈ os)) h1.now h1.clock h1.last (fun i => flag2_T ({ M with N := N' } : MS) hnot true i) rfl (fun i k hk => hk) h1.nt ?_ ?_ ?_ ?_ ?_ ?_ ?_ ?_ ?_
      · intro i; rw [eL]; by_cases e : i = t <;> by_cases e2 : i ∈ os <;> simp [e, e2]
      · intro i; rw [eL]; by_cases e : i = t <;> by_cases e2 : i ∈ os <;> simp [e, e2]
      · intro i; rw [eL]; by_cases e : i = t <;> by_cases e2 : i ∈ os <;> simp [e, e2]
      · intro i; rw [eL]; by_cases e : i = t <;> by_cases e2 : i ∈ os <;> simp [e, e2]
      · intro i; rw [eL]; by_cases e : i = t <;> by_cases e2 : i ∈ os <;> simp [e, e2]
      · intro i; rw [eL]; by_cases e : i = t <;> by_cases e2 : i ∈ os <;> simp [e, e2]
      · intro i; rw [eL]; by_cases e : i = t <;> by_cases e2 : i ∈ os <;> simp [e, e2]
      · intro s i
        have : ((Z.read t (fun k => covK x k = true) (fun o => decide (o ∈ os)) (!os.isEmpty) (HN N')).L i).wr = (Z.L i).wr := by rw [eL]; by_cases e : i = t <;> by_cases e2 : i ∈ os <;> simp [e, e2]
        rw [this]; exact h.lk s i
      · intro i _; rw [eL]; by_cases e : i = t <;> by_cases e2 : i ∈ os <;> simp [e, e2]
    · exact hid.flagged (M' := (({ M with N := N' } : MS).flags (oneIf t os) false).flags os true) (fun i => flag2_T ({ M with N := N' } : MS) hnot true i)
    · refine hi.read h0 _ _ _ _ ?_ ?_ ?_ (fun i k hik => hk.mono i k (h.H i k hik)) hcov
      · rintro o ho htk hcc ⟨k, hkw, hkc⟩
        refine decide_eq_true ((hos o).2 ⟨(h.with_ hr ha o).2 ⟨ho, htk, hcc⟩, k, ?_, hkc⟩)
        obtain ⟨p, hp⟩ := (h.trk o).1 htk
        refine ⟨p, hp, ?_⟩
        cases ea : p.2.act with
        | true => simp; exact (h.lk k o).2 ⟨h.act hp ea, hkw⟩
        | false => simp; exact (h.wc o p hp ea k).1 hkw
      · intro o ho _
        have : o ∈ os := by simpa using ho
        cases os with
        | nil => cases this
        | cons a l => rfl
      · intro o ho1 ho2 hst
        have ho : o ∈ os := by simpa using ho2
        obtain ⟨-, r', p, -, hp, -⟩ := ((hos o).1 ho).1
        have hb := hbo o ho
        unfold MS.badO at hb
        rw [hp] at hb
        have hx := h.tx o p hp
        have hpa : p.2.act = false := by
          cases ea : p.2.act with
          | false => rfl
          | true => rw [hx.1, ea] at hst; simp at hst
        rw [hx.2.2.2.2.2]
        simpa [hpa] using hb
end Go.Proofs.YteldfmgjbgedaaaGreat

namespace Go.Proofs.YteldfmgjbgedaaaGreat

/-- A write. -/
theorem Tie0.write {M M' : MS} {Z : SS} (h : Tie0 M Z) (hi : Inv Z) (hid : Idle M) {t : Nat} {rt : Nat × TR} (hr : M.T t = some rt) (ha : rt.2.act = true) {s : Key} {la : Nat} {c : Int} (hs : M.WriteStep t rt s la c M') :
    (c = 0 ∧ M' = M ∧ s ∈ (Z.L t).wr) ∨ (c ≠ 0 ∧ ∃ F, Tie0 M' ((Z.drop t).forget F) ∧ Idle M' ∧ Inv ((Z.drop t).forget F)) ∨
    (c = 0 ∧ s ∉ (Z.L t).wr ∧ la ≤ (Z.L t).snap ∧ ∃ O some, Tie0 M' (Z.write t s O some) ∧ Idle M' ∧ Inv (Z.write t s O some)) := by
  have h0 := h.act hr ha
  rcases hs with ⟨hg, hc, rfl⟩ | ⟨hc, hg⟩ | ⟨hc, hg, hla, hlate, os, hos, hbad, rfl⟩
  · exact .inl ⟨hc, rfl, ((h.lk s t).1 hg).2⟩
  · exact .inr (.inl ⟨hc, h.gone hi hg⟩)
  · right; right
    have hsn : s ∉ (Z.L t).wr := fun e => by have := (h.lk s t).2 ⟨h0, e⟩; rw [hg] at this; cases this
    have hnot : t ∉ os := fun e => ((hos t).1 e).1.1 rfl
    have hbo : ∀ o ∈ os, M.badO false o = false := fun o ho => by
      have := (Bool.or_eq_false_iff.1 hbad).2
      have := List.any_eq_false.1 this o ho
      simpa using this
    refine ⟨hc, hsn, by rw [(h.tx t rt hr).2.1]; exact hla, fun o => decide (o ∈ os), !os.isEmpty, ?_, ?_, ?_⟩
    · have eL : ∀ i, (Z.write t s (fun o => decide (o ∈ os)) (!os.isEmpty)).L i = if i = t then { Z.L t with wr := (Z.L t).wr ++ [s], fin := (Z.L t).fin || !os.isEmpty } else if decide (i ∈ os) = true then { Z.L i with fout := true } else Z.L i := fun i => rfl
      refine h.flagged (fun i => if i = t then !false && !os.isEmpty else false && decide (i ∈ os)) (fun i => if i = t then false && !os.isEmpty else !false && decide (i ∈ os)) h.now h.clock h.last (fun i => flag2_T (M.lock s t) hnot false i) rfl h.H h.nt ?_ ?_ ?_ ?_ ?_ ?_ ?_ ?_ ?_
      · intro i; rw [eL]; by_cases e : i = t <;> by_cases e2 : i ∈ os <;> simp [e, e2]
      · intro i; rw [eL]; by_cases e : i = t <;> by_cases e2 : i ∈ os <;> simp [e, e2]
      · intro i; rw [eL]; by_cases e : i = t <;> by_cases e2 : i ∈ os <;> simp [e, e2]
      · intro i; rw [eL]; by_cases e : i = t <;> by_cases e2 : i ∈ os <;> simp [e, e2]
      · intro i; rw [eL]; by_cases e : i = t <;> by_cases e2 : i ∈ os <;> simp [e, e2]
      · intro i; rw [eL]; by_cases e : i = t <;> by_cases e2 : i ∈ os <;> simp [e, e2]
      · intro i; rw [eL]; by_cases e : i = t <;> by_cases e2 : i ∈ os <;> simp [e, e2]
      · intro u i
        show (if u = s then some t else M.G u) = some i ↔ _
        rw [eL]
        by_cases e : i = t
        · subst e
          simp only [if_true]
          by_cases e2 : u = s
          · subst e2; simp [h0]
          · rw [if_neg e2, h.lk]; simp [e2]
        · rw [if_neg e]
          have ew : (if decide (i ∈ os) = true then { Z.L i with fout := true } else Z.L i).wr = (Z.L i).wr := by split <;> rfl
          rw [ew]
          by_cases e2 : u = s
          · subst e2
            rw [if_pos rfl, ← h.lk, hg]
            constructor
            · intro hh; injection hh with hh; exact absurd hh.symm e
            · intro hh; cases hh
          · rw [if_neg e2]; exact h.lk u i
      · intro i hst
        have e : i ≠ t := fun e => hst (e ▸ h0)
        rw [eL, if_neg e]; split <;> rfl
    · exact hid.flagged (M' := ((M.lock s t).flags (oneIf t os) true).flags os false) (fun i => flag2_T (M.lock s t) hnot false i)
    · refine hi.write h0 s _ _ ?_ ?_ ?_ ?_ ?_
      · intro o ho htk hcc hH
        exact decide_eq_true ((hos o).2 ⟨(h.with_ hr ha o).2 ⟨ho, htk, hcc⟩, h.H o s hH⟩)
      · intro o ho _
        have : o ∈ os := by simpa using ho
        cases os with
        | nil => cases this
        | cons a l => rfl
      · intro o ho1 ho2 hst
        have ho : o ∈ os := by simpa using ho2
        obtain ⟨-, r', p, -, hp, -⟩ := ((hos o).1 ho).1
        have hb := hbo o ho
        unfold MS.badO at hb
        rw [hp] at hb
        have hx := h.tx o p hp
        have hpa : p.2.act = false := by
          cases ea : p.2.act with
          | false => rfl
          | true => rw [hx.1, ea] at hst; simp at hst
        rw [hx.2.2.2.2.1]
        simpa [hpa] using hb
      · intro o ho hst hx
        have := (h.lk s o).2 ⟨hst, hx⟩
        rw [hg] at this; cases this
      · intro o ho hst htk hcc hx
        obtain ⟨p, hp⟩ := (h.trk o).1 htk
        have hxx := h.tx o p hp
        have hpa : p.2.act = false := by
          cases ea : p.2.act with
          | false => rfl
          | true => rw [hxx.1, ea] at hst; simp at hst
        exact hlate o p ((h.with_ hr ha o).2 ⟨ho, htk, hcc⟩) hp hpa ((h.wc o p hp hpa s).1 hx)

theorem left_T (M : MS) (t : Nat) (dr : Bool) (i : Nat) : (M.left t dr).T i = if i = t ∧ dr = true then none else M.T i := by
  cases dr with
  | true => show (if i = t then none else M.T i) = _; by_cases e : i = t <;> simp [e]
  | false => show M.T i = _; simp
theorem left_N (M : MS) (t : Nat) (dr : Bool) (i : Nat) : (M.left t dr).N i = if i = t ∧ dr = true then none else M.N i := by
  cases dr with
  | true => show setN M.N t none i = _; unfold setN; by_cases e : i = t <;> simp [e]
  | false => show M.N i = _; simp
theorem left_oth (M : MS) (t : Nat) (dr : Bool) : (M.left t dr).now = M.now ∧ (M.left t dr).clock = M.clock ∧ (M.left t dr).last = M.last ∧ (M.left t dr).W = M.W ∧ (M.left t dr).G = M.G := by cases dr <;> exact ⟨rfl, rfl, rfl, rfl, rfl⟩

/-- A commit. -/
theorem Tie0.commit {M M' : MS} {Z : SS} (h : Tie0 M Z) (hi : Inv Z) {t : Nat} {rt : Nat × TR} (hr : M.T t = some rt) (ha : rt.2.act = true) {n : Nat} {c : Int} (hs : M.CommitStep t rt n c M') :
    (c ≠ 0 ∧ ∃ F, Tie0 M' ((Z.drop t).forget F) ∧ Idle M' ∧ Inv ((Z.drop t).forget F)) ∨
    (c = 0 ∧ n = (Z.commit t true).now ∧ ∃ tr F, Tie0 M' ((Z.commit t tr).forget F) ∧ Idle M' ∧ Inv ((Z.commit t tr).forget F)) := by
  have h0 := h.act hr ha
  rcases hs with ⟨hc, hg⟩ | ⟨hc, v, l, dr, F, hff, hl, hdr, hn, rfl, hF⟩
  · exact .inl ⟨hc, h.gone hi hg⟩
  · right
    have hx := h.tx t rt hr
    have hwl : (Z.L t).wr = [] ↔ l = [] := by
      constructor
      · intro e
        cases l with
        | nil => rfl
        | cons a l' => have := ((h.lk a t).1 ((hl a).1 (List.mem_cons_self ..))).2; rw [e] at this; cases this
      · intro e
        cases ew : (Z.L t).wr with
        | nil => rfl
        | cons a l' =>
          have := (hl a).2 ((h.lk a t).2 ⟨h0, by rw [ew]; exact List.mem_cons_self ..⟩)
          rw [e] at this; cases this
    have hnow : (if (Z.L t).wr = [] then Z.now else Z.now + 1) = (if l = [] then M.now else M.now + 1) := by
      by_cases e : l = []
      · rw [if_pos e, if_pos (hwl.2 e), h.now]
      · rw [if_neg e, if_neg (fun e2 => e (hwl.1 e2)), h.now]
    obtain ⟨o1, o2, o3, o4, o5⟩ := left_oth (M.commit t rt v l) t dr
    have eN : (Z.commit t (!dr)).L t = { Z.L t with st := 1, e := Z.clock + 1, at_ := if (Z.L t).wr = [] then Z.now else Z.now + 1, trk := !dr } := Z.put_same _ _
    have eL : ∀ i, i ≠ t → (Z.commit t (!dr)).L i = Z.L i := fun i e => Z.put_ne _ e
    have cT : ∀ i, i ≠ t → (M.commit t rt v l).T i = M.T i := fun i e => if_neg e
    have cTN : (M.commit t rt v l).T t = some (rt.1, { rt.2 with act := false, e := M.clock + 1, wr := v }) := if_pos rfl
    have h1 : Tie0 ((M.commit t rt v l).left t dr) (Z.commit t (!dr)) := by
      constructor
      · rw [o1]; exact hnow
      · rw [o2]; show Z.clock + 1 = M.clock + 1; rw [h.clock]
      · rw [o3]; exact h.last
      · rintro i k ⟨h2, hk⟩
        obtain ⟨L, hL, hy⟩ := h.H i k hk
        refine ⟨L, ?_, hy⟩
        rw [left_N, if_neg (fun e => by rcases h2 with h2 | h2 <;> simp_all)]
        exact hL
      · intro i
        rw [left_T]
        by_cases e : i = t
        · subst e
          rw [eN, cTN]
          cases dr <;> simp
        · rw [eL i e, if_neg (fun e2 => e e2.1), cT i e]; exact h.trk i
      · intro i r hir
        rw [left_T] at hir
        by_cases e : i = t
        · subst e
          rw [cTN] at hir
          split at hir
          · cases hir
          · cases hir
            rw [eN]
            exact ⟨rfl, hx.2.1, hx.2.2.1, fun _ => by show Z.clock + 1 = M.clock + 1; rw [h.clock], hx.2.2.2.2.1, hx.2.2.2.2.2⟩
        · rw [if_neg (fun e2 => e e2.1), cT i e] at hir
          rw [eL i e]; exact h.tx i r hir
      · intro s i
        rw [o5]
        show (if M.G s = some t then none else M.G s) = some i ↔ _
        by_cases e : i = t
        · subst e
          rw [eN]
          constructor
          · intro hh; split at hh
            · cases hh
            · rename_i hne; exact absurd hh hne
          · rintro ⟨hh, -⟩; simp at hh
        · rw [eL i e, ← h.lk s i]
          constructor
          · intro hh; split at hh
            · cases hh
            · exact hh
          · intro hh; rw [if_neg (fun e2 => e (by rw [e2] at hh; cases hh; rfl))]; exact hh
      · intro i r hir hra s
        rw [left_T] at hir
        rw [o4]
        show _ ↔ s ∈ (if i = t then l else M.W i)
        by_cases e : i = t
        · subst e
          rw [eN, if_pos rfl, hl, h.lk]
          simp [h0]
        · rw [if_neg (fun e2 => e e2.1), cT i e] at hir
          rw [eL i e, if_neg e]; exact h.wc i r hir hra s
      · intro i hin
        rw [left_N] at hin
        by_cases e : i = t ∧ dr = true
        · rw [if_pos e] at hin; exact absurd rfl hin
        · rw [if_neg e] at hin
          obtain ⟨r, hir⟩ := h.nt i hin
          rw [left_T, if_neg e]
          by_cases e2 : i = t
          · subst e2; exact ⟨_, cTN⟩
          · exact ⟨r, by rw [cT i e2]; exact hir⟩
    have i1 : Inv (Z.commit t (!dr)) := by
      refine hi.commit h0 (!dr) (fun e => hff ⟨by rw [← hx.2.2.2.2.1]; exact e.1, by rw [← hx.2.2.2.2.2]; exact e.2⟩) (fun e => ?_)
      have hd : dr = true := by cases dr <;> simp_all
      rcases hdr hd with h2 | ⟨h2, h3⟩
      · left
        intro a hat hst
        obtain ⟨r, har, hra⟩ := h.st0 hi hst
        rw [h2 a r hat har] at hra; cases hra
      · right
        refine ⟨hwl.2 h2, fun k hk => ?_⟩
        obtain ⟨L, hL, y, hy, -⟩ := h.H t k (hi.i4 t (hi.act t h0).1 k hk)
        rw [hL] at h3
        cases L with
        | nil => cases hy
        | cons a l' => simp [lenO] at h3
    obtain ⟨h2, h3⟩ := h1.forget hF
    exact ⟨hc, by rw [hn]; exact hnow.symm, !dr, F, h2, h3, i1.forget F (fun i e => h1.old i1 ((hF i).1 e))⟩
end Go.Proofs.YteldfmgjbgedaaaGreat
