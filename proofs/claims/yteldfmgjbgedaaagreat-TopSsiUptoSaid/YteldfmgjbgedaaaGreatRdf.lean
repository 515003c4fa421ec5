/-
  A play and the transactions (plain): what holds between two acts.
  A play and the transactions (plain): a beginning, a read, a scan, a write, an abort.
  A play and the transactions (plain): a commit.
-/
import Derived.Test.YteldfmgjbgedaaaGreatRac
import Derived.Test.YteldfmgjbgedaaaGreatOk
import Derived.Test.YteldfmgjbgedaaaGreatOl
import Derived.Test.YteldfmgjbgedaaaGreatOn
namespace Go.Proofs.YteldfmgjbgedaaaGreat

/-- A key that a transaction of a play has read, or asked for by a range. -/
def Cov (p : PT) (k : Key) : Prop := (∃ v, (k, v) ∈ p.rd) ∨ ∃ r ∈ p.rg, inR r.1 r.2 k = true

theorem flatMap_congr_mem {α β : Type} {l : List α} {f g : α → List β} (h : ∀ a ∈ l, f a = g a) : l.flatMap f = l.flatMap g := by
  induction l with
  | nil => rfl
  | cons a l ih => rw [List.flatMap_cons, List.flatMap_cons, h a (List.mem_cons_self ..), ih (fun b hb => h b (List.mem_cons_of_mem _ hb))]

structure Good (M : MS) (S : PS) (Z : SS) : Prop where
  tie : Tie0 M Z
  idle : Idle M
  inv : Inv Z
  len : S.l.length = Z.last
  tx : ∀ i p, S.l[i]? = some p → p.tx = i + 1 ∧ p.snap = (Z.L (i + 1)).snap
  opn : ∀ i p, S.l[i]? = some p → (p.over = false ↔ (Z.L (i + 1)).st = 0)
  wr : ∀ i p, S.l[i]? = some p → (Z.L (i + 1)).st ≠ 2 → (Z.L (i + 1)).wr = p.wr ∧ p.wr.Nodup
  cov : ∀ i p, S.l[i]? = some p → (Z.L (i + 1)).st ≠ 2 → ∀ k, (Z.L (i + 1)).cov k ↔ Cov p k
  rd : ∀ i p, S.l[i]? = some p → (Z.L (i + 1)).st ≠ 2 → ∀ x ∈ p.rd, x.2 = seenL S.vs x.1 p.snap
  zero : (Z.L 0).st = 2
  ord : ∀ t, t ∈ S.ord ↔ (Z.L t).st = 1
  ordS : S.ord.Pairwise (fun s t => (Z.L s).e < (Z.L t).e)
  vs : S.vs = S.ord.flatMap (fun t => (Z.L t).wr.map (fun x => (x, (Z.L t).at_, t)))

theorem Good.lt {M : MS} {S : PS} {Z : SS} (h : Good M S Z) {t : Nat} (ht : (Z.L t).st ≠ 2) : ∃ i p, t = i + 1 ∧ S.l[i]? = some p := by
  have h1 : t ≠ 0 := fun e => ht (by rw [e]; exact h.zero)
  have h2 : ¬ Z.last < t := fun e => ht (h.inv.new t e)
  obtain ⟨i, rfl⟩ : ∃ i, t = i + 1 := ⟨t - 1, by omega⟩
  have hi : i < S.l.length := by rw [h.len]; omega
  exact ⟨i, S.l[i], rfl, List.getElem?_eq_getElem hi⟩

/-- Transaction n alone is turned (st, covered keys, what was written); it isn't committed by that. -/
theorem Good.one {M M' : MS} {S : PS} {Z Z' : SS} (h : Good M S Z) {n : Nat} {p p' : PT} (hp : S.l[n]? = some p) (tie : Tie0 M' Z') (idle : Idle M') (inv : Inv Z') (hlast : Z'.last = Z.last)
    (h0 : (Z.L (n + 1)).st = 0) (h1 : (Z'.L (n + 1)).st ≠ 1) (ho : ∀ i, i ≠ n + 1 → (Z'.L i).st = (Z.L i).st ∧ (Z'.L i).snap = (Z.L i).snap ∧ (Z'.L i).e = (Z.L i).e ∧ (Z'.L i).at_ = (Z.L i).at_ ∧ (Z'.L i).wr = (Z.L i).wr ∧ (Z'.L i).cov = (Z.L i).cov)
    (htx : p'.tx = p.tx ∧ p'.snap = p.snap) (hsn : (Z'.L (n + 1)).snap = (Z.L (n + 1)).snap) (hov : p'.over = false ↔ (Z'.L (n + 1)).st = 0)
    (hw : (Z'.L (n + 1)).st ≠ 2 → (Z'.L (n + 1)).wr = p'.wr ∧ p'.wr.Nodup) (hc : (Z'.L (n + 1)).st ≠ 2 → ∀ k, (Z'.L (n + 1)).cov k ↔ Cov p' k) (hr : (Z'.L (n + 1)).st ≠ 2 → ∀ x ∈ p'.rd, x.2 = seenL S.vs x.1 p.snap) :
    Good M' { S with l := S.l.set n p' } Z' := by
  obtain ⟨hn, -⟩ := List.getElem?_eq_some_iff.1 hp
  have get : ∀ {i : Nat} {q : PT}, (S.l.set n p')[i]? = some q → (i = n ∧ q = p') ∨ (i ≠ n ∧ S.l[i]? = some q) := fun {i q} hq => by
    by_cases e : i = n
    · subst e; rw [List.getElem?_set_self hn] at hq; cases hq; exact .inl ⟨rfl, rfl⟩
    · rw [List.getElem?_set_ne (fun h => e h.symm)] at hq; exact .inr ⟨e, hq⟩
  have nord : n + 1 ∉ S.ord := fun e => by have := (h.ord _).1 e; omega
  have hord : ∀ t ∈ S.ord, t ≠ n + 1 := fun t ht e => nord (e ▸ ht)
  constructor
  · exact tie
  · exact idle
  · exact inv
  · show (S.l.set n p').length = _; rw [List.length_set, h.len, hlast]
  · intro i q hq
    rcases get hq with ⟨rfl, rfl⟩ | ⟨e, hq⟩
    · rw [htx.1, htx.2, hsn]; exact h.tx i p hp
    · rw [(ho (i + 1) (by omega)).2.1]; exact h.tx i q hq
  · intro i q hq
    rcases get hq with ⟨rfl, rfl⟩ | ⟨e, hq⟩
    · exact hov
    · rw [(ho (i + 1) (by omega)).1]; exact h.opn i q hq
  · intro i q hq hs
    rcases get hq with ⟨rfl, rfl⟩ | ⟨e, hq⟩
    · exact hw hs
    · rw [(ho (i + 1) (by omega)).1] at hs; rw [(ho (i + 1) (by omega)).2.2.2.2.1]; exact h.wr i q hq hs
  · intro i q hq hs
    rcases get hq with ⟨rfl, rfl⟩ | ⟨e, hq⟩
    · exact hc hs
    · rw [(ho (i + 1) (by omega)).1] at hs; rw [(ho (i + 1) (by omega)).2.2.2.2.2]; exact h.cov i q hq hs
  · intro i q hq hs
    rcases get hq with ⟨rfl, rfl⟩ | ⟨e, hq⟩
    · rw [htx.2]; exact hr hs
    · rw [(ho (i + 1) (by omega)).1] at hs; exact h.rd i q hq hs
  · rw [(ho 0 (by omega)).1]; exact h.zero
  · intro t
    by_cases e : t = n + 1
    · subst e
      exact ⟨fun e => absurd e nord, fun e => absurd e h1⟩
    · rw [(ho t e).1]; exact h.ord t
  · refine List.Pairwise.imp_of_mem (fun {a b} ha hb hab => ?_) h.ordS
    rw [(ho a (hord a ha)).2.2.1, (ho b (hord b hb)).2.2.1]; exact hab
  · show S.vs = _
    rw [h.vs]
    refine flatMap_congr_mem (fun t ht => ?_)
    rw [(ho t (hord t ht)).2.2.2.1, (ho t (hord t ht)).2.2.2.2.1]

/-- It leaves without a trace. -/
theorem Good.gone {M M' : MS} {S : PS} {Z : SS} (h : Good M S Z) {n : Nat} {p p' : PT} (hp : S.l[n]? = some p) (hov : p.over = false) (hg : ∃ F, Tie0 M' ((Z.drop (n + 1)).forget F) ∧ Idle M' ∧ Inv ((Z.drop (n + 1)).forget F)) (htx : p'.tx = p.tx ∧ p'.snap = p.snap) (hov' : p'.over = true) :
    ∃ Z', Good M' { S with l := S.l.set n p' } Z' := by
  obtain ⟨F, t1, t2, t3⟩ := hg
  have e : ∀ i, ((Z.drop (n + 1)).forget F).L i = if F i = true then { (Z.drop (n + 1)).L i with trk := false } else (Z.drop (n + 1)).L i := fun i => rfl
  have eN : (Z.drop (n + 1)).L (n + 1) = { Z.L (n + 1) with st := 2, trk := false } := Z.put_same _ _
  have eL : ∀ i, i ≠ n + 1 → (Z.drop (n + 1)).L i = Z.L i := fun i hi => Z.put_ne _ hi
  have s2 : (((Z.drop (n + 1)).forget F).L (n + 1)).st = 2 := by rw [e, eN]; split <;> rfl
  refine ⟨_, h.one hp t1 t2 t3 rfl ((h.opn n p hp).1 hov) (by rw [s2]; omega) (fun i hi => ?_) htx (by rw [e, eN]; split <;> rfl) (by rw [s2, hov']; simp) (fun hs => absurd s2 hs) (fun hs => absurd s2 hs) (fun hs => absurd s2 hs)⟩
  rw [e, eL i hi]
  split <;> exact ⟨rfl, rfl, rfl, rfl, rfl, rfl⟩
end Go.Proofs.YteldfmgjbgedaaaGreat

namespace Go.Proofs.YteldfmgjbgedaaaGreat

theorem Good.begin {M : MS} {S : PS} {Z : SS} (h : Good M S Z) (b : Nat) (vl' : Value) :
    Good (M.begin b) { S with l := S.l ++ [⟨M.last + 1, M.now, false, [], [], [], .slice none 0 0, .slice none 0 0, .slice none 0 0⟩], vl := vl' } Z.begin := by
  have hl := h.tie.last
  have eN : Z.begin.L (Z.last + 1) = ⟨0, Z.now, Z.clock + 1, 0, 0, false, false, true, fun _ => False, []⟩ := Z.put_same _ _
  have eL : ∀ i, i ≠ Z.last + 1 → Z.begin.L i = Z.L i := fun i hi => Z.put_ne _ hi
  have hz : (Z.L (Z.last + 1)).st = 2 := h.inv.new _ (by omega)
  have hord : ∀ t ∈ S.ord, t ≠ Z.last + 1 := fun t ht e => by have := (h.ord t).1 ht; rw [e, hz] at this; omega
  have get : ∀ {i : Nat} {q : PT}, (S.l ++ [PT.mk (M.last + 1) M.now false [] [] [] (.slice none 0 0) (.slice none 0 0) (.slice none 0 0)])[i]? = some q → (i = Z.last ∧ q = PT.mk (M.last + 1) M.now false [] [] [] (.slice none 0 0) (.slice none 0 0) (.slice none 0 0)) ∨ (i ≠ Z.last ∧ S.l[i]? = some q) := fun {i q} hq => by
    rcases Nat.lt_or_ge i S.l.length with hlt | hge
    · rw [List.getElem?_append_left hlt] at hq
      exact .inr ⟨by rw [← h.len]; omega, hq⟩
    · rw [List.getElem?_append_right hge] at hq
      have h0 : i - S.l.length = 0 := by have := (List.getElem?_eq_some_iff.1 hq).1; simp at this; omega
      rw [h0] at hq; cases hq
      exact .inl ⟨by rw [← h.len]; omega, rfl⟩
  constructor
  · exact h.tie.begin h.inv b
  · intro hall t
    have := hall (M.last + 1) (b, ⟨M.last + 1, M.now, true, M.clock + 1, 0, false, false, .slice none 0 0⟩) (if_pos rfl)
    cases this
  · exact h.inv.begin
  · show (S.l ++ [_]).length = Z.last + 1; rw [List.length_append, h.len]; rfl
  · intro i q hq
    rcases get hq with ⟨rfl, rfl⟩ | ⟨e, hq⟩
    · rw [eN]; exact ⟨by rw [hl], h.tie.now.symm⟩
    · rw [eL _ (by omega)]; exact h.tx i q hq
  · intro i q hq
    rcases get hq with ⟨rfl, rfl⟩ | ⟨e, hq⟩
    · rw [eN]; exact ⟨fun _ => rfl, fun _ => rfl⟩
    · rw [eL _ (by omega)]; exact h.opn i q hq
  · intro i q hq hs
    rcases get hq with ⟨rfl, rfl⟩ | ⟨e, hq⟩
    · rw [eN]; exact ⟨rfl, List.nodup_nil⟩
    · rw [eL _ (by omega)] at hs ⊢; exact h.wr i q hq hs
  · intro i q hq hs
    rcases get hq with ⟨rfl, rfl⟩ | ⟨e, hq⟩
    · rw [eN]; intro k; simp [Cov]
    · rw [eL _ (by omega)] at hs ⊢; exact h.cov i q hq hs
  · intro i q hq hs
    rcases get hq with ⟨rfl, rfl⟩ | ⟨e, hq⟩
    · intro x hx; cases hx
    · rw [eL _ (by omega)] at hs; exact h.rd i q hq hs
  · rw [eL 0 (by omega)]; exact h.zero
  · intro t
    by_cases e : t = Z.last + 1
    · subst e
      rw [eN]
      exact ⟨fun e => absurd rfl (hord _ e), fun e => by simp at e⟩
    · rw [eL t e]; exact h.ord t
  · refine List.Pairwise.imp_of_mem (fun {a b} ha hb hab => ?_) h.ordS
    rw [eL a (hord a ha), eL b (hord b hb)]; exact hab
  · show S.vs = _
    rw [h.vs]
    refine flatMap_congr_mem (fun t ht => ?_)
    rw [eL t (hord t ht)]

theorem Good.mem_wr {M : MS} {S : PS} {Z : SS} (h : Good M S Z) {n : Nat} {p : PT} (hp : S.l[n]? = some p) (hov : p.over = false) (x : Key) : M.G x = some (n + 1) ↔ x ∈ p.wr := by
  have h0 := (h.opn n p hp).1 hov
  rw [h.tie.lk, (h.wr n p hp (by omega)).1]
  simp [h0]

/-- The same transactions; transaction n's words turned. -/
theorem Good.same {M : MS} {S : PS} {Z : SS} (h : Good M S Z) {n : Nat} {p p' : PT} (hp : S.l[n]? = some p) (hov : p.over = false) (hov' : p'.over = false) (htx : p'.tx = p.tx ∧ p'.snap = p.snap) (hw : p'.wr = p.wr) (hc : ∀ k, Cov p' k ↔ Cov p k) (hr : ∀ x ∈ p'.rd, x ∈ p.rd ∨ x.2 = seenL S.vs x.1 p.snap) :
    Good M { S with l := S.l.set n p' } Z := by
  have h0 := (h.opn n p hp).1 hov
  refine h.one hp h.tie h.idle h.inv rfl h0 (by omega) (fun i _ => ⟨rfl, rfl, rfl, rfl, rfl, rfl⟩) htx rfl ⟨fun _ => h0, fun _ => hov'⟩ (fun hs => by rw [hw]; exact h.wr n p hp hs) (fun hs k => (h.cov n p hp hs k).trans (hc k).symm) (fun hs x hx => (hr x hx).elim (h.rd n p hp hs x) (fun e => e))

/-- A read or a scan that is noted. -/
theorem Good.note {M M' : MS} {S : PS} {Z : SS} (h : Good M S Z) {n : Nat} {p p' : PT} (hp : S.l[n]? = some p) (hov : p.over = false) {rt : Nat × TR} (hr : M.T p.tx = some rt) (ha : rt.2.act = true) {x : RdT} {c : Int} (hs : M.NoteStep p.tx rt x c M')
    (htx : p'.tx = p.tx ∧ p'.snap = p.snap) (hov' : p'.over = decide (c ≠ 0)) (hw : p'.wr = p.wr) (hc : ∀ k, Cov p' k ↔ Cov p k ∨ covK x k = true) (hrd : ∀ x ∈ p'.rd, x ∈ p.rd ∨ x.2 = seenL S.vs x.1 p.snap) : ∃ Z', Good M' { S with l := S.l.set n p' } Z' := by
  have et := (h.tx n p hp).1
  rw [et] at hr hs
  have h0 := (h.opn n p hp).1 hov
  rcases h.tie.note h.inv h.idle hr ha hs with ⟨hc0, hg⟩ | ⟨hc0, O, some, H, t1, t2, t3⟩
  · exact h.gone hp hov hg htx (by rw [hov']; simpa using hc0)
  · have eT : (Z.read (n + 1) (fun k => covK x k = true) O some H).L (n + 1) = { Z.L (n + 1) with cov := fun k => (Z.L (n + 1)).cov k ∨ covK x k = true, fout := (Z.L (n + 1)).fout || some } := if_pos rfl
    have e : ∀ i, i ≠ n + 1 → (Z.read (n + 1) (fun k => covK x k = true) O some H).L i = if O i = true then { Z.L i with fin := true } else Z.L i := fun i hi => if_neg hi
    refine ⟨_, h.one hp t1 t2 t3 rfl h0 (by rw [eT]; simp [h0]) (fun i hi => by rw [e i hi]; split <;> exact ⟨rfl, rfl, rfl, rfl, rfl, rfl⟩) htx (by rw [eT]) (by rw [eT, hov', hc0]; simp [h0]) (fun _ => ?_) (fun _ k => ?_) (fun _ x hx => (hrd x hx).elim (h.rd n p hp (by omega) x) (fun e => e))⟩
    · rw [eT, hw]; exact h.wr n p hp (by omega)
    · rw [eT, hc]
      show (Z.L (n + 1)).cov k ∨ _ ↔ _
      rw [h.cov n p hp (by omega) k]

theorem Good.read {M M' : MS} {S S' : PS} {Z : SS} (h : Good M S Z) {n : Nat} {p : PT} (hp : S.l[n]? = some p) (hov : p.over = false) {rt : Nat × TR} (hr : M.T p.tx = some rt) (ha : rt.2.act = true) {x : Key} (hs : Red M S n p rt x M' S') : ∃ Z', Good M' S' Z' := by
  obtain ⟨c, hst, hcase⟩ := hs
  have et := (h.tx n p hp).1
  have hm := h.mem_wr hp hov x
  rcases hst with ⟨hg, rfl, rfl⟩ | ⟨hg, hst⟩
  · rw [et] at hg
    rcases hcase with ⟨-, rfl⟩ | ⟨hx, -⟩
    · exact ⟨Z, h.same hp hov rfl ⟨rfl, rfl⟩ rfl (fun k => Iff.rfl) (fun x hx => .inl hx)⟩
    · exact absurd (hm.1 hg) hx
  · rw [et] at hg
    rcases hcase with ⟨hx, -⟩ | ⟨hx, vr', rfl⟩
    · exact absurd (hm.2 hx) hg
    · refine h.note hp hov hr ha hst ⟨rfl, rfl⟩ rfl rfl (fun k => ?_) (fun y hy => ?_)
      · unfold Cov
        show ((∃ v, (k, v) ∈ p.rd ++ [(x, _)]) ∨ _) ↔ _
        have : covK ⟨1, x, []⟩ k = true ↔ k = x := by simp [covK]; exact eq_comm
        rw [this]
        simp only [List.mem_append, List.mem_singleton, Prod.mk.injEq]
        constructor
        · rintro (⟨v, h1 | ⟨h1, -⟩⟩ | h1)
          · exact .inl (.inl ⟨v, h1⟩)
          · exact .inr h1
          · exact .inl (.inr h1)
        · rintro ((⟨v, h1⟩ | h1) | h1)
          · exact .inl ⟨v, .inl h1⟩
          · exact .inr h1
          · exact .inl ⟨_, .inr ⟨h1, rfl⟩⟩
      · rcases List.mem_append.1 hy with h1 | h1
        · exact .inl h1
        · have := List.mem_singleton.1 h1; subst this; exact .inr rfl

theorem cov_rg (p : PT) (x y : Key) (k : Key) (vg : Value) (ov : Bool) : Cov { p with rg := p.rg ++ [(x, y)], vg := vg, over := ov } k ↔ Cov p k ∨ inR x y k = true := by
  unfold Cov
  show ((∃ v, (k, v) ∈ p.rd) ∨ ∃ r ∈ p.rg ++ [(x, y)], inR r.1 r.2 k = true) ↔ _
  constructor
  · rintro (h1 | ⟨r, h1, h2⟩)
    · exact .inl (.inl h1)
    · rcases List.mem_append.1 h1 with h1 | h1
      · exact .inl (.inr ⟨r, h1, h2⟩)
      · have := List.mem_singleton.1 h1; subst this; exact .inr h2
  · rintro ((h1 | ⟨r, h1, h2⟩) | h1)
    · exact .inl h1
    · exact .inr ⟨r, List.mem_append_left _ h1, h2⟩
    · exact .inr ⟨(x, y), List.mem_append_right _ (List.mem_singleton.2 rfl), h1⟩

theorem Good.scan {M M' : MS} {S S' : PS} {Z : SS} (h : Good M S Z) {n : Nat} {p : PT} (hp : S.l[n]? = some p) (hov : p.over = false) {rt : Nat × TR} (hr : M.T p.tx = some rt) (ha : rt.2.act = true) {x y : Key} (hs : Scanned M S n p rt x y M' S') : ∃ Z', Good M' S' Z' := by
  obtain ⟨c, vg', hst, rfl⟩ := hs
  rcases hst with ⟨rfl, rfl, hno⟩ | hst
  · exact ⟨Z, h.same hp hov rfl ⟨rfl, rfl⟩ rfl (fun k => by rw [cov_rg]; simp [hno]) (fun x hx => .inl hx)⟩
  · exact h.note hp hov hr ha hst ⟨rfl, rfl⟩ rfl rfl (fun k => by rw [cov_rg, inR_range]) (fun x hx => .inl hx)

theorem Good.write {M M' : MS} {S S' : PS} {Z : SS} (h : Good M S Z) {n : Nat} {p : PT} (hp : S.l[n]? = some p) (hov : p.over = false) {rt : Nat × TR} (hr : M.T p.tx = some rt) (ha : rt.2.act = true) {x : Key} (hs : Wrote M S n p rt x M' S') : ∃ Z', Good M' S' Z' := by
  obtain ⟨c, hst, hcase⟩ := hs
  have et := (h.tx n p hp).1
  rw [et] at hr hst
  have h0 := (h.opn n p hp).1 hov
  have hw := h.wr n p hp (by omega)
  rcases h.tie.write h.inv h.idle hr ha hst with ⟨rfl, rfl, hx⟩ | ⟨hc, hg⟩ | ⟨hc, hx, -, O, some, t1, t2, t3⟩
  · rw [hw.1] at hx
    rcases hcase with ⟨-, rfl⟩ | ⟨-, hx2, -⟩
    · exact ⟨Z, h.same hp hov rfl ⟨rfl, rfl⟩ rfl (fun k => Iff.rfl) (fun x hx => .inl hx)⟩
    · exact absurd hx hx2
  · rcases hcase with ⟨-, rfl⟩ | ⟨hc2, -⟩
    · exact h.gone hp hov hg ⟨rfl, rfl⟩ (by simpa using hc)
    · exact absurd hc2 hc
  · rw [hw.1] at hx
    rcases hcase with ⟨h2, -⟩ | ⟨-, -, vw', rfl⟩
    · exact absurd h2 (by rintro (h2 | h2); exact h2 hc; exact hx h2)
    · have eT : (Z.write (n + 1) x O some).L (n + 1) = { Z.L (n + 1) with wr := (Z.L (n + 1)).wr ++ [x], fin := (Z.L (n + 1)).fin || some } := if_pos rfl
      have e : ∀ i, i ≠ n + 1 → (Z.write (n + 1) x O some).L i = if O i = true then { Z.L i with fout := true } else Z.L i := fun i hi => if_neg hi
      refine ⟨_, h.one hp t1 t2 t3 rfl h0 (by rw [eT]; simp [h0]) (fun i hi => by rw [e i hi]; split <;> exact ⟨rfl, rfl, rfl, rfl, rfl, rfl⟩) ⟨rfl, rfl⟩ (by rw [eT]) (by rw [eT]; simp [h0, hov]) (fun _ => ?_) (fun _ k => ?_) (fun _ x hx => h.rd n p hp (by omega) x hx)⟩
      · rw [eT]
        refine ⟨by show (Z.L (n + 1)).wr ++ [x] = p.wr ++ [x]; rw [hw.1], ?_⟩
        show (p.wr ++ [x]).Nodup
        rw [List.nodup_append]
        exact ⟨hw.2, by simp, fun a ha b hb => by have := List.mem_singleton.1 hb; subst this; exact fun e => hx (e ▸ ha)⟩
      · rw [eT]; exact h.cov n p hp (by omega) k

theorem Good.abort {M M' : MS} {S : PS} {Z : SS} (h : Good M S Z) {n : Nat} {p : PT} (hp : S.l[n]? = some p) (hov : p.over = false) (hg : M.GoneStep p.tx M') : ∃ Z', Good M' { S with l := S.l.set n { p with over := true } } Z' := by
  rw [(h.tx n p hp).1] at hg
  exact h.gone hp hov (h.tie.gone h.inv hg) ⟨rfl, rfl⟩ rfl
end Go.Proofs.YteldfmgjbgedaaaGreat

namespace Go.Proofs.YteldfmgjbgedaaaGreat

theorem seenL_late (xs : List (Key × Nat × Nat)) (key : Key) (sn : Nat) : ∀ ys : List (Key × Nat × Nat), (∀ v ∈ ys, sn < v.2.1) → seenL (xs ++ ys) key sn = seenL xs key sn := by
  intro ys
  induction ys generalizing xs with
  | nil => intro _; rw [List.append_nil]
  | cons y ys ih =>
    intro hy
    rw [show xs ++ y :: ys = (xs ++ [y]) ++ ys by simp, ih (xs ++ [y]) (fun v hv => hy v (List.mem_cons_of_mem _ hv)), seenL_snoc, if_neg (fun e => by have := hy y (List.mem_cons_self ..); omega)]

theorem Good.commit {M M' : MS} {S S' : PS} {Z : SS} (h : Good M S Z) {n : Nat} {p : PT} (hp : S.l[n]? = some p) (hov : p.over = false) {rt : Nat × TR} (hr : M.T p.tx = some rt) (ha : rt.2.act = true) (hs : Committed M S n p rt M' S') : ∃ Z', Good M' S' Z' := by
  obtain ⟨num, c, hst, hcase⟩ := hs
  have et := (h.tx n p hp).1
  rw [et] at hr hst
  have h0 := (h.opn n p hp).1 hov
  have hw := h.wr n p hp (by omega)
  rcases h.tie.commit h.inv hr ha hst with ⟨hc, hg⟩ | ⟨hc, hnum, tr, F, t1, t2, t3⟩
  · rcases hcase with ⟨-, rfl⟩ | ⟨hc2, -⟩
    · exact h.gone hp hov hg ⟨rfl, rfl⟩ rfl
    · exact absurd hc2 hc
  · rcases hcase with ⟨hc2, -⟩ | ⟨-, vo', vv', rfl⟩
    · exact absurd hc hc2
    · obtain ⟨hn, -⟩ := List.getElem?_eq_some_iff.1 hp
      have get : ∀ {i : Nat} {q : PT}, (S.l.set n { p with over := true })[i]? = some q → (i = n ∧ q = { p with over := true }) ∨ (i ≠ n ∧ S.l[i]? = some q) := fun {i q} hq => by
        by_cases e : i = n
        · subst e; rw [List.getElem?_set_self hn] at hq; cases hq; exact .inl ⟨rfl, rfl⟩
        · rw [List.getElem?_set_ne (fun h => e h.symm)] at hq; exact .inr ⟨e, hq⟩
      have e0 : ∀ i, ((Z.commit (n + 1) tr).forget F).L i = if F i = true then { (Z.commit (n + 1) tr).L i with trk := false } else (Z.commit (n + 1) tr).L i := fun i => rfl
      have cN : (Z.commit (n + 1) tr).L (n + 1) = { Z.L (n + 1) with st := 1, e := Z.clock + 1, at_ := if (Z.L (n + 1)).wr = [] then Z.now else Z.now + 1, trk := tr } := Z.put_same _ _
      have cL : ∀ i, i ≠ n + 1 → (Z.commit (n + 1) tr).L i = Z.L i := fun i hi => Z.put_ne _ hi
      have eN : (((Z.commit (n + 1) tr).forget F).L (n + 1)).st = 1 ∧ (((Z.commit (n + 1) tr).forget F).L (n + 1)).e = Z.clock + 1 ∧ (((Z.commit (n + 1) tr).forget F).L (n + 1)).at_ = num ∧ (((Z.commit (n + 1) tr).forget F).L (n + 1)).wr = p.wr ∧ (((Z.commit (n + 1) tr).forget F).L (n + 1)).cov = (Z.L (n + 1)).cov ∧ (((Z.commit (n + 1) tr).forget F).L (n + 1)).snap = (Z.L (n + 1)).snap := by
        rw [e0, cN, hnum, ← hw.1]; split <;> exact ⟨rfl, rfl, rfl, rfl, rfl, rfl⟩
      have eL : ∀ i, i ≠ n + 1 → (((Z.commit (n + 1) tr).forget F).L i).st = (Z.L i).st ∧ (((Z.commit (n + 1) tr).forget F).L i).snap = (Z.L i).snap ∧ (((Z.commit (n + 1) tr).forget F).L i).e = (Z.L i).e ∧ (((Z.commit (n + 1) tr).forget F).L i).at_ = (Z.L i).at_ ∧ (((Z.commit (n + 1) tr).forget F).L i).wr = (Z.L i).wr ∧ (((Z.commit (n + 1) tr).forget F).L i).cov = (Z.L i).cov ∧ (((Z.commit (n + 1) tr).forget F).L i).b = (Z.L i).b := fun i hi => by
        rw [e0, cL i hi]; split <;> exact ⟨rfl, rfl, rfl, rfl, rfl, rfl, rfl⟩
      generalize hZ : (Z.commit (n + 1) tr).forget F = Z' at t1 t3 eN eL
      have hlast : Z'.last = Z.last := by rw [← hZ]; rfl
      have nord : n + 1 ∉ S.ord := fun e => by have := (h.ord _).1 e; omega
      have hord : ∀ t ∈ S.ord, t ≠ n + 1 := fun t ht e => nord (e ▸ ht)
      obtain ⟨n1, n2, n3, n4, n5, n6⟩ := eN
      have late : ∀ i q, (S.l.set n { p with over := true })[i]? = some q → (Z'.L (i + 1)).st ≠ 2 → ∀ v ∈ p.wr.map (fun x => (x, num, n + 1)), q.snap < v.2.1 := by
        intro i q hq hsi v hv
        obtain ⟨x, hx, rfl⟩ := List.mem_map.1 hv
        have hwne : (Z'.L (n + 1)).wr ≠ [] := by rw [n4]; exact List.ne_nil_of_mem hx
        have ht1 := t3.t1 (n + 1) (i + 1) n1 hwne hsi
        have hqs : q.snap = (Z'.L (i + 1)).snap := by
          rcases get hq with ⟨rfl, rfl⟩ | ⟨e, hq⟩
          · rw [n6]; exact (h.tx i p hp).2
          · rw [(eL (i + 1) (by omega)).2.1]; exact (h.tx i q hq).2
        show q.snap < num
        rw [hqs, ← n3]
        rcases ht1 with ⟨h1, -⟩ | ⟨-, h2⟩
        · exfalso
          rw [n2] at h1
          by_cases e : i = n
          · subst e
            have := (t3.com (i + 1) n1).1
            rw [n2] at this; omega
          · have hst2 := (eL (i + 1) (by omega)).1
            rw [(eL (i + 1) (by omega)).2.2.2.2.2.2] at h1
            rw [hst2] at hsi
            rcases h.inv.st (i + 1) with h3 | h3 | h3
            · have := (h.inv.act _ h3).2.1; omega
            · have := h.inv.com _ h3; omega
            · exact hsi h3
        · exact h2
      refine ⟨Z', ?_⟩
      constructor
      · exact t1
      · exact t2
      · exact t3
      · show (S.l.set n _).length = _; rw [List.length_set, h.len, hlast]
      · intro i q hq
        rcases get hq with ⟨rfl, rfl⟩ | ⟨e, hq⟩
        · rw [n6]; exact h.tx i p hp
        · rw [(eL (i + 1) (by omega)).2.1]; exact h.tx i q hq
      · intro i q hq
        rcases get hq with ⟨rfl, rfl⟩ | ⟨e, hq⟩
        · rw [n1]; simp
        · rw [(eL (i + 1) (by omega)).1]; exact h.opn i q hq
      · intro i q hq hs
        rcases get hq with ⟨rfl, rfl⟩ | ⟨e, hq⟩
        · exact ⟨n4, hw.2⟩
        · rw [(eL (i + 1) (by omega)).1] at hs; rw [(eL (i + 1) (by omega)).2.2.2.2.1]; exact h.wr i q hq hs
      · intro i q hq hs k
        rcases get hq with ⟨rfl, rfl⟩ | ⟨e, hq⟩
        · rw [n5]; exact h.cov i p hp (by omega) k
        · rw [(eL (i + 1) (by omega)).1] at hs; rw [(eL (i + 1) (by omega)).2.2.2.2.2.1]; exact h.cov i q hq hs k
      · intro i q hq hs x hx
        show x.2 = seenL (S.vs ++ p.wr.map (fun x => (x, num, p.tx))) x.1 q.snap
        rw [et, seenL_late _ _ _ _ (late i q hq hs)]
        rcases get hq with ⟨rfl, rfl⟩ | ⟨e, hq⟩
        · exact h.rd i p hp (by omega) x hx
        · rw [(eL (i + 1) (by omega)).1] at hs; exact h.rd i q hq hs x hx
      · rw [(eL 0 (by omega)).1]; exact h.zero
      · intro t
        show t ∈ S.ord ++ [p.tx] ↔ _
        rw [et, List.mem_append, List.mem_singleton]
        by_cases e : t = n + 1
        · subst e; simp [n1]
        · rw [(eL t e).1, ← h.ord t]; simp [e]
      · show (S.ord ++ [p.tx]).Pairwise _
        rw [et, List.pairwise_append]
        refine ⟨List.Pairwise.imp_of_mem (fun {a b} ha hb hab => ?_) h.ordS, List.pairwise_singleton _ _, fun a ha b hb => ?_⟩
        · rw [(eL a (hord a ha)).2.2.1, (eL b (hord b hb)).2.2.1]; exact hab
        · have := List.mem_singleton.1 hb; subst this
          rw [(eL a (hord a ha)).2.2.1, n2]
          have := (h.inv.com a ((h.ord a).1 ha)).2.1; omega
      · show S.vs ++ p.wr.map (fun x => (x, num, p.tx)) = (S.ord ++ [p.tx]).flatMap _
        rw [et, List.flatMap_append, h.vs]
        congr 1
        · refine flatMap_congr_mem (fun t ht => ?_)
          rw [(eL t (hord t ht)).2.2.2.1, (eL t (hord t ht)).2.2.2.2.1]
        · rw [List.flatMap_cons, List.flatMap_nil, List.append_nil, n4, n3]
end Go.Proofs.YteldfmgjbgedaaaGreat
