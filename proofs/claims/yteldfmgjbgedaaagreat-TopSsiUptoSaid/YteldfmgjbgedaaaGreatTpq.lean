/-
  Package keystonetop: does, whatever the act: what it keeps.
  The history as it lies in memory.
  The law: a play under way in it; how great a history can be; a script.
-/
import Derived.Test.YteldfmgjbgedaaaGreatOho
import Derived.Test.YteldfmgjbgedaaaGreatOac
import Derived.Test.YteldfmgjbgedaaaGreatRgi
import Derived.Test.YteldfmgjbgedaaaGreatOq
import Derived.Test.YteldfmgjbgedaaaGreatTj
namespace Go.Proofs.YteldfmgjbgedaaaGreat
open Go.RowKit Go.Maps

/-- What the open ones wrote; all that was read, asked for, written. -/
def wOf (p : PT) : Nat := if p.over = true then 0 else p.wr.length
def tOf (p : PT) : Nat := p.rd.length + p.rg.length + p.wr.length
def opnW (l : List PT) : Nat := (l.map wOf).sum
def totW (l : List PT) : Nat := (l.map tOf).sum

theorem sum_set {α : Type} (f : α → Nat) (p' : α) : ∀ (l : List α) (n : Nat) (p : α), l[n]? = some p → ((l.set n p').map f).sum + f p = (l.map f).sum + f p' := by
  intro l
  induction l with
  | nil => intro n p h; simp at h
  | cons a l ih =>
    intro n p h
    cases n with
    | zero => simp at h; subst h; simp only [List.set_cons_zero, List.map_cons, List.sum_cons]; omega
    | succ n => simp at h; have := ih n p h; simp only [List.set_cons_succ, List.map_cons, List.sum_cons]; omega
theorem le_sum {α : Type} (f : α → Nat) : ∀ (l : List α) (n : Nat) (p : α), l[n]? = some p → f p ≤ (l.map f).sum := by
  intro l
  induction l with
  | nil => intro n p h; simp at h
  | cons a l ih =>
    intro n p h
    cases n with
    | zero => simp at h; subst h; simp
    | succ n => simp at h; have := ih n p h; simp; omega

/-- The sizes of a play: n acts, r reads, ranges and writes. -/
structure Small (M : MS) (S : PS) (n r : Nat) : Prop where
  now : M.now ≤ n
  clock : M.clock ≤ n
  last : M.last ≤ n
  ord : S.ord.length ≤ n
  tot : totW S.l ≤ r
  vs : S.vs.length + opnW S.l ≤ r
  kr : ∀ p ∈ S.l, ∀ x ∈ p.rd, x.1.length < 2 ^ 32
  kw : ∀ p ∈ S.l, ∀ x ∈ p.wr, x.length < 2 ^ 32

theorem Small.mono {M : MS} {S : PS} {n r n' r' : Nat} (h : Small M S n r) (hn : n ≤ n') (hr : r ≤ r') : Small M S n' r' :=
  ⟨Nat.le_trans h.now hn, Nat.le_trans h.clock hn, Nat.le_trans h.last hn, Nat.le_trans h.ord hn, Nat.le_trans h.tot hr, Nat.le_trans h.vs hr, h.kr, h.kw⟩

theorem Small.zero (keys : List Key) (vk : Value) : Small MS.zero ⟨[], [], [], keys, .slice none 0 0, .slice none 0 0, .slice none 0 0, vk⟩ 0 0 :=
  ⟨Nat.le_refl _, Nat.le_refl _, Nat.le_refl _, Nat.le_refl _, Nat.le_refl _, Nat.le_refl _, fun p hp => (by cases hp), fun p hp => (by cases hp)⟩

/-- The manager's three counters grow by one at the most. -/
def Near (M M' : MS) : Prop := M'.now ≤ M.now + 1 ∧ M'.clock ≤ M.clock + 1 ∧ M'.last ≤ M.last + 1

theorem MS.GoneStep.near {M M' : MS} {t : Nat} (h : M.GoneStep t M') : Near M M' := by
  obtain ⟨F, rfl, -⟩ := h
  exact ⟨Nat.le_succ _, Nat.le_succ _, Nat.le_succ _⟩
theorem MS.NoteStep.near {M M' : MS} {t : Nat} {rt : Nat × TR} {x : RdT} {c : Int} (h : M.NoteStep t rt x c M') : Near M M' := by
  obtain ⟨N', -, ⟨-, F, rfl, -⟩ | ⟨-, os, -, -, -, rfl⟩⟩ := h
  · exact ⟨Nat.le_succ _, Nat.le_succ _, Nat.le_succ _⟩
  · exact ⟨Nat.le_succ _, Nat.le_succ _, Nat.le_succ _⟩
theorem MS.ReadStep.near {M M' : MS} {t : Nat} {rt : Nat × TR} {s : Key} {c : Int} (h : M.ReadStep t rt s c M') : Near M M' := by
  obtain ⟨-, -, rfl⟩ | ⟨-, h⟩ := h
  · exact ⟨Nat.le_succ _, Nat.le_succ _, Nat.le_succ _⟩
  · exact h.near
theorem MS.ScanStep.near {M M' : MS} {t : Nat} {rt : Nat × TR} {lo hi : Key} {c : Int} (h : M.ScanStep t rt lo hi c M') : Near M M' := by
  obtain ⟨-, rfl, -⟩ | h := h
  · exact ⟨Nat.le_succ _, Nat.le_succ _, Nat.le_succ _⟩
  · exact h.near
theorem MS.WriteStep.near {M M' : MS} {t : Nat} {rt : Nat × TR} {s : Key} {la : Nat} {c : Int} (h : M.WriteStep t rt s la c M') : Near M M' := by
  obtain ⟨-, -, rfl⟩ | ⟨-, h⟩ | ⟨-, -, -, -, os, -, -, rfl⟩ := h
  · exact ⟨Nat.le_succ _, Nat.le_succ _, Nat.le_succ _⟩
  · exact h.near
  · exact ⟨Nat.le_succ _, Nat.le_succ _, Nat.le_succ _⟩
theorem MS.CommitStep.near {M M' : MS} {t : Nat} {rt : Nat × TR} {n : Nat} {c : Int} (h : M.CommitStep t rt n c M') : Near M M' := by
  obtain ⟨-, h⟩ | ⟨-, v, l, dr, F, -, -, -, -, rfl, -⟩ := h
  · exact h.near
  · have e1 : (((M.commit t rt v l).left t dr).forget F).now = (if l = [] then M.now else M.now + 1) := by cases dr <;> rfl
    have e2 : (((M.commit t rt v l).left t dr).forget F).clock = M.clock + 1 := by cases dr <;> rfl
    have e3 : (((M.commit t rt v l).left t dr).forget F).last = M.last := by cases dr <;> rfl
    refine ⟨?_, Nat.le_of_eq e2, by rw [e3]; omega⟩
    rw [e1]; split <;> omega

/-- One transaction turned, the commits left as they are. -/
theorem Small.set {M M' : MS} {S : PS} {n r d : Nat} (h : Small M S n r) (hm : Near M M') {i : Nat} {p p' : PT} (hp : S.l[i]? = some p) (ht : tOf p' ≤ tOf p + d) (hw : wOf p' ≤ wOf p + d)
    (hr : ∀ x ∈ p'.rd, x ∈ p.rd ∨ x.1.length < 2 ^ 32) (hk : ∀ x ∈ p'.wr, x ∈ p.wr ∨ x.length < 2 ^ 32) : Small M' { S with l := S.l.set i p' } (n + 1) (r + d) := by
  have e1 := sum_set tOf p' S.l i p hp
  have e2 := sum_set wOf p' S.l i p hp
  have h1 := h.now
  have h2 := h.clock
  have h3 := h.last
  have h4 := h.ord
  have h5 := h.tot
  have h6 := h.vs
  obtain ⟨m1, m2, m3⟩ := hm
  unfold totW at h5
  unfold opnW at h6
  have hpm : p ∈ S.l := List.mem_of_getElem? hp
  refine ⟨by omega, by omega, by omega, by show S.ord.length ≤ _; omega, ?_, ?_, ?_, ?_⟩
  · show ((S.l.set i p').map tOf).sum ≤ _; omega
  · show S.vs.length + ((S.l.set i p').map wOf).sum ≤ _; omega
  · intro u hu x hx
    rcases List.mem_or_eq_of_mem_set hu with hu | rfl
    · exact h.kr u hu x hx
    · exact (hr x hx).elim (h.kr p hpm x) id
  · intro u hu x hx
    rcases List.mem_or_eq_of_mem_set hu with hu | rfl
    · exact h.kw u hu x hx
    · exact (hk x hx).elim (h.kw p hpm x) id

theorem wOf_le (p : PT) : wOf p ≤ p.wr.length := by unfold wOf; split <;> omega
theorem wOf_open {p : PT} (h : p.over = false) : wOf p = p.wr.length := by unfold wOf; rw [h]; rfl

/-- What an act leaves, sizes and all. -/
structure Kept (M : MS) (S : PS) (n r : Nat) (k i : Int) (M' : MS) (S' : PS) : Prop where
  good : ∃ Z', Good M' S' Z'
  small : Small M' S' (n + 1) (if k = 4 then r else r + 1)
  keys : S'.keys = S.keys
  over : ∀ (j : Nat) (p : PT), S.l[j]? = some p → p.over = true → ∃ p', S'.l[j]? = some p' ∧ p'.over = true
  four : k = 4 → S'.l.length = S.l.length ∧ ∀ (j : Nat) (p : PT), i = (j : Nat) → S.l[j]? = some p → ∃ p', S'.l[j]? = some p' ∧ p'.over = true

theorem over_set {S : PS} {n : Nat} {p p' : PT} (hp : S.l[n]? = some p) (hov : p.over = false) : ∀ (j : Nat) (u : PT), S.l[j]? = some u → u.over = true → ∃ u', (S.l.set n p')[j]? = some u' ∧ u'.over = true := by
  intro j u hj hu
  have e : j ≠ n := fun e => by subst e; rw [hp] at hj; cases hj; rw [hov] at hu; cases hu
  exact ⟨u, by rw [List.getElem?_set_ne (fun h => e h.symm)]; exact hj, hu⟩

theorem Good.red {M M' : MS} {S S' : PS} {Z : SS} (h : Good M S Z) {n r : Nat} (hs : Small M S n r) {j : Nat} {p : PT} (hp : S.l[j]? = some p) (hov : p.over = false) {rt : Nat × TR} (hr : M.T p.tx = some rt) (ha : rt.2.act = true) {x : Key} (hx : x.length < 2 ^ 32) {i : Int} (hd : Red M S j p rt x M' S') : Kept M S n r 1 i M' S' := by
  have hg := h.read hp hov hr ha hd
  have w1 := wOf_open hov
  obtain ⟨c, hst, ⟨-, rfl⟩ | ⟨-, vr', rfl⟩⟩ := hd
  · refine ⟨hg, hs.set (d := 1) hst.near hp (by simp [tOf]) (Nat.le_trans (wOf_le _) (by rw [w1]; exact Nat.le_succ _)) (fun x h => .inl h) (fun x h => .inl h), rfl, over_set hp hov, fun e => by omega⟩
  · refine ⟨hg, hs.set (d := 1) hst.near hp (by simp [tOf]; omega) (Nat.le_trans (wOf_le _) (by rw [w1]; exact Nat.le_succ _)) (fun y h => ?_) (fun x h => .inl h), rfl, over_set hp hov, fun e => by omega⟩
    rcases List.mem_append.1 h with h | h
    · exact .inl h
    · simp at h; subst h; exact .inr hx

theorem Good.scanned {M M' : MS} {S S' : PS} {Z : SS} (h : Good M S Z) {n r : Nat} (hs : Small M S n r) {j : Nat} {p : PT} (hp : S.l[j]? = some p) (hov : p.over = false) {rt : Nat × TR} (hr : M.T p.tx = some rt) (ha : rt.2.act = true) {x y : Key} {i : Int} (hd : Scanned M S j p rt x y M' S') : Kept M S n r 2 i M' S' := by
  have hg := h.scan hp hov hr ha hd
  have w1 := wOf_open hov
  obtain ⟨c, vg', hst, rfl⟩ := hd
  exact ⟨hg, hs.set (d := 1) hst.near hp (by simp [tOf]; omega) (Nat.le_trans (wOf_le _) (by rw [w1]; exact Nat.le_succ _)) (fun x h => .inl h) (fun x h => .inl h), rfl, over_set hp hov, fun e => by omega⟩

theorem Good.wrote {M M' : MS} {S S' : PS} {Z : SS} (h : Good M S Z) {n r : Nat} (hs : Small M S n r) {j : Nat} {p : PT} (hp : S.l[j]? = some p) (hov : p.over = false) {rt : Nat × TR} (hr : M.T p.tx = some rt) (ha : rt.2.act = true) {x : Key} (hx : x.length < 2 ^ 32) {i : Int} (hd : Wrote M S j p rt x M' S') : Kept M S n r 3 i M' S' := by
  have hg := h.write hp hov hr ha hd
  have w1 := wOf_open hov
  obtain ⟨c, hst, ⟨-, rfl⟩ | ⟨-, -, vw', rfl⟩⟩ := hd
  · exact ⟨hg, hs.set (d := 1) hst.near hp (by simp [tOf]) (Nat.le_trans (wOf_le _) (by rw [w1]; exact Nat.le_succ _)) (fun x h => .inl h) (fun x h => .inl h), rfl, over_set hp hov, fun e => by omega⟩
  · refine ⟨hg, hs.set (d := 1) hst.near hp (by simp [tOf]; omega) (Nat.le_trans (wOf_le _) (by rw [w1]; simp)) (fun x h => .inl h) (fun y h => ?_), rfl, over_set hp hov, fun e => by omega⟩
    rcases List.mem_append.1 h with h | h
    · exact .inl h
    · simp at h; subst h; exact .inr hx

theorem four_set {S : PS} {n : Nat} {p p' : PT} (hp : S.l[n]? = some p) (hov' : p'.over = true) {i : Int} (hi : i = (n : Nat)) : (S.l.set n p').length = S.l.length ∧ ∀ (j : Nat) (u : PT), i = (j : Nat) → S.l[j]? = some u → ∃ u', (S.l.set n p')[j]? = some u' ∧ u'.over = true := by
  refine ⟨List.length_set .., fun j u hj hu => ?_⟩
  have e : j = n := by omega
  subst e
  obtain ⟨hn, -⟩ := List.getElem?_eq_some_iff.1 hp
  exact ⟨p', List.getElem?_set_self hn, hov'⟩

theorem Good.committed {M M' : MS} {S S' : PS} {Z : SS} (h : Good M S Z) {n r : Nat} (hs : Small M S n r) {j : Nat} {p : PT} (hp : S.l[j]? = some p) (hov : p.over = false) {rt : Nat × TR} (hr : M.T p.tx = some rt) (ha : rt.2.act = true) {i : Int} (hi : i = (j : Nat)) (hd : Committed M S j p rt M' S') : Kept M S n r 4 i M' S' := by
  have hg := h.commit hp hov hr ha hd
  have w1 := wOf_open hov
  obtain ⟨num, c, hst, ⟨-, rfl⟩ | ⟨-, vo', vv', rfl⟩⟩ := hd
  · exact ⟨hg, hs.set (d := 0) hst.near hp (Nat.le_refl _) (by simp [wOf]) (fun x h => .inl h) (fun x h => .inl h), rfl, over_set hp hov, fun _ => four_set hp rfl hi⟩
  · have hb := hs.set (d := 0) (p' := { p with over := true }) hst.near hp (Nat.le_refl _) (by simp [wOf]) (fun x h => .inl h) (fun x h => .inl h)
    refine ⟨hg, ⟨hb.now, hb.clock, hb.last, ?_, hb.tot, ?_, hb.kr, hb.kw⟩, rfl, over_set hp hov, fun _ => four_set hp rfl hi⟩
    · have := hs.ord; show (S.ord ++ [p.tx]).length ≤ _; simp; exact this
    · have e2 := sum_set wOf { p with over := true } S.l j p hp
      have e3 : wOf { p with over := true } = 0 := rfl
      have := hs.vs
      unfold opnW at this
      show (S.vs ++ p.wr.map (fun x => (x, num, p.tx))).length + ((S.l.set j { p with over := true }).map wOf).sum ≤ r
      rw [List.length_append, List.length_map]
      omega

theorem Good.kept0 {M : MS} {S : PS} {Z : SS} (h : Good M S Z) {n r : Nat} (hs : Small M S n r) {k i : Int} (hf : k = 4 → ∀ (j : Nat) (p : PT), i = (j : Nat) → S.l[j]? = some p → p.over = true) : Kept M S n r k i M S :=
  ⟨⟨Z, h⟩, hs.mono (Nat.le_succ _) (by split <;> omega), rfl, fun j p hp ho => ⟨p, hp, ho⟩, fun e => ⟨rfl, fun j p hi hp => ⟨p, hp, hf e j p hi hp⟩⟩⟩

section
variable {w : World} {cls : Nat → Nat} {P : MP} {q : Nat} {M : MS} {pp : Nat} {S : PS} {Z : SS} {n r : Nat}

set_option maxHeartbeats 1000000 in
/-- An act. -/
theorem Play.does6 (H53 : Sorts53) (H68 : Sorts68) (H72 : Sorts72) (H124 : Sorted124) (hM : Mgr w cls P q M) (hB : 2 ^ 40 ≤ P.B) (hP : Play w cls pp P.m S) (hG : Good M S Z) (hS : Small M S n r) (hn : n < 2 ^ 31) (hr : r < 2 ^ 31) (hq : q + 1 < 2 ^ 40)
    (k i : Int) (x y : Key) (hx : x.length < 2 ^ 32) :
    Calls Tryz.prog 6 #[.pointer (some ⟨pp, 0, none⟩), actV k i x y] w fun e w' => e = .returned (.bool true) ∧ Acted w cls P q pp w' (Kept M S n r k i) := by
  have hl : S.l.length ≤ n := by rw [hG.len, hG.tie.last]; exact hS.last
  have h1 := hS.now
  have h2 := hS.clock
  have h3 := hS.last
  have h4 := hS.ord
  have h5 := hS.tot
  have h6 := hS.vs
  by_cases k0 : k = 0
  · subst k0
    have hnew : M.T (M.last + 1) = none := by
      cases e : M.T (M.last + 1) with
      | none => rfl
      | some rt =>
        have a1 := (hG.tie.tx _ _ e).1
        have a2 := hG.inv.new (M.last + 1) (by rw [hG.tie.last]; omega)
        rw [a2] at a1
        split at a1 <;> omega
    refine (hP.does_begin H53 hM hq hnew (by omega) (by omega) (by omega) i x y).mono ?_
    rintro e w' ⟨rfl, cls', b1, b2, ⟨b3, b4⟩ | ⟨b, vl', b3, b4⟩⟩
    · exact ⟨rfl, cls', P.bn, M, S, b1, .inl rfl, b2, b3.mono (by omega) hq, b4, hG.kept0 hS (fun e => by omega)⟩
    · refine ⟨rfl, cls', P.bn, _, _, b1, .inl rfl, b2, b3, b4, ⟨_, hG.begin b vl'⟩, ⟨?_, ?_, ?_, ?_, ?_, ?_, ?_, ?_⟩, rfl, ?_, fun e => by omega⟩
      · show M.now ≤ n + 1; omega
      · show M.clock + 1 ≤ n + 1; omega
      · show M.last + 1 ≤ n + 1; omega
      · show S.ord.length ≤ n + 1; omega
      · unfold totW at *; rw [List.map_append, List.sum_append]; simp [tOf]; omega
      · unfold opnW at *; rw [List.map_append, List.sum_append]; simp [wOf]; omega
      · intro u hu z hz
        rcases List.mem_append.1 hu with hu | hu
        · exact hS.kr u hu z hz
        · simp at hu; subst hu; cases hz
      · intro u hu z hz
        rcases List.mem_append.1 hu with hu | hu
        · exact hS.kw u hu z hz
        · simp at hu; subst hu; cases hz
      · intro j p hp ho
        have hj := (List.getElem?_eq_some_iff.1 hp).1
        exact ⟨p, by show (S.l ++ _)[j]? = _; rw [List.getElem?_append_left hj]; exact hp, ho⟩
  by_cases hsk : i < 0 ∨ (S.l.length : Int) ≤ i ∨ ∃ (n : Nat) (p : PT), i = (n : Nat) ∧ S.l[n]? = some p ∧ p.over = true
  · refine (hP.does_skip k i x y k0 hsk).mono ?_
    rintro e w' ⟨rfl, hf⟩
    refine ⟨rfl, cls, P.bn, M, S, fun _ _ => rfl, .inl rfl, hf.mono (fun _ _ e => e.elim), (hM.fr0 hf).mono (by omega) hq, hP.fr0 hf, hG.kept0 hS (fun _ j p hj hp => ?_)⟩
    rcases hsk with e | e | ⟨m, u, e, hu, ho⟩
    · omega
    · have := (List.getElem?_eq_some_iff.1 hp).1; omega
    · have : m = j := by omega
      subst this
      rw [hp] at hu; cases hu; exact ho
  · obtain ⟨j, rfl⟩ : ∃ j : Nat, i = (j : Nat) := ⟨i.toNat, by omega⟩
    have hj : j < S.l.length := by omega
    obtain ⟨p, hp⟩ : ∃ p, S.l[j]? = some p := ⟨_, List.getElem?_eq_getElem hj⟩
    have hov : p.over = false := by
      cases e : p.over with
      | false => rfl
      | true => exact absurd (.inr (.inr ⟨j, p, rfl, hp, e⟩)) hsk
    have h0 := (hG.opn j p hp).1 hov
    rw [← (hG.tx j p hp).1] at h0
    obtain ⟨rt, hrt, hact⟩ := hG.tie.st0 hG.inv h0
    have t1 := le_sum tOf S.l j p hp
    have t2 := le_sum wOf S.l j p hp
    rw [wOf_open hov] at t2
    unfold tOf at t1
    unfold totW tOf at h5
    unfold opnW at h6
    have e1 : p.rd.length < 2 ^ 32 ∧ p.rg.length < 2 ^ 32 ∧ p.wr.length < 2 ^ 32 := by omega
    by_cases k1 : k = 1
    · subst k1
      refine (hP.does_read H53 H68 H124 hM hB hq hp hov hrt hact x y hx e1.1).mono ?_
      rintro e w' ⟨rfl, cls', bn', M', S', b1, b2, b3, b4, b5, b6⟩
      exact ⟨rfl, cls', bn', M', S', b1, b2, b3, b4, b5, hG.red hS hp hov hrt hact hx b6⟩
    by_cases k2 : k = 2
    · subst k2
      refine (hP.does_scan H53 H68 H124 hM hB hq hp hov hrt hact x y hx e1.2.1).mono ?_
      rintro e w' ⟨rfl, cls', bn', M', S', b1, b2, b3, b4, b5, b6⟩
      exact ⟨rfl, cls', bn', M', S', b1, b2, b3, b4, b5, hG.scanned hS hp hov hrt hact b6⟩
    by_cases k3 : k = 3
    · subst k3
      refine (hP.does_write H53 H68 hM hq hp hov hrt hact x y hx e1.2.2).mono ?_
      rintro e w' ⟨rfl, cls', bn', M', S', b1, b2, b3, b4, b5, b6⟩
      exact ⟨rfl, cls', bn', M', S', b1, b2, b3, b4, b5, hG.wrote hS hp hov hrt hact hx b6⟩
    by_cases k4 : k = 4
    · subst k4
      refine (hP.does_commit H53 H68 H72 hM hq hp hov hrt hact (by omega) (by omega) (by omega) (by omega) x y).mono ?_
      rintro e w' ⟨rfl, cls', bn', M', S', b1, b2, b3, b4, b5, b6⟩
      exact ⟨rfl, cls', bn', M', S', b1, b2, b3, b4, b5, hG.committed hS hp hov hrt hact rfl b6⟩
    by_cases k5 : k = 5
    · subst k5
      refine (hP.does_abort H53 H68 hM hp hov hrt hact x y).mono ?_
      rintro e w' ⟨rfl, b3, b5, F, b4, b6⟩
      have hg : M.GoneStep p.tx ((M.drop p.tx).forget F) := ⟨F, rfl, b6⟩
      have hs' := hS.set (d := 1) (p' := { p with over := true }) hg.near hp (Nat.le_succ _) (by simp [wOf]) (fun x h => .inl h) (fun x h => .inl h)
      exact ⟨rfl, cls, P.bn, _, _, fun _ _ => rfl, .inl rfl, b3, b4.mono (by omega) hq, b5, hG.abort hp hov hg, hs', rfl, over_set hp hov, fun e => by omega⟩
    · refine (hP.does_other hp hov k (by omega) x y).mono ?_
      rintro e w' ⟨rfl, hf⟩
      exact ⟨rfl, cls, P.bn, M, S, fun _ _ => rfl, .inl rfl, hf.mono (fun _ _ e => e.elim), (hM.fr0 hf).mono (by omega) hq, hP.fr0 hf, hG.kept0 hS (fun e => absurd e k4)⟩
end
end Go.Proofs.YteldfmgjbgedaaaGreat

namespace Go.Proofs.YteldfmgjbgedaaaGreat

def PAct.row (a : PAct) : Array Value := #[.int .i64 (a.txn : Nat), .bool a.write, .string ⟨a.item.toArray⟩, .int .i64 (a.ver : Nat)]

theorem ptActs_rows (S : PS) (p : PT) : ptActs S p = (ptP S p).map PAct.row := by
  unfold ptActs ptP
  split
  · rw [List.map_append, List.map_append, List.map_map, List.map_map, List.map_flatMap]
    congr 1
    refine flatMap_congr_mem (fun r _ => ?_)
    unfold rgActs
    rw [List.map_map]; rfl
  · rfl

theorem histActs_rows (S : PS) : histActs S = (histP S).map PAct.row := by
  unfold histActs histP
  rw [List.map_flatMap]
  exact flatMap_congr_mem (fun p _ => ptActs_rows S p)
end Go.Proofs.YteldfmgjbgedaaaGreat

namespace Go.Proofs.YteldfmgjbgedaaaGreat
open Go.RowKit Go.Maps

/-- A play under way in the law. -/
structure TS (w W : World) (pp : Nat) (cls : Nat → Nat) (P : MP) (q : Nat) (M : MS) (S : PS) : Prop where
  fr : Fr (fun _ => False) w W
  mgr : Mgr W cls P q M
  play : Play W cls pp P.m S
  old : ∀ k, k < w.heap.size → cls k = 0
  oldP : w.heap.size ≤ P.bm ∧ w.heap.size ≤ P.bk ∧ w.heap.size ≤ P.bn
  B : 2 ^ 40 ≤ P.B

theorem TS.fr0 {w W W' : World} {pp : Nat} {cls : Nat → Nat} {P : MP} {q : Nat} {M : MS} {S : PS} (h : TS w W pp cls P q M S) (hf : Fr (fun _ => False) W W') : TS w W' pp cls P q M S :=
  ⟨h.fr.trans hf (fun _ _ e => e), h.mgr.fr0 hf, h.play.fr0 hf, h.old, h.oldP, h.B⟩

theorem TS.act {w W W' : World} {pp : Nat} {cls : Nat → Nat} {P : MP} {q : Nat} {M : MS} {S : PS} {R : MS → PS → Prop} (h : TS w W pp cls P q M S) (hA : Acted W cls P q pp W' R) :
    ∃ cls' bn' M' S', TS w W' pp cls' { P with bn := bn' } (q + 1) M' S' ∧ R M' S' := by
  obtain ⟨cls', bn', M', S', h1, h2, h3, h4, h5, h6⟩ := hA
  obtain ⟨o1, o2, o3⟩ := h.oldP
  have hs := h.fr.size
  refine ⟨cls', bn', M', S', ⟨h.fr.trans h3 (fun k hk e => ?_), h4, h5, fun k hk => (h1 k (by omega)).trans (h.old k hk), ⟨o1, o2, ?_⟩, h.B⟩, h6⟩
  · rcases e with e | e | e | e
    · rw [h.old k hk] at e; omega
    · omega
    · omega
    · omega
  · rcases h2 with e | e
    · show _ ≤ bn'; rw [e]; exact o3
    · show _ ≤ bn'; omega

/-- At first. -/
theorem TS.made {w W1 W2 : World} {cls : Nat → Nat} {P : MP} (h1 : Fr (fun _ => False) w W1) (h2 : Fr (fun _ => False) W1 W2) (hM : Mgr W2 cls P 0 MS.zero) (hm : ∀ k, Mine cls P k → W1.heap.size ≤ k) (hc : ∀ k, cls k ≤ 3) (hB : P.B = 2 ^ 40) :
    TS w (W2.alloc (.cells #[.pointer (some ⟨P.m, 0, none⟩), .slice none 0 0, .slice none 0 0, .slice none 0 0, .slice none 0 0] 35)) W2.heap.size (clsG cls W2.heap.size 7) P 0 MS.zero ⟨[], [], [], [], .slice none 0 0, .slice none 0 0, .slice none 0 0, .slice none 0 0⟩ := by
  have hf : Fr (fun _ => False) W2 (W2.alloc (.cells #[.pointer (some ⟨P.m, 0, none⟩), .slice none 0 0, .slice none 0 0, .slice none 0 0, .slice none 0 0] 35)) := (Fr.refl _ _).alloc _
  have hag : ∀ k, k < W2.heap.size → clsG cls W2.heap.size 7 k = cls k := fun k hk => if_neg (by omega)
  have s1 := h1.size
  have s2 := h2.size
  refine ⟨(h1.trans h2 (fun _ _ e => e)).trans hf (fun _ _ e => e), hM.fr hf (Off.none _ _ _) hag, ?_, fun k hk => ?_, ⟨?_, ?_, ?_⟩, by rw [hB]; exact Nat.le_refl _⟩
  · exact {
      row := rowOf_alloc_at _ _ _ _ _ rfl
      lp := live_alloc_at _ _ _ _ rfl
      cp := clsG_at _ _ _
      hl := OwnRows.nil _ _ _
      cl := fun _ e => by cases e
      hv := OwnRows.nil _ _ _
      cv := fun _ e => by cases e
      ho := OwnRows.nil _ _ _
      co := fun _ e => by cases e
      hk := OwnRows.nil _ _ _
      ck := fun _ e => by cases e
      hr := fun _ _ e => by simp at e
      hg := fun _ _ e => by simp at e
      hw := fun _ _ e => by simp at e }
  · rw [hag k (by omega)]
    have := hc k
    rcases Nat.eq_zero_or_pos (cls k) with e | e
    · exact e
    · have := hm k (.inl ⟨e, by omega⟩); omega
  · have := hm P.bm (.inr (.inl rfl)); omega
  · have := hm P.bk (.inr (.inr (.inl rfl))); omega
  · have := hm P.bn (.inr (.inr (.inr rfl))); omega

/-- A key more. -/
theorem TS.key {w W w3 : World} {pp : Nat} {cls : Nat → Nat} {P : MP} {q : Nat} {M : MS} {S : PS} (h : TS w W pp cls P q M S) (z : Key) {g' len cap' : Nat} (ho : OwnRows w3 (.slice (some ⟨g', 0, none⟩) len cap') 1 (strRows (S.keys) ++ strRows ([z])) 0)
    (hf : Fr (fun i => S.vk.ownBlock = some i) W w3) (hn : S.vk.ownBlock = some g' ∨ W.heap.size ≤ g') :
    TS w (w3.setRow pp #[.pointer (some ⟨P.m, 0, none⟩), S.vl, S.vv, S.vo, .slice (some ⟨g', 0, none⟩) len cap']) pp (clsG cls g' 11) P q M { S with keys := S.keys ++ [z], vk := .slice (some ⟨g', 0, none⟩) len cap' } := by
  have hs := h.fr.size
  have hp := h.play.grow_vk z ho hf hn
  have hag : ∀ k, k < W.heap.size → clsG cls g' 11 k = cls k := fun k hk => clsG_old h.play.ck hn hk
  have f4 : Fr (fun k => k = pp ∨ S.vk.ownBlock = some k) W (w3.setRow pp #[.pointer (some ⟨P.m, 0, none⟩), S.vl, S.vv, S.vo, .slice (some ⟨g', 0, none⟩) len cap']) := (hf.mono (fun _ _ e => .inr e)).setRow pp _ (fun _ => .inl rfl)
  refine ⟨h.fr.trans f4 (fun k hk e => ?_), h.mgr.aside f4 (fun k _ e => ?_) (fun k e => .inl ?_) hag, hp, fun k hk => (hag k (by omega)).trans (h.old k hk), h.oldP, h.B⟩
  · have h0 := h.old k hk
    rcases e with e | e
    · rw [e, h.play.cp] at h0; omega
    · rw [h.play.ck k e] at h0; omega
  · rcases e with e | e
    · rw [e, h.play.cp]; omega
    · rw [h.play.ck k e]; omega
  · rcases e with e | e
    · rw [e]; exact h.play.lp
    · exact h.play.hk.liv e

/-! ### how great a history can be -/
theorem flatMap_len {α β : Type} (f : α → List β) (m : Nat) (g : α → Nat) : ∀ l : List α, (∀ a ∈ l, (f a).length ≤ g a * m) → (l.flatMap f).length ≤ (l.map g).sum * m := by
  intro l
  induction l with
  | nil => intro _; simp
  | cons a l ih =>
    intro h
    have h1 := h a (List.mem_cons_self ..)
    have h2 := ih (fun b hb => h b (List.mem_cons_of_mem _ hb))
    rw [List.flatMap_cons, List.length_append, List.map_cons, List.sum_cons, Nat.add_mul]
    omega
theorem ptActs_len (S : PS) (p : PT) : (ptActs S p).length ≤ tOf p * (S.keys.length + 1) := by
  unfold ptActs
  split
  · have h1 : (p.rg.flatMap (rgActs S p)).length ≤ p.rg.length * S.keys.length := by
      have := flatMap_len (rgActs S p) S.keys.length (fun _ => 1) p.rg (fun r _ => by unfold rgActs; rw [List.length_map, Nat.one_mul]; exact List.length_filter_le _ _)
      have e : ∀ l : List (Key × Key), (l.map (fun _ => 1)).sum = l.length := by
        intro l; induction l with
        | nil => rfl
        | cons a l ih => rw [List.map_cons, List.sum_cons, ih, List.length_cons]; omega
      rw [e] at this; exact this
    rw [List.length_append, List.length_append, List.length_map, List.length_map]
    unfold tOf
    have h2 := Nat.le_mul_of_pos_right p.rd.length (Nat.succ_pos S.keys.length)
    have h3 := Nat.le_mul_of_pos_right p.wr.length (Nat.succ_pos S.keys.length)
    have h4 : p.rg.length * S.keys.length ≤ p.rg.length * (S.keys.length + 1) := Nat.mul_le_mul_left _ (Nat.le_succ _)
    rw [Nat.add_mul, Nat.add_mul]
    simp only [Nat.succ_eq_add_one] at h2 h3
    omega
  · simp
theorem histActs_len (S : PS) : (histActs S).length ≤ totW S.l * (S.keys.length + 1) := flatMap_len _ _ _ _ (fun p _ => ptActs_len S p)
theorem histActs_small {M : MS} {S : PS} {n r : Nat} (h : Small M S n r) (hr : r < 2 ^ 18) (hk : S.keys.length < 2 ^ 18) : (histActs S).length < 2 ^ 36 := by
  have h1 := histActs_len S
  have h2 : totW S.l * (S.keys.length + 1) ≤ (2 ^ 18 - 1) * 2 ^ 18 := Nat.mul_le_mul (by have := h.tot; omega) (by omega)
  omega

theorem Good.actsB {M : MS} {S : PS} {Z : SS} (h : Good M S Z) {n r : Nat} (hs : Small M S n r) (hn : n < 2 ^ 31) (hk : ∀ x ∈ S.keys, x.length < 2 ^ 32) (ha : (histActs S).length ≤ 4096) (hc : S.ord.length ≤ 4096) : ActsB (histP S) S.ord where
  la := by rw [histActs_rows, List.length_map] at ha; exact ha
  lc := hc
  c := fun t ht => by
    obtain ⟨i, p, rfl, hp⟩ := h.lt (t := t) (by rw [(h.ord t).1 ht]; omega)
    have h1 := (List.getElem?_eq_some_iff.1 hp).1
    have h2 := hs.last
    rw [h.len, h.tie.last] at h1
    omega
  a := fun a ha => by
    have hh := h.histOk
    have hc : ∀ t ∈ S.ord, t < 2 ^ 40 := fun t ht => by
      obtain ⟨i, p, rfl, hp⟩ := h.lt (t := t) (by rw [(h.ord t).1 ht]; omega)
      have h1 := (List.getElem?_eq_some_iff.1 hp).1
      have h2 := hs.last
      rw [h.len, h.tie.last] at h1
      omega
    refine ⟨?_, ?_⟩
    · by_cases e : a.ver = 0
      · rw [e]; omega
      · cases hw : a.write with
        | true => exact absurd (hh.w0 a ha hw) e
        | false =>
          obtain ⟨b, hb, -, e2, -⟩ := hh.seen a ha hw e
          rw [← e2]; exact hc _ (hh.txn b hb)
    · obtain ⟨p, hp, hap⟩ := List.mem_flatMap.1 ha
      unfold ptP at hap
      split at hap
      · rcases List.mem_append.1 hap with hap | hap
        · rcases List.mem_append.1 hap with hap | hap
          · obtain ⟨x, hx, rfl⟩ := List.mem_map.1 hap
            exact hs.kr p hp x hx
          · obtain ⟨x, hx, rfl⟩ := List.mem_map.1 hap
            exact hs.kw p hp x hx
        · obtain ⟨x, -, hap⟩ := List.mem_flatMap.1 hap
          obtain ⟨k, hk2, rfl⟩ := List.mem_map.1 hap
          exact hk k (List.mem_filter.1 hk2).1
      · cases hap

/-! ### a script -/
structure SAct where
  k : Int
  i : Int
  x : Key
  y : Key
def ActsAt (w : World) (v : Value) (l : List SAct) : Prop :=
  ∃ a cap, v = .slice a l.length cap ∧ (l = [] ∨ ∃ g off, a = some ⟨g, off, none⟩ ∧ ∀ i (h : i < l.length), off + i * 4 + 4 ≤ (rowOf w g).size ∧ cut (rowOf w g) (off + i * 4) 4 = actC l[i].k l[i].i l[i].x l[i].y)

theorem size_lt {w : World} {g n : Nat} (h : n + 1 ≤ (rowOf w g).size) : g < w.heap.size := by
  by_cases hg : g < w.heap.size
  · exact hg
  · have : (rowOf w g).size = 0 := by
      unfold rowOf; simp [Array.getElem?_eq_none (show w.heap.size ≤ g by omega)]
    omega

theorem ActsAt.get {w : World} {a : Option Addr} {n c : Nat} {l : List SAct} (h : ActsAt w (.slice a n c) l) {i : Nat} (hi : i < l.length) : ∃ g off, a = some ⟨g, off, none⟩ ∧ g < w.heap.size ∧ off + i * 4 + 4 ≤ (rowOf w g).size ∧
    (rowOf w g)[off + i * 4]? = some (.int .i64 l[i].k) ∧ (rowOf w g)[off + i * 4 + 1]? = some (.int .i64 l[i].i) ∧ (rowOf w g)[off + i * 4 + 2]? = some (.string ⟨l[i].x.toArray⟩) ∧ (rowOf w g)[off + i * 4 + 3]? = some (.string ⟨l[i].y.toArray⟩) := by
  obtain ⟨a', c', e, h | ⟨g, off, rfl, h⟩⟩ := h
  · rw [h] at hi; simp at hi
  simp only [Value.slice.injEq] at e
  obtain ⟨h1, h2⟩ := h i hi
  have g0 := cut_get h1 0 (by omega)
  have g1 := cut_get h1 1 (by omega)
  have g2 := cut_get h1 2 (by omega)
  have g3 := cut_get h1 3 (by omega)
  rw [h2] at g0 g1 g2 g3
  have f0 : (rowOf w g)[off + i * 4]? = some (.int .i64 l[i].k) := by simpa [actC] using g0.symm
  exact ⟨g, off, e.1, size_lt h1, h1, f0, by simpa [actC] using g1.symm, by simpa [actC] using g2.symm, by simpa [actC] using g3.symm⟩

theorem ActsAt.keep {w w' : World} {v : Value} {l : List SAct} (h : ActsAt w v l) (hf : Fr (fun _ => False) w w') : ActsAt w' v l := by
  obtain ⟨a, c, e, h | ⟨g, off, rfl, h⟩⟩ := h
  · exact ⟨a, c, e, .inl h⟩
  · refine ⟨_, c, e, .inr ⟨g, off, rfl, fun i hi => ?_⟩⟩
    obtain ⟨h1, h2⟩ := h i hi
    have hg : g < w.heap.size := size_lt h1
    rw [hf.row hg (fun e => e)]
    exact ⟨h1, h2⟩
end Go.Proofs.YteldfmgjbgedaaaGreat
