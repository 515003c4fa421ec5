/-
  Package ssi: what each call does, as steps of the manager's state.
-/
import Derived.Test.YteldfmgjbgedaaaGreatNef
import Derived.Test.YteldfmgjbgedaaaGreatNh
import Derived.Test.YteldfmgjbgedaaaGreatNj
namespace Go.Proofs.YteldfmgjbgedaaaGreat
open Go.RowKit Go.Maps

/-- A transaction that leaves without a trace. -/
def MS.GoneStep (M : MS) (t : Nat) (M' : MS) : Prop := ∃ F, M' = (M.drop t).forget F ∧ ∀ i, F i = true ↔ (M.drop t).old i

/-- A read that is noted. -/
def MS.NoteStep (M : MS) (t : Nat) (rt : Nat × TR) (x : RdT) (c : Int) (M' : MS) : Prop :=
  ∃ N', NoteKeep M.N N' t ∧ ((c ≠ 0 ∧ ({ M with N := N' } : MS).GoneStep t M') ∨
    (c = 0 ∧ ∃ os, (∀ k, covK x k = true → HN N' t k) ∧ (∀ o, o ∈ os ↔ M.with_ t o ∧ ∃ s, M.wroteBy o s ∧ covK x s = true) ∧ M.badAll rt.2 true os = false ∧ M' = (({ M with N := N' } : MS).flags (oneIf t os) false).flags os true))

def MS.ReadStep (M : MS) (t : Nat) (rt : Nat × TR) (s : Key) (c : Int) (M' : MS) : Prop := (M.G s = some t ∧ c = 0 ∧ M' = M) ∨ (M.G s ≠ some t ∧ M.NoteStep t rt ⟨1, s, []⟩ c M')
def MS.ScanStep (M : MS) (t : Nat) (rt : Nat × TR) (lo hi : Key) (c : Int) (M' : MS) : Prop := (c = 0 ∧ M' = M ∧ ∀ s, inR lo hi s = false) ∨ M.NoteStep t rt ⟨2, lo, hi⟩ c M'
def MS.WriteStep (M : MS) (t : Nat) (rt : Nat × TR) (s : Key) (la : Nat) (c : Int) (M' : MS) : Prop :=
  (M.G s = some t ∧ c = 0 ∧ M' = M) ∨ (c ≠ 0 ∧ M.GoneStep t M') ∨
    (c = 0 ∧ M.G s = none ∧ la ≤ rt.2.snap ∧ (∀ o p, M.with_ t o → M.T o = some p → p.2.act = false → s ∉ M.W o) ∧ ∃ os, (∀ o, o ∈ os ↔ M.with_ t o ∧ HN M.N o s) ∧ M.badAll rt.2 false os = false ∧ M' = ((M.lock s t).flags (oneIf t os) true).flags os false)
def MS.CommitStep (M : MS) (t : Nat) (rt : Nat × TR) (n : Nat) (c : Int) (M' : MS) : Prop :=
  (c ≠ 0 ∧ M.GoneStep t M') ∨ (c = 0 ∧ ∃ v l dr F, ¬ (rt.2.fi = true ∧ rt.2.fo = true) ∧ (∀ s, s ∈ l ↔ M.G s = some t) ∧ (dr = true → (∀ o p, o ≠ t → M.T o = some p → p.2.act = false) ∨ (l = [] ∧ lenO (M.N t) = 0)) ∧
    n = (if l = [] then M.now else M.now + 1) ∧ M' = ((M.commit t rt v l).left t dr).forget F ∧ ∀ i, F i = true ↔ ((M.commit t rt v l).left t dr).old i)

/-- What a call leaves behind. -/
structure Did (w : World) (cls : Nat → Nat) (P : MP) (q : Nat) (w' : World) (cls' : Nat → Nat) (bn' : Nat) (M' : MS) : Prop where
  agree : ∀ k, k < w.heap.size → cls' k = cls k
  bn : bn' = P.bn ∨ w.heap.size ≤ bn'
  fr : Fr (Mine cls P) w w'
  mgr : Mgr w' cls' { P with bn := bn' } (q + 1) M'

section
variable {w : World} {cls : Nat → Nat} {P : MP} {q : Nat} {M : MS}

theorem Did.of_note {t : Nat} {rt : Nat × TR} {x : RdT} {e : Ending} {w' : World} (h : ReadRes w cls P q M t rt x e w') : ∃ (c : Int) (cls' : Nat → Nat) (bn' : Nat) (M' : MS), e = .returned (.int .i64 c) ∧ M.NoteStep t rt x c M' ∧ Did w cls P q w' cls' bn' M' := by
  obtain ⟨cls', bn', N', h1, h2, h3, h4, h5⟩ := h
  rcases h5 with ⟨c, F, h6, rfl, h7, h8⟩ | ⟨os, rfl, h6, h7, h8, h9⟩
  · exact ⟨c, cls', bn', _, rfl, ⟨N', h4, .inl ⟨h6, F, rfl, h8⟩⟩, ⟨h1, h2, h3, h7⟩⟩
  · exact ⟨0, cls', bn', _, rfl, ⟨N', h4, .inr ⟨rfl, os, h6, h7, h8, rfl⟩⟩, ⟨h1, h2, h3, h9⟩⟩

theorem Did.none {w' : World} (h : Mgr w cls P q M) (hq : q + 1 < 2 ^ 40) (hf : Fr (fun _ => False) w w') : Did w cls P q w' cls P.bn M :=
  ⟨fun _ _ => rfl, .inl rfl, hf.mono (fun _ _ e => e.elim), (h.fr0 hf).mono (by omega) hq⟩

theorem Mgr.scan (H53 : Sorts53) (H68 : Sorts68) (H124 : Sorted124) (h : Mgr w cls P q M) (hB : 2 ^ 40 ≤ P.B) (hq : q + 1 < 2 ^ 40) {t : Nat} {rt : Nat × TR} (ht : M.T t = some rt) (ha : rt.2.act = true) (lo hi : Key) (hlo : lo.length < 2 ^ 40) :
    Calls Tryz.prog 16 #[.pointer (some ⟨P.m, 0, none⟩), .int .i64 (t : Nat), .string ⟨#[116]⟩, .string ⟨lo.toArray⟩, .string ⟨hi.toArray⟩] w fun e w' =>
      ∃ (c : Int) (cls' : Nat → Nat) (bn' : Nat) (M' : MS), e = .returned (.int .i64 c) ∧ Hid (M.ScanStep t rt lo hi c M') ∧ Hid (Did w cls P q w' cls' bn' M') := by
  refine (h.scan16 H53 H68 H124 hB hq ht ha lo hi hlo).mono ?_
  rintro e w' (⟨rfl, rfl, h1⟩ | h1)
  · exact ⟨0, cls, P.bn, M, rfl, Lib.hid (.inl ⟨rfl, rfl, h1⟩), Lib.hid (Did.none h hq (Fr.refl _ _))⟩
  · obtain ⟨c, cls', bn', M', e1, h2, h3⟩ := Did.of_note h1
    exact ⟨c, cls', bn', M', e1, Lib.hid (.inr h2), Lib.hid h3⟩

theorem Mgr.read (H53 : Sorts53) (H68 : Sorts68) (H124 : Sorted124) (h : Mgr w cls P q M) (hB : 2 ^ 40 ≤ P.B) (hq : q + 1 < 2 ^ 40) {t : Nat} {rt : Nat × TR} (ht : M.T t = some rt) (ha : rt.2.act = true) (s : Key) (hs : s.length + 1 < 2 ^ 40) :
    Calls Tryz.prog 14 #[.pointer (some ⟨P.m, 0, none⟩), .int .i64 (t : Nat), .agg #[.string ⟨#[116]⟩, .string ⟨s.toArray⟩]] w fun e w' =>
      ∃ (c : Int) (cls' : Nat → Nat) (bn' : Nat) (M' : MS), e = .returned (.int .i64 c) ∧ Hid (M.ReadStep t rt s c M') ∧ Hid (Did w cls P q w' cls' bn' M') := by
  refine (h.read14 H53 H68 H124 hB hq ht ha s hs).mono ?_
  rintro e w' (⟨h1, rfl, h2⟩ | ⟨h1, h2⟩)
  · exact ⟨0, cls, P.bn, M, rfl, Lib.hid (.inl ⟨h1, rfl, rfl⟩), Lib.hid (Did.none h hq h2)⟩
  · obtain ⟨c, cls', bn', M', e1, h3, h4⟩ := Did.of_note h2
    exact ⟨c, cls', bn', M', e1, Lib.hid (.inr ⟨h1, h3⟩), Lib.hid h4⟩

theorem Mgr.write (H53 : Sorts53) (H68 : Sorts68) (h : Mgr w cls P q M) (hq : q + 1 < 2 ^ 40) {t : Nat} {rt : Nat × TR} (ht : M.T t = some rt) (ha : rt.2.act = true) (s : Key) (hs : s.length < 2 ^ 40) (la : Nat) :
    Calls Tryz.prog 17 #[.pointer (some ⟨P.m, 0, none⟩), .int .i64 (t : Nat), .agg #[.string ⟨#[116]⟩, .string ⟨s.toArray⟩], .int .i64 (la : Nat)] w fun e w' =>
      ∃ (c : Int) (cls' : Nat → Nat) (bn' : Nat) (M' : MS), e = .returned (.int .i64 c) ∧ Hid (M.WriteStep t rt s la c M') ∧ Hid (Did w cls P q w' cls' bn' M') := by
  refine (h.write17 H53 H68 hq ht ha s hs la).mono ?_
  rintro e w' (⟨h1, rfl, h2⟩ | ⟨h1, c, rfl, cls', h2, h3, h4⟩)
  · exact ⟨0, cls, P.bn, M, rfl, Lib.hid (.inl ⟨h1, rfl, rfl⟩), Lib.hid (Did.none h hq h2)⟩
  · rcases h4 with ⟨F, h5, h6, h7⟩ | ⟨os, rfl, h5, h6, h7, h8, h9, h10⟩
    · exact ⟨c, cls', P.bn, _, rfl, Lib.hid (.inr (.inl ⟨h5, F, rfl, h7⟩)), Lib.hid ⟨h2, .inl rfl, h3, h6⟩⟩
    · exact ⟨0, cls', P.bn, _, rfl, Lib.hid (.inr (.inr ⟨rfl, h5, h6, h7, os, h8, h9, rfl⟩)), Lib.hid ⟨h2, .inl rfl, h3, h10⟩⟩

theorem Mgr.commit (H53 : Sorts53) (H68 : Sorts68) (H72 : Sorts72) (h : Mgr w cls P q M) (hq : q + 1 < 2 ^ 40) {t : Nat} {rt : Nat × TR} (ht : M.T t = some rt) (ha : rt.2.act = true) (hclock : M.clock + 1 < 2 ^ 41) (hnow : M.now + 1 < 2 ^ 41) :
    Calls Tryz.prog 19 #[.pointer (some ⟨P.m, 0, none⟩), .int .i64 (t : Nat)] w fun e w' =>
      ∃ (n : Nat) (c : Int) (cls' : Nat → Nat) (bn' : Nat) (M' : MS), e = .returned (.tuple #[.int .i64 (n : Nat), .int .i64 c]) ∧ Hid (M.CommitStep t rt n c M') ∧ Hid (Did w cls P q w' cls' bn' M') := by
  refine (h.commit19 H53 H68 H72 ht ha hclock hnow).mono ?_
  rintro e w' (⟨c, h1, rfl, F, h2, h3, h4⟩ | ⟨l, rfl, v, cls', dr, F, h1, h2, h3, h4, h5, h6, h7⟩)
  · exact ⟨0, c, cls, P.bn, _, rfl, Lib.hid (.inl ⟨h1, F, rfl, h3⟩), Lib.hid ⟨fun _ _ => rfl, .inl rfl, h4, h2.mono (by omega) hq⟩⟩
  · exact ⟨_, 0, cls', P.bn, _, rfl, Lib.hid (.inr ⟨rfl, v, l, dr, F, h1, h2, h3, rfl, rfl, h7⟩), Lib.hid ⟨h4, .inl rfl, h5, h6.mono (by omega) hq⟩⟩
end
end Go.Proofs.YteldfmgjbgedaaaGreat
