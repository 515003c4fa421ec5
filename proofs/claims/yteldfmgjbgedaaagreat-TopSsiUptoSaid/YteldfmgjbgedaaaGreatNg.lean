/-
  Package ssi: what Write calls.
-/
import Derived.Test.YteldfmgjbgedaaaGreatNef
namespace Go.Proofs.YteldfmgjbgedaaaGreat
open Go.RowKit Go.Maps

/-- A lock more. -/
def MS.lock (S : MS) (s : Key) (t : Nat) : MS := { S with G := fun u => if u = s then some t else S.G u }

section
variable {w : World} {cls : Nat → Nat} {P : MP} {q : Nat} {S : MS}

theorem LocksAt.put {w' : World} {bk n n' : Nat} {f : Value → Option Value} {G : Key → Option Nat} (h : LocksAt w bk n f G) {s : Key} {t : Nat} (hs : s.length ≤ maxLen) (ht : t < 2 ^ 40) (hm : MapF w' 66 bk n' (updF f (lkKey s) (some (.int .i64 (t : Nat))))) : LocksAt w' bk n' (updF f (lkKey s) (some (.int .i64 (t : Nat)))) (fun u => if u = s then some t else G u) := by
  refine ⟨hm, fun u o hu => ?_, fun v x hv => ?_⟩
  · by_cases e : u = s
    · rw [if_pos e] at hu; cases hu
      rw [e, updF_same]; exact ⟨rfl, hs⟩
    · rw [if_neg e] at hu
      rw [updF_ne f _ (fun h => e (lkKey_inj h))]; exact h.at_ u o hu
  · by_cases e : v = lkKey s
    · exact ⟨s, t, e, if_pos rfl, ht⟩
    · rw [updF_ne f _ e] at hv
      obtain ⟨u, o, h1, h2, h3⟩ := h.all v x hv
      exact ⟨u, o, h1, by rw [if_neg (fun hh => e (by rw [h1, hh]))]; exact h2, h3⟩

theorem Mgr.take32 (h : Mgr w cls P q S) (hq : q + 1 < 2 ^ 40) {t sn la : Nat} (ht : 1 ≤ t) (ht40 : t < 2 ^ 40) (s : Key) (hs : s.length < 2 ^ 40) (hg : S.G s ≠ some t) :
    Calls Tryz.prog 32 #[.pointer (some ⟨P.bl, 0, none⟩), .int .i64 (t : Nat), .int .i64 (sn : Nat), .int .i64 (la : Nat), .agg #[.string ⟨#[116]⟩, .string ⟨s.toArray⟩]] w fun e w' => ∃ c, e = .returned (.int .i64 c) ∧ Fr (fun k => k = P.bk) w w' ∧
      Hid ((c ≠ 0 ∧ Mgr w' cls P (q + 1) S) ∨ (c = 0 ∧ S.G s = none ∧ la ≤ sn ∧ Mgr w' cls P (q + 1) (S.lock s t))) := by
  obtain ⟨n2, g2, h2, hlk⟩ := h.lk
  have hsl : (⟨s.toArray⟩ : ByteArray).size ≤ maxLen := by show s.toArray.size ≤ maxLen; simp only [List.size_toArray, maxLen]; omega
  cases hgs : S.G s with
  | some o =>
    have hf : g2 (.agg #[.string ⟨#[116]⟩, .string ⟨s.toArray⟩]) = some (.int .i64 (o : Nat)) := (hlk.at_ s o hgs).1
    refine (take_held w P.bl h.rowl h.ll hlk.map (a := ⟨#[116]⟩) (b := ⟨s.toArray⟩) (by decide) hsl (tx := (t : Nat)) (sn := (sn : Nat)) (la := (la : Nat)) (by omega) (by omega) (by omega) hf (fun e => hg (by rw [hgs]; congr 1; omega))).mono ?_
    rintro e w' ⟨rfl, h3⟩
    exact ⟨80, rfl, h3.mono (fun _ _ h => h.elim), .inl ⟨by omega, (h.fr0 h3).mono (by omega) hq⟩⟩
  | none =>
    have hf : g2 (.agg #[.string ⟨#[116]⟩, .string ⟨s.toArray⟩]) = none := hlk.none_ hgs
    refine (take_free w P.bl h.rowl h.ll hlk.map (by have := h.qb; simp only [maxLen]; omega) (a := ⟨#[116]⟩) (b := ⟨s.toArray⟩) (by decide) hsl (tx := (t : Nat)) (sn := (sn : Nat)) (la := (la : Nat)) (by omega) (by omega) (by omega) hf).mono ?_
    rintro e w' (⟨c, hc, rfl, h3⟩ | ⟨rfl, h3, h4, h5⟩)
    · exact ⟨c, rfl, h3.mono (fun _ _ h => h.elim), .inl ⟨hc, (h.fr0 h3).mono (by omega) hq⟩⟩
    · refine ⟨0, rfl, h5, .inr ⟨rfl, (by first | exact hgs | rfl), by omega, ?_⟩⟩
      exact h.locks (by omega) hq ⟨n2 + 1, _, by omega, hlk.put (s := s) (by simp only [maxLen]; omega) ht40 h4⟩ h5

/-- Those concurrent ones that have committed a write of the key. -/
theorem Mgr.write_late (h : Mgr w cls P q S) {t : Nat} {rt : Nat × TR} (ht : S.T t = some rt) (s : Key) {b : Nat} (hb : rowOf w b = #[.string ⟨#[116]⟩, .string ⟨s.toArray⟩]) (hbl : b < w.heap.size) :
    Calls Tryz.prog 34 #[.pointer (some ⟨P.m, 0, none⟩), .pointer (some ⟨rt.1, 0, none⟩), .func (.func 35) #[] #[.pointer (some ⟨b, 0, none⟩)]] w fun e w' => ∃ a n c, e = .returned (.slice a n c) ∧ (n = 0 → ∀ o p, S.with_ t o → S.T o = some p → p.2.act = false → s ∉ S.W o) ∧ Fr (fun _ => False) w w' := by
  have eg : ∀ args w, (callFunc 35 args).run Tryz.prog w = .ok (.enter 35 args) w := enters_of Tryz.func35 (by kernel_rfl) rfl
  refine (h.others ht (fg := 35) (cb := #[.pointer (some ⟨b, 0, none⟩)]) (so := fun o => ∃ p, S.T o = some p ∧ p.2.act = false ∧ s ∈ S.W o) eg (fun W o p hf hpo => ((h.fr0 hf).write35 hpo s ((hf.row hbl (fun e => e)).trans hb)).mono (by
    rintro e w' ⟨rb, rfl, h1, h2⟩
    exact ⟨rb, rfl, h1.trans ⟨fun h => ⟨p, hpo, h⟩, fun ⟨p', h3, h4⟩ => by rw [hpo] at h3; cases h3; exact h4⟩, h2⟩))).mono ?_
  rintro e w' ⟨v, os, rfl, ho, hos, hoq, hf⟩
  obtain ⟨a, c, rfl⟩ := ho.len
  refine ⟨a, _, c, rfl, fun h0 o p h1 h2 h3 h4 => ?_, hf⟩
  rw [ptrRows_length] at h0
  have : o ∈ os := (hos o).2 ⟨h1, p, h2, h3, h4⟩
  rw [List.eq_nil_of_length_eq_zero h0] at this
  cases this

/-- Readers, then others, then put, as Write calls them. -/
theorem Mgr.write_put (H53 : Sorts53) (H68 : Sorts68) (h : Mgr w cls P q S) {t : Nat} {rt : Nat × TR} (ht : S.T t = some rt) {v : Value} {xs : List Nat} {base : Nat} (hv : OwnRows w v 1 (natRows xs) base) {b : Nat} (hb : rowOf w b = #[v]) (hbl : b < w.heap.size) :
    Calls Tryz.prog 34 #[.pointer (some ⟨P.m, 0, none⟩), .pointer (some ⟨rt.1, 0, none⟩), .func (.func 39) #[] #[.pointer (some ⟨b, 0, none⟩)]] w fun e w2 => ∃ v2 os, e = .returned v2 ∧ Hid (∀ o, o ∈ os ↔ S.with_ t o ∧ o ∈ xs) ∧ Hid (Fr (fun _ => False) w w2) ∧
      Hid (Calls Tryz.prog 38 #[.pointer (some ⟨P.m, 0, none⟩), .pointer (some ⟨rt.1, 0, none⟩), v2, .bool false] w2 fun e w' => ∃ c3, e = .returned (.int .i64 c3) ∧ Hid (
        ((S.badAll rt.2 false os = true ∧ c3 = 100 ∧ ∃ F, Mgr w' (cls0 w cls) P q ((S.drop t).forget F) ∧ (∀ i, F i = true ↔ (S.drop t).old i)) ∨
        (S.badAll rt.2 false os = false ∧ c3 = 0 ∧ Mgr w' (cls0 w cls) P q ((S.flags (oneIf t os) true).flags os false))) ∧ Fr (Mine (cls0 w cls) P) w2 w')) := by
  have hM2 : Mgr w (cls0 w cls) P q S := h.fr (Fr.refl (fun _ => False) _) (Off.none _ _ _) (fun k hk => cls0_lt hk)
  have eg : ∀ args w, (callFunc 39 args).run Tryz.prog w = .ok (.enter 39 args) w := enters_of Tryz.func39 (by kernel_rfl) rfl
  refine (hM2.others (t := t) (rt := rt) ht (fg := 39) (cb := #[.pointer (some ⟨b, 0, none⟩)]) (so := fun o => o ∈ xs) eg
        (fun W o p hf hpo => (hM2.fr0 hf).write39 hpo (hv.keep hf (fun _ _ e => e)) ((hf.row hbl (fun e => e)).trans hb))).mono ?_
  rintro e w2 ⟨v2, os, rfl, ho, hos, hoq, hf2⟩
  have hM4 := hM2.fr0 hf2
  refine ⟨v2, os, rfl, hos, hf2, ?_⟩
  refine (hM4.put H53 H68 (t := t) (rt := rt) ht ho (fun o hh => by obtain ⟨⟨h1, r', p', _, h3, _⟩, _⟩ := (hos o).1 hh; exact ⟨h1, p', h3⟩) (fun k hk e => by have h1 := (ho.lt hk).1; rw [cls0_ge h1] at e; omega) false).mono ?_
  rintro e w3 ⟨⟨h1, rfl, h2⟩ | ⟨h1, rfl, h2⟩, hf3⟩
  · exact ⟨100, rfl, .inl ⟨h1, rfl, h2⟩, hf3⟩
  · exact ⟨0, rfl, .inr ⟨h1, rfl, h2⟩, hf3⟩

theorem Mgr.readers37 (H53 : Sorts53) (h : Mgr w cls P q S) (s : Key) :
    Calls Tryz.prog 37 #[.pointer (some ⟨P.br, 0, none⟩), .string ⟨#[116]⟩, .string ⟨s.toArray⟩] w fun e w' => ∃ v xs, e = .returned v ∧ OwnRows w' v 1 (natRows xs) w.heap.size ∧ (∀ i, i ∈ xs ↔ HN S.N i s) ∧ Fr (fun _ => False) w w' := by
  obtain ⟨n3, g3, h3, hnt⟩ := h.nt
  exact Go.Proofs.YteldfmgjbgedaaaGreat.readers37 H53 w P.br h.rowr h.lr hnt (by have := h.qb; omega) h.nok s
end
end Go.Proofs.YteldfmgjbgedaaaGreat
