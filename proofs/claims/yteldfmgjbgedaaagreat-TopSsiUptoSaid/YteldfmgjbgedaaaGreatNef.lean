/-
  Package ssi: Read, Scan.
  Package ssi: Read.
-/
import Derived.Test.YteldfmgjbgedaaaGreatNa
import Derived.Test.YteldfmgjbgedaaaGreatNbc
namespace Go.Proofs.YteldfmgjbgedaaaGreat
open Go.RowKit Go.Maps

theorem inR_key (k s : Key) : inR k (k ++ [0]) s = covK ⟨1, k, []⟩ s := by
  unfold inR covK
  simp only [if_true]
  by_cases e : k = s
  · subst e; simp [lt_irrefl, key_next]
  · have : (k == s) = false := by simp [e]
    rw [this]
    cases h1 : Op.bytesLess s k with
    | true => rfl
    | false =>
      cases h2 : Op.bytesLess s (k ++ [0]) with
      | false => simp
      | true => exact absurd (next_key h1 h2).symm e
theorem inR_range (lo hi s : Key) : inR lo hi s = covK ⟨2, lo, hi⟩ s := by
  unfold inR covK
  simp only [le_eq]
  rfl

section
variable {w : World} {cls : Nat → Nat} {P : MP} {q : Nat} {S : MS}

set_option maxRecDepth 20000 in
set_option maxHeartbeats 4000000 in
/-- Scan. -/
theorem Mgr.scan16 (H53 : Sorts53) (H68 : Sorts68) (H124 : Sorted124) (h : Mgr w cls P q S) (hB : 2 ^ 40 ≤ P.B) (hq : q + 1 < 2 ^ 40) {t : Nat} {rt : Nat × TR} (ht : S.T t = some rt) (ha : rt.2.act = true) (lo hi : Key) (hlo : lo.length < 2 ^ 40) :
    Calls Tryz.prog 16 #[.pointer (some ⟨P.m, 0, none⟩), .int .i64 (t : Nat), .string ⟨#[116]⟩, .string ⟨lo.toArray⟩, .string ⟨hi.toArray⟩] w fun e w' =>
      (e = .returned (.int .i64 0) ∧ w' = w ∧ ∀ s, inR lo hi s = false) ∨ ReadRes w cls P q S t rt ⟨2, lo, hi⟩ e w' := by
  have HA := Lib.hid (h.active29 ht ha)
  by_cases he : hi = []
  · subst he
    have HR := Lib.hid (h.read31 H53 H68 H124 hB hq ht (x := ⟨2, lo, []⟩) ⟨.inr (.inl ⟨rfl, .inl rfl⟩), hlo⟩ lo [] (inR_range lo []))
    unfold rdV at HR
    clear h
    go_enter Tryz.func16, Tryz.ntmps16
    go_wp2_with (first | (go_at_call 29; refine HA.out.mono ?_; rintro e w' ⟨rfl, rfl⟩) | (go_at_call 31; refine HR.out.mono ?_; rintro e w' hres; obtain ⟨c, rfl⟩ : ∃ c, e = .returned (.int .i64 c) := (by obtain ⟨_, _, _, _, _, _, _, ⟨c, _, _, h, _⟩ | ⟨_, h, _⟩⟩ := hres; exact ⟨_, h⟩; exact ⟨_, h⟩)))
    all_goals go_ret
    all_goals exact .inr hres
  · have hne : (hi == ([] : List UInt8)) = false := by simp [he]
    by_cases hle : Op.bytesLess lo hi = true
    · have hle2 : (Op.bytesLess hi lo || hi == lo) = false := by rw [le_eq, hle]; rfl
      have HR := Lib.hid (h.read31 H53 H68 H124 hB hq ht (x := ⟨2, lo, hi⟩) ⟨.inr (.inl ⟨rfl, .inr hle⟩), hlo⟩ lo hi (inR_range lo hi))
      unfold rdV at HR
      clear h
      go_enter Tryz.func16, Tryz.ntmps16
      go_wp2_with (first | (go_at_call 29; refine HA.out.mono ?_; rintro e w' ⟨rfl, rfl⟩) | (go_at_call 31; refine HR.out.mono ?_; rintro e w' hres; obtain ⟨c, rfl⟩ : ∃ c, e = .returned (.int .i64 c) := (by obtain ⟨_, _, _, _, _, _, _, ⟨c, _, _, h, _⟩ | ⟨_, h, _⟩⟩ := hres; exact ⟨_, h⟩; exact ⟨_, h⟩)))
      all_goals go_ret
      all_goals first
        | exact .inr hres
        | exact .inl ⟨rfl, rfl, fun s => by simp_all⟩
    · have hlf : Op.bytesLess lo hi = false := by simpa using hle
      have hle2 : (Op.bytesLess hi lo || hi == lo) = true := by rw [le_eq, hlf]; rfl
      clear h
      go_enter Tryz.func16, Tryz.ntmps16
      go_wp2_with (go_at_call 29; refine HA.out.mono ?_; rintro e w' ⟨rfl, rfl⟩)
      all_goals go_ret
      all_goals
        refine .inl ⟨rfl, rfl, fun s => ?_⟩
        unfold inR
        cases h1 : Op.bytesLess s lo with
        | true => rfl
        | false =>
          have : hi.isEmpty = false := by cases hi with | nil => exact absurd rfl he | cons a b => rfl
          rw [this]
          cases h2 : Op.bytesLess s hi with
          | false => rfl
          | true => have := le_lt h1 h2; rw [hlf] at this; cases this
end
end Go.Proofs.YteldfmgjbgedaaaGreat

namespace Go.Proofs.YteldfmgjbgedaaaGreat
open Go.RowKit Go.Maps

section
variable {w : World} {cls : Nat → Nat} {P : MP} {q : Nat} {S : MS}

/-- Who holds a key's lock. -/
theorem Mgr.holder30 (h : Mgr w cls P q S) (s : Key) (hs : s.length < 2 ^ 40) :
    Calls Tryz.prog 30 #[.pointer (some ⟨P.bl, 0, none⟩), .agg #[.string ⟨#[116]⟩, .string ⟨s.toArray⟩]] w fun e w' => ∃ o b, e = .returned (.tuple #[.int .i64 (o : Nat), .bool b]) ∧ ((b = true ∧ S.G s = some o) ∨ (b = false ∧ S.G s = none)) ∧ Fr (fun _ => False) w w' := by
  obtain ⟨n2, g2, h2, hlk⟩ := h.lk
  refine (holder_any w P.bl h.rowl h.ll hlk.map (a := ⟨#[116]⟩) (b := ⟨s.toArray⟩) (by decide) (by show s.toArray.size ≤ maxLen; simp only [List.size_toArray, maxLen]; omega)).mono ?_
  rintro e w' ⟨rfl, hf⟩
  cases hg : S.G s with
  | none =>
    have : g2 (.agg #[.string ⟨#[116]⟩, .string ⟨s.toArray⟩]) = none := hlk.none_ hg
    exact ⟨0, false, by rw [this]; rfl, .inr ⟨rfl, rfl⟩, hf⟩
  | some o =>
    have : g2 (.agg #[.string ⟨#[116]⟩, .string ⟨s.toArray⟩]) = some (.int .i64 (o : Nat)) := (hlk.at_ s o hg).1
    exact ⟨o, true, by rw [this]; rfl, .inl ⟨rfl, rfl⟩, hf⟩

theorem ReadRes.later {w0 : World} {t : Nat} {rt : Nat × TR} {x : RdT} {e : Ending} {w' : World} (h : ReadRes w cls P q S t rt x e w') (hf : Fr (fun _ => False) w0 w) : ReadRes w0 cls P q S t rt x e w' := by
  obtain ⟨cls', bn', N', h1, h2, h3, h4, h5⟩ := h
  exact ⟨cls', bn', N', fun k hk => h1 k (Nat.lt_of_lt_of_le hk hf.size), h2.imp id (fun h => Nat.le_trans hf.size h), hf.mine_none.trans h3 (fun _ _ h => h), h4, h5⟩

set_option maxRecDepth 20000 in
set_option maxHeartbeats 4000000 in
/-- Read. -/
theorem Mgr.read14 (H53 : Sorts53) (H68 : Sorts68) (H124 : Sorted124) (h : Mgr w cls P q S) (hB : 2 ^ 40 ≤ P.B) (hq : q + 1 < 2 ^ 40) {t : Nat} {rt : Nat × TR} (ht : S.T t = some rt) (ha : rt.2.act = true) (s : Key) (hs : s.length + 1 < 2 ^ 40) :
    Calls Tryz.prog 14 #[.pointer (some ⟨P.m, 0, none⟩), .int .i64 (t : Nat), .agg #[.string ⟨#[116]⟩, .string ⟨s.toArray⟩]] w fun e w' =>
      (S.G s = some t ∧ e = .returned (.int .i64 0) ∧ Fr (fun _ => False) w w') ∨ (S.G s ≠ some t ∧ ReadRes w cls P q S t rt ⟨1, s, []⟩ e w') := by
  have F0 : Fr (fun _ => False) w (w.alloc (.cells #[.string ⟨#[116]⟩, .string ⟨s.toArray⟩] 66)) := (Fr.refl _ w).alloc _
  have h1 := h.fr0 F0
  have HA := Lib.hid (h1.active29 ht ha)
  have HH := Lib.hid ((h1.fr0 ((Fr.refl _ _).drew)).holder30 s (by omega))
  have hrow := h.row
  have hlm := live_lt h.lm
  have H1 := Lib.hid h1
  have HF0 := Lib.hid F0
  have hsz : s.length + 1 ≤ maxLen := by simp only [maxLen]; omega
  have HRW := Lib.hid (fun (w1 : World) (hf : Fr (fun _ => False) (w.alloc (.cells #[.string ⟨#[116]⟩, .string ⟨s.toArray⟩] 66)).drew w1) => ((h1.fr0 ((Fr.refl _ _).drew)).fr0 hf).read31 H53 H68 H124 hB hq ht (x := ⟨1, s, []⟩) ⟨.inl ⟨rfl, rfl⟩, by show s.length < _; omega⟩ s (s ++ [0]) (inR_key s))
  unfold mgRow at hrow
  unfold rdV at HRW
  clear h h1 F0
  go_enter Tryz.func14, Tryz.ntmps14
  go_wp2_with (go_at_call 29; refine HA.out.mono ?_; rintro e w' ⟨rfl, rfl⟩)
  go_region_law (first | (go_simp; go_at_call 30; refine HH.out.mono ?_; rintro e w1 ⟨o, b, rfl, hob, hf⟩; have HOB := Lib.hid hob; have HF1 := Lib.hid hf; have rb := (hf.row (g := w.heap.size) (by simp) (fun e => e)).trans (by simp [go_sem] : _ = #[.string ⟨#[116]⟩, .string ⟨s.toArray⟩]); clear hob hf))
  all_goals
    have hbb : b = true ∨ b = false := by cases b <;> simp
    have hR := HRW.out w1 HF1.out
    obtain ⟨s0, hs0⟩ : ∃ s0 : ByteArray, (⟨s.toArray⟩ ++ ⟨#[0]⟩ : ByteArray) = s0 := ⟨_, rfl⟩
    rw [← ba_app s [0], show (⟨s.toArray⟩ ++ ⟨[0].toArray⟩ : ByteArray) = s0 from hs0] at hR
    have HR := Lib.hid hR
    have FW := Lib.hid (HF0.out.drew.trans HF1.out (fun _ _ h => h))
    clear hR
    have key : ∀ (e : Ending) (w2 : World), ReadRes w1 cls P q S t rt ⟨1, s, []⟩ e w2 → ∃ c, e = .returned (.int .i64 c) ∧ Hid (ReadRes w cls P q S t rt ⟨1, s, []⟩ e w2) := fun e w2 hres => by
      have h2 := hres.later FW.out
      obtain ⟨_, _, _, _, _, _, _, ⟨c, _, _, h, _⟩ | ⟨_, h, _⟩⟩ := hres
      · exact ⟨c, h, h2⟩
      · exact ⟨0, h, h2⟩
    rcases hbb with rfl | rfl
    · have HG : Hid (S.G s = some o) := by
        rcases HOB.out with ⟨_, h⟩ | ⟨h, _⟩
        · exact h
        · cases h
      by_cases hot : o = t
      · subst hot
        have hd : ((o : Int) == (o : Int)) = true := by simp
        go_wp2
        go_ret
        exact .inl ⟨HG.out, rfl, FW.out⟩
      · have hd : ((o : Int) == (t : Int)) = false := by rw [beq_eq_false_iff_ne]; omega
        have hd2 : decide ((o : Int) = (t : Int)) = false := decide_eq_false (by omega)
        go_wp2_with (go_at_call 31; refine HR.out.mono ?_; rintro e w2 hres; obtain ⟨c, rfl, HRES⟩ := key e w2 hres; clear hres)
        go_ret
        exact .inr ⟨fun h => by rw [HG.out] at h; exact hot (Option.some.inj h), HRES.out⟩
    · have HG : Hid (S.G s = none) := by
        rcases HOB.out with ⟨h, _⟩ | ⟨_, h⟩
        · cases h
        · exact h
      go_wp2_with (go_at_call 31; refine HR.out.mono ?_; rintro e w2 hres; obtain ⟨c, rfl, HRES⟩ := key e w2 hres; clear hres)
      go_ret
      exact .inr ⟨fun h => (by rw [HG.out] at h; cases h), HRES.out⟩
end
end Go.Proofs.YteldfmgjbgedaaaGreat
