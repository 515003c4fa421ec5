/-
  Package ssi: put.
-/
import Derived.Test.YteldfmgjbgedaaaGreatMno
namespace Go.Proofs.YteldfmgjbgedaaaGreat
open Go.RowKit Go.Maps

def flagP (inn : Bool) (p : Nat × TR) : Nat × TR := (p.1, p.2.flag inn)
theorem flagP_twice (inn : Bool) (p : Nat × TR) : flagP inn (flagP inn p) = flagP inn p := by
  unfold flagP TR.flag
  simp
/-- The flags of those in l, with one more. -/
def MS.flags (S : MS) (l : List Nat) (inn : Bool) : MS := { S with T := fun i => if i ∈ l then (S.T i).map (flagP inn) else S.T i }
theorem MS.flags_nil (S : MS) (inn : Bool) : S.flags [] inn = S := by simp [MS.flags]
theorem MS.flags_step (S : MS) (l : List Nat) (inn : Bool) {o : Nat} {p : Nat × TR} (hp : (S.flags l inn).T o = some p) : (S.flags l inn).setTx o (flagP inn p) ((S.flags l inn).W o) = S.flags (l ++ [o]) inn := by
  unfold MS.setTx MS.flags at *
  simp only [MS.mk.injEq, true_and, and_true] at *
  refine ⟨funext fun i => ?_, funext fun i => ?_⟩
  · by_cases e : i = o
    · subst e
      simp only [if_true, List.mem_append, List.mem_singleton, or_true]
      by_cases hl : i ∈ l
      · rw [if_pos hl] at hp
        obtain ⟨p0, h0, rfl⟩ := Option.map_eq_some_iff.1 hp
        rw [h0, flagP_twice]; rfl
      · rw [if_neg hl] at hp
        rw [hp]; rfl
    · simp [e]
  · by_cases e : i = o <;> simp [e]
theorem MS.flags_some {S : MS} {l : List Nat} {inn : Bool} {o : Nat} {p : Nat × TR} (h : S.T o = some p) : ∃ p', (S.flags l inn).T o = some p' ∧ p'.1 = p.1 := by
  unfold MS.flags
  by_cases hl : o ∈ l
  · exact ⟨flagP inn p, by simp [hl, h], rfl⟩
  · exact ⟨p, by simp [hl, h], rfl⟩

/-- Whether another one would have both flags. -/
def MS.badO (S : MS) (out : Bool) (o : Nat) : Bool := match S.T o with | some p => !p.2.act && ((p.2.fi || out) && (p.2.fo || !out)) | none => false
/-- Whether t or another one would have both. -/
def MS.badAll (S : MS) (r : TR) (out : Bool) (os : List Nat) : Bool := ((r.fi || (!out && !os.isEmpty)) && (r.fo || (out && !os.isEmpty))) || os.any (S.badO out)

/-- The blocks of the manager. -/
def Mine (cls : Nat → Nat) (P : MP) (k : Nat) : Prop := (1 ≤ cls k ∧ cls k ≤ 6) ∨ k = P.bm ∨ k = P.bk ∨ k = P.bn

/-- t alone, if there are others. -/
def oneIf (t : Nat) (os : List Nat) : List Nat := match os with | [] => [] | _ => [t]

theorem oneIf_nil {t : Nat} {os : List Nat} (h : os.isEmpty = true) : oneIf t os = [] := by cases os with | nil => rfl | cons a b => cases h
theorem oneIf_cons {t : Nat} {os : List Nat} (h : os.isEmpty = false) : oneIf t os = [t] := by cases os with | nil => cases h | cons a b => rfl
theorem flags_one {S : MS} (inn : Bool) {t : Nat} {p : Nat × TR} (h : S.T t = some p) : S.flags [t] inn = S.setTx t (flagP inn p) (S.W t) := by
  have := MS.flags_step S [] inn (o := t) (p := p) (by rw [MS.flags_nil]; exact h)
  rw [MS.flags_nil] at this
  exact this.symm

/-- A flag's call, at the manager. -/
theorem Mgr.flag {w : World} {cls : Nat → Nat} {P : MP} {q : Nat} {S : MS} (h : Mgr w cls P q S) {o : Nat} {p : Nat × TR} (hp : S.T o = some p) (inn : Bool) :
    Calls Tryz.prog 66 #[.pointer (some ⟨p.1, 5, none⟩), .bool inn] w fun e w' => e = .returned (.tuple #[]) ∧ Mgr w' cls P q (S.setTx o (flagP inn p) (S.W o)) ∧ Fr (fun k => k = p.1) w w' := by
  obtain ⟨n1, g1, h1, htx⟩ := h.tx
  obtain ⟨hfa, hla, hra, ha40⟩ := htx.at_ o p hp
  refine (flag66 w p.1 p.2 inn hra hla).mono ?_
  rintro e w' ⟨rfl, h2, h3, h4⟩
  obtain ⟨a1, a2⟩ := h.wr o p hp
  have hc := (h.ct o p hp)
  exact ⟨rfl, h.setTx hp (p.2.flag inn) (S.W o) h2 h3 hc.2.1 ⟨a1.keep h4 (fun k hk e => by have := a2 k hk; rw [e, hc.1] at this; omega), a2⟩ h4 (fun _ _ => rfl), h4⟩

set_option maxRecDepth 20000 in
set_option maxHeartbeats 8000000 in
theorem Mgr.put (H53 : Sorts53) (H68 : Sorts68) {w : World} {cls : Nat → Nat} {P : MP} {q : Nat} {S : MS} (h : Mgr w cls P q S) {t : Nat} {rt : Nat × TR} (ht : S.T t = some rt) {v : Value} {os : List Nat} {base : Nat} (ho : OwnRows w v 1 (ptrRows S os) base) (hos : ∀ o ∈ os, o ≠ t ∧ ∃ p, S.T o = some p)
    (hcl : ∀ k, v.ownBlock = some k → ¬ cls k = 4) (out : Bool) :
    Calls Tryz.prog 38 #[.pointer (some ⟨P.m, 0, none⟩), .pointer (some ⟨rt.1, 0, none⟩), v, .bool out] w fun e w' =>
      ((S.badAll rt.2 out os = true ∧ e = .returned (.int .i64 100) ∧ ∃ F, Mgr w' cls P q ((S.drop t).forget F) ∧ (∀ i, F i = true ↔ (S.drop t).old i)) ∨
      (S.badAll rt.2 out os = false ∧ e = .returned (.int .i64 0) ∧ Mgr w' cls P q ((S.flags (oneIf t os) (!out)).flags os out))) ∧ Fr (Mine cls P) w w' := by
  obtain ⟨a, c, rfl⟩ := ho.len
  have hmx := ho.max
  rw [ptrRows_length] at ho hmx ⊢
  have H := Lib.hid h
  have HO := Lib.hid ho
  have HOS := Lib.hid hos
  have HT := Lib.hid ht
  obtain ⟨n1, g1, hn1, htx⟩ := h.tx
  obtain ⟨-, hla, hra, ha40⟩ := htx.at_ t rt ht
  have htc := h.ct t rt ht
  unfold TR.row txRow at hra
  have HB1 := fun (W : World) (fi fo i o : Bool) => both_any W fi fo i o
  have hlen : decide (0 < os.length) = !os.isEmpty := by cases os <;> simp
  have HEMP := Lib.hid hlen
  have hcl' : ∀ k, (Value.slice a os.length c).ownBlock = some k → ¬ cls k = 4 := by rw [ptrRows_length] at hcl; exact hcl
  clear ho hos ht h htx hcl
  have hemp : os.isEmpty = true ∨ os.isEmpty = false := by cases os.isEmpty <;> simp
  cases out with
  | true =>
    rcases hemp with he | he <;> rw [he] at hlen <;>
    · have HE := Lib.hid he
      clear he
      go_enter Tryz.func38, Tryz.ntmps38
      go_wp2_with (go_at_call 65; refine (HB1 _ _ _ _ _).mono ?_; rintro e w1 ⟨rfl, hf1⟩)
      go_loopw [10, 35] (fun t10 t35 wr => ∃ (k : Nat) (kb : Bool), t35 = .int .i64 (k : Nat) ∧ k ≤ os.length ∧ t10 = .bool kb ∧ kb = (((rt.2.fi || (!true && !os.isEmpty)) && (rt.2.fo || (true && !os.isEmpty))) || (os.take k).any (S.badO true)) ∧ Fr (fun _ => False) w wr) (fun _ t35 _ => os.length - (intOf t35).toNat)
      case atStart => exact ⟨0, _, rfl, Nat.zero_le _, rfl, by simp [HE.out], hf1⟩
      case round =>
        obtain ⟨k, kb, rfl, hk, rfl, hkb, hf⟩ := hrel
        have HF := Lib.hid hf
        have HKB := Lib.hid hkb
        have hM := H.out.fr0 hf
        have HM := Lib.hid hM
        have hkk : kb = true ∨ kb = false := by cases kb <;> simp
        clear hra hla hkb
        by_cases hlt : k < os.length
        · obtain ⟨g, rfl, hbg, hlg, -, hxc, hsz, hget⟩ := (HO.out.keep hf (fun _ _ e => e)).get (k := k) (by rw [ptrRows_length]; exact hlt)
          have hxk : (ptrRows S os)[k]'(by rw [ptrRows_length]; exact hlt) = #[.pointer (some ⟨S.blk os[k], 0, none⟩)] := by simp [ptrRows]
          have c0 : (rowOf wr g)[k]? = some (.pointer (some ⟨S.blk os[k], 0, none⟩)) := by have := hget 0 (by omega); rw [hxk] at this; simpa using this
          have hmem := List.getElem_mem hlt
          have htk := Lib.hid (List.take_succ_eq_append_getElem hlt)
          generalize hq : os[k] = o at c0 hmem htk
          obtain ⟨hot, p, hpo⟩ := HOS.out o hmem
          rw [MS.blk_eq hpo] at c0
          obtain ⟨n5, g5, hn5, htx5⟩ := hM.tx
          obtain ⟨-, hlp, hrp, -⟩ := htx5.at_ o p hpo
          have hbo : S.badO true o = (!p.2.act && ((p.2.fi || true) && (p.2.fo || !true))) := by unfold MS.badO; rw [hpo]
          have HBO := Lib.hid hbo
          have HLT := Lib.hid hlt
          have hki : (k : Int) < (os.length : Int) := by omega
          unfold TR.row txRow at hrp
          clear hget hxk hmem hpo htx5 hf hM hbo hq
          have hact : p.2.act = true ∨ p.2.act = false := by cases p.2.act <;> simp
          rcases hkk with rfl | rfl
          · clear hact
            go_wp2
            go_roundw
            case rel =>
              refine ⟨k + 1, true, by go_num, by have := HLT.out; omega, rfl, ?_, HF.out⟩
              rw [htk.out, List.any_append, ← Bool.or_assoc, ← HKB.out]; rfl
            case measure => (have := HLT.out; simp only [intOf]; omega)
          · rcases hact with hact | hact
            · rw [hact] at hrp
              go_wp2
              go_roundw
              case rel =>
                refine ⟨k + 1, false, by go_num, by have := HLT.out; omega, rfl, ?_, HF.out⟩
                rw [htk.out, List.any_append, ← Bool.or_assoc, ← HKB.out]
                simp [HBO.out, hact]
              case measure => (have := HLT.out; simp only [intOf]; omega)
            · rw [hact] at hrp
              go_wp2_with (go_at_call 65; refine (HB1 _ _ _ _ _).mono ?_; rintro e w2 ⟨rfl, hf2⟩)
              go_roundw
              case rel =>
                refine ⟨k + 1, _, by go_num, by have := HLT.out; omega, rfl, ?_, HF.out.trans hf2 (fun _ _ h => h)⟩
                rw [htk.out, List.any_append, ← Bool.or_assoc, ← HKB.out]
                simp [HBO.out, hact]
              case measure => (have := HLT.out; simp only [intOf]; omega)
        · obtain rfl : k = os.length := by omega
          have hbad : kb = S.badAll rt.2 true os := by
            have := HKB.out
            rw [List.take_of_length_le (Nat.le_refl _)] at this
            exact this
          have HBAD := Lib.hid hbad
          clear hf hbad
          rcases hkk with rfl | rfl
          · have HG := Lib.hid (hM.gone H53 H68 HT.out)
            clear hM
            go_wp2_with (go_at_call 33; refine HG.out.mono ?_; rintro e w2 ⟨rfl, F, h1, h2, h3⟩)
            go_ret
            exact ⟨.inl ⟨HBAD.out.symm, rfl, F, h1, h2⟩, (HF.out.mono (fun _ _ h => h.elim)).trans h3 (fun k _ h => h.elim (fun h => .inr (.inl h)) (fun h => h.elim (fun h => .inl (by rw [h, H.out.cr_]; omega)) (fun h => h.elim (fun h => .inr (.inr (.inr h))) (fun h => .inr (.inr (.inl h))))))⟩
          · have HFL := Lib.hid (hM.flag HT.out false)
            have hvk : OwnRows wr (.slice a os.length c) 1 (ptrRows S os) base := HO.out.keep HF.out (fun _ _ e => e)
            have HVK := Lib.hid hvk
            clear hM hvk
            go_wp2_with (go_at_call 66; refine HFL.out.mono ?_; rintro e w3 ⟨rfl, hM3, hf3⟩)
            first
              | have HMX := Lib.hid (And.intro (by rw [oneIf_cons HE.out, flags_one _ HT.out]; exact hM3 : Mgr w3 cls P q (S.flags (oneIf t os) false)) (And.intro (HVK.out.keep hf3 (fun k hk e => hcl' k hk (by rw [e]; exact htc.1))) ((HF.out.mono (G := Mine cls P) (fun _ _ h => h.elim)).trans hf3 (fun k _ e => .inl (by rw [e, htc.1]; omega)))))
              | have HMX := Lib.hid (And.intro (by rw [oneIf_nil HE.out, MS.flags_nil]; exact HM.out : Mgr wr cls P q (S.flags (oneIf t os) false)) (And.intro HVK.out (HF.out.mono (G := Mine cls P) (fun _ _ h => h.elim))))
            have HTP := Lib.hid (fun o (ho : o ∈ os) => (HOS.out o ho).2)
            have HCL := Lib.hid hcl'
            try clear hM3
            try clear hf3
            clear HFL HVK HM HF H HO HOS hcl'
            go_loopw [72] (fun t72 wr => ∃ k : Nat, t72 = .int .i64 (k : Nat) ∧ k ≤ os.length ∧ Mgr wr cls P q ((S.flags (oneIf t os) false).flags (os.take k) true) ∧ OwnRows wr (.slice a os.length c) 1 (ptrRows S os) base ∧ Fr (Mine cls P) w wr) (fun t72 _ => os.length - (intOf t72).toNat)
            case atStart => exact ⟨0, rfl, Nat.zero_le _, by rw [List.take_zero, MS.flags_nil]; exact HMX.out.1, HMX.out.2.1, HMX.out.2.2⟩
            case round =>
              obtain ⟨k, rfl, hk, hM, hO, hFF⟩ := hrel
              have HFF := Lib.hid hFF
              clear hFF
              have HM := Lib.hid hM
              by_cases hlt : k < os.length
              · obtain ⟨g, rfl, hbg, hlg, -, hxc, hsz, hget⟩ := hO.get (k := k) (by rw [ptrRows_length]; exact hlt)
                have hxk : (ptrRows S os)[k]'(by rw [ptrRows_length]; exact hlt) = #[.pointer (some ⟨S.blk os[k], 0, none⟩)] := by simp [ptrRows]
                have c0 : (rowOf wr g)[k]? = some (.pointer (some ⟨S.blk os[k], 0, none⟩)) := by have := hget 0 (by omega); rw [hxk] at this; simpa using this
                have hmem := List.getElem_mem hlt
                have htk := Lib.hid (List.take_succ_eq_append_getElem hlt)
                generalize hq : os[k] = o at c0 hmem htk
                obtain ⟨p, hpo⟩ := HTP.out o hmem
                rw [MS.blk_eq hpo] at c0
                obtain ⟨p1, hp1, e1⟩ := MS.flags_some (l := oneIf t os) (inn := false) hpo
                obtain ⟨p2, hp2, e2⟩ := MS.flags_some (l := os.take k) (inn := true) hp1
                rw [← e1, ← e2] at c0
                have HFO := Lib.hid (hM.flag hp2 true)
                have HP2 := Lib.hid hp2
                have hc4 := (hM.ct o p2 hp2).1
                have HLT := Lib.hid hlt
                have HO := Lib.hid hO
                have hki : (k : Int) < (os.length : Int) := by omega
                clear hget hxk hmem hpo hp1 hp2 hM hO hq e1 e2
                go_wp2_with (go_at_call 66; refine HFO.out.mono ?_; rintro e w4 ⟨rfl, hM4, hf4⟩)
                go_roundw
                case rel =>
                  refine ⟨k + 1, by go_num, by have := HLT.out; omega, ?_, HO.out.keep hf4 (fun k hk e => HCL.out k hk (by rw [e]; exact hc4)), HFF.out.trans hf4 (fun k _ e => .inl (by rw [e, hc4]; omega))⟩
                  rw [htk.out, ← MS.flags_step _ _ _ HP2.out]
                  exact hM4
                case measure => (have := HLT.out; simp only [intOf]; omega)
              · obtain rfl : k = os.length := by omega
                clear hM hO
                go_wp2
                go_ret
                refine ⟨.inr ⟨HBAD.out.symm, rfl, ?_⟩, HFF.out⟩
                have := HM.out
                rw [List.take_of_length_le (Nat.le_refl _)] at this
                exact this
  | false =>
    rcases hemp with he | he <;> rw [he] at hlen <;>
    · have HE := Lib.hid he
      clear he
      go_enter Tryz.func38, Tryz.ntmps38
      go_wp2_with (go_at_call 65; refine (HB1 _ _ _ _ _).mono ?_; rintro e w1 ⟨rfl, hf1⟩)
      go_loopw [10, 35] (fun t10 t35 wr => ∃ (k : Nat) (kb : Bool), t35 = .int .i64 (k : Nat) ∧ k ≤ os.length ∧ t10 = .bool kb ∧ kb = (((rt.2.fi || (!false && !os.isEmpty)) && (rt.2.fo || (false && !os.isEmpty))) || (os.take k).any (S.badO false)) ∧ Fr (fun _ => False) w wr) (fun _ t35 _ => os.length - (intOf t35).toNat)
      case atStart => exact ⟨0, _, rfl, Nat.zero_le _, rfl, by simp [HE.out], hf1⟩
      case round =>
        obtain ⟨k, kb, rfl, hk, rfl, hkb, hf⟩ := hrel
        have HF := Lib.hid hf
        have HKB := Lib.hid hkb
        have hM := H.out.fr0 hf
        have HM := Lib.hid hM
        have hkk : kb = true ∨ kb = false := by cases kb <;> simp
        clear hra hla hkb
        by_cases hlt : k < os.length
        · obtain ⟨g, rfl, hbg, hlg, -, hxc, hsz, hget⟩ := (HO.out.keep hf (fun _ _ e => e)).get (k := k) (by rw [ptrRows_length]; exact hlt)
          have hxk : (ptrRows S os)[k]'(by rw [ptrRows_length]; exact hlt) = #[.pointer (some ⟨S.blk os[k], 0, none⟩)] := by simp [ptrRows]
          have c0 : (rowOf wr g)[k]? = some (.pointer (some ⟨S.blk os[k], 0, none⟩)) := by have := hget 0 (by omega); rw [hxk] at this; simpa using this
          have hmem := List.getElem_mem hlt
          have htk := Lib.hid (List.take_succ_eq_append_getElem hlt)
          generalize hq : os[k] = o at c0 hmem htk
          obtain ⟨hot, p, hpo⟩ := HOS.out o hmem
          rw [MS.blk_eq hpo] at c0
          obtain ⟨n5, g5, hn5, htx5⟩ := hM.tx
          obtain ⟨-, hlp, hrp, -⟩ := htx5.at_ o p hpo
          have hbo : S.badO false o = (!p.2.act && ((p.2.fi || false) && (p.2.fo || !false))) := by unfold MS.badO; rw [hpo]
          have HBO := Lib.hid hbo
          have HLT := Lib.hid hlt
          have hki : (k : Int) < (os.length : Int) := by omega
          unfold TR.row txRow at hrp
          clear hget hxk hmem hpo htx5 hf hM hbo hq
          have hact : p.2.act = true ∨ p.2.act = false := by cases p.2.act <;> simp
          rcases hkk with rfl | rfl
          · clear hact
            go_wp2
            go_roundw
            case rel =>
              refine ⟨k + 1, true, by go_num, by have := HLT.out; omega, rfl, ?_, HF.out⟩
              rw [htk.out, List.any_append, ← Bool.or_assoc, ← HKB.out]; rfl
            case measure => (have := HLT.out; simp only [intOf]; omega)
          · rcases hact with hact | hact
            · rw [hact] at hrp
              go_wp2
              go_roundw
              case rel =>
                refine ⟨k + 1, false, by go_num, by have := HLT.out; omega, rfl, ?_, HF.out⟩
                rw [htk.out, List.any_append, ← Bool.or_assoc, ← HKB.out]
                simp [HBO.out, hact]
              case measure => (have := HLT.out; simp only [intOf]; omega)
            · rw [hact] at hrp
              go_wp2_with (go_at_call 65; refine (HB1 _ _ _ _ _).mono ?_; rintro e w2 ⟨rfl, hf2⟩)
              go_roundw
              case rel =>
                refine ⟨k + 1, _, by go_num, by have := HLT.out; omega, rfl, ?_, HF.out.trans hf2 (fun _ _ h => h)⟩
                rw [htk.out, List.any_append, ← Bool.or_assoc, ← HKB.out]
                simp [HBO.out, hact]
              case measure => (have := HLT.out; simp only [intOf]; omega)
        · obtain rfl : k = os.length := by omega
          have hbad : kb = S.badAll rt.2 false os := by
            have := HKB.out
            rw [List.take_of_length_le (Nat.le_refl _)] at this
            exact this
          have HBAD := Lib.hid hbad
          clear hf hbad
          rcases hkk with rfl | rfl
          · have HG := Lib.hid (hM.gone H53 H68 HT.out)
            clear hM
            go_wp2_with (go_at_call 33; refine HG.out.mono ?_; rintro e w2 ⟨rfl, F, h1, h2, h3⟩)
            go_ret
            exact ⟨.inl ⟨HBAD.out.symm, rfl, F, h1, h2⟩, (HF.out.mono (fun _ _ h => h.elim)).trans h3 (fun k _ h => h.elim (fun h => .inr (.inl h)) (fun h => h.elim (fun h => .inl (by rw [h, H.out.cr_]; omega)) (fun h => h.elim (fun h => .inr (.inr (.inr h))) (fun h => .inr (.inr (.inl h))))))⟩
          · have HFL := Lib.hid (hM.flag HT.out true)
            have hvk : OwnRows wr (.slice a os.length c) 1 (ptrRows S os) base := HO.out.keep HF.out (fun _ _ e => e)
            have HVK := Lib.hid hvk
            clear hM hvk
            go_wp2_with (go_at_call 66; refine HFL.out.mono ?_; rintro e w3 ⟨rfl, hM3, hf3⟩)
            first
              | have HMX := Lib.hid (And.intro (by rw [oneIf_cons HE.out, flags_one _ HT.out]; exact hM3 : Mgr w3 cls P q (S.flags (oneIf t os) true)) (And.intro (HVK.out.keep hf3 (fun k hk e => hcl' k hk (by rw [e]; exact htc.1))) ((HF.out.mono (G := Mine cls P) (fun _ _ h => h.elim)).trans hf3 (fun k _ e => .inl (by rw [e, htc.1]; omega)))))
              | have HMX := Lib.hid (And.intro (by rw [oneIf_nil HE.out, MS.flags_nil]; exact HM.out : Mgr wr cls P q (S.flags (oneIf t os) true)) (And.intro HVK.out (HF.out.mono (G := Mine cls P) (fun _ _ h => h.elim))))
            have HTP := Lib.hid (fun o (ho : o ∈ os) => (HOS.out o ho).2)
            have HCL := Lib.hid hcl'
            try clear hM3
            try clear hf3
            clear HFL HVK HM HF H HO HOS hcl'
            go_loopw [72] (fun t72 wr => ∃ k : Nat, t72 = .int .i64 (k : Nat) ∧ k ≤ os.length ∧ Mgr wr cls P q ((S.flags (oneIf t os) true).flags (os.take k) false) ∧ OwnRows wr (.slice a os.length c) 1 (ptrRows S os) base ∧ Fr (Mine cls P) w wr) (fun t72 _ => os.length - (intOf t72).toNat)
            case atStart => exact ⟨0, rfl, Nat.zero_le _, by rw [List.take_zero, MS.flags_nil]; exact HMX.out.1, HMX.out.2.1, HMX.out.2.2⟩
            case round =>
              obtain ⟨k, rfl, hk, hM, hO, hFF⟩ := hrel
              have HFF := Lib.hid hFF
              clear hFF
              have HM := Lib.hid hM
              by_cases hlt : k < os.length
              · obtain ⟨g, rfl, hbg, hlg, -, hxc, hsz, hget⟩ := hO.get (k := k) (by rw [ptrRows_length]; exact hlt)
                have hxk : (ptrRows S os)[k]'(by rw [ptrRows_length]; exact hlt) = #[.pointer (some ⟨S.blk os[k], 0, none⟩)] := by simp [ptrRows]
                have c0 : (rowOf wr g)[k]? = some (.pointer (some ⟨S.blk os[k], 0, none⟩)) := by have := hget 0 (by omega); rw [hxk] at this; simpa using this
                have hmem := List.getElem_mem hlt
                have htk := Lib.hid (List.take_succ_eq_append_getElem hlt)
                generalize hq : os[k] = o at c0 hmem htk
                obtain ⟨p, hpo⟩ := HTP.out o hmem
                rw [MS.blk_eq hpo] at c0
                obtain ⟨p1, hp1, e1⟩ := MS.flags_some (l := oneIf t os) (inn := true) hpo
                obtain ⟨p2, hp2, e2⟩ := MS.flags_some (l := os.take k) (inn := false) hp1
                rw [← e1, ← e2] at c0
                have HFO := Lib.hid (hM.flag hp2 false)
                have HP2 := Lib.hid hp2
                have hc4 := (hM.ct o p2 hp2).1
                have HLT := Lib.hid hlt
                have HO := Lib.hid hO
                have hki : (k : Int) < (os.length : Int) := by omega
                clear hget hxk hmem hpo hp1 hp2 hM hO hq e1 e2
                go_wp2_with (go_at_call 66; refine HFO.out.mono ?_; rintro e w4 ⟨rfl, hM4, hf4⟩)
                go_roundw
                case rel =>
                  refine ⟨k + 1, by go_num, by have := HLT.out; omega, ?_, HO.out.keep hf4 (fun k hk e => HCL.out k hk (by rw [e]; exact hc4)), HFF.out.trans hf4 (fun k _ e => .inl (by rw [e, hc4]; omega))⟩
                  rw [htk.out, ← MS.flags_step _ _ _ HP2.out]
                  exact hM4
                case measure => (have := HLT.out; simp only [intOf]; omega)
              · obtain rfl : k = os.length := by omega
                clear hM hO
                go_wp2
                go_ret
                refine ⟨.inr ⟨HBAD.out.symm, rfl, ?_⟩, HFF.out⟩
                have := HM.out
                rw [List.take_of_length_le (Nat.le_refl _)] at this
                exact this
end Go.Proofs.YteldfmgjbgedaaaGreat
