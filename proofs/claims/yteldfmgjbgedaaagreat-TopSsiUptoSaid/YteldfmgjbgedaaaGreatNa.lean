/-
  Package ssi: read.
-/
import Derived.Test.YteldfmgjbgedaaaGreatMyz
namespace Go.Proofs.YteldfmgjbgedaaaGreat
open Go.RowKit Go.Maps

section
variable {w : World} {cls : Nat → Nat} {P : MP} {q : Nat} {S : MS}

theorem Fr.mine_none {w w' : World} (h : Fr (fun _ => False) w w') : Fr (Mine cls P) w w' := h.mono (fun _ _ h => h.elim)

/-- New blocks are nobody's. -/
def cls0 (w : World) (cls : Nat → Nat) : Nat → Nat := fun k => if k < w.heap.size then cls k else 0
theorem cls0_lt {w : World} {cls : Nat → Nat} {k : Nat} (h : k < w.heap.size) : cls0 w cls k = cls k := if_pos h
theorem cls0_ge {w : World} {cls : Nat → Nat} {k : Nat} (h : w.heap.size ≤ k) : cls0 w cls k = 0 := if_neg (by omega)

/-- What stays of a note: what was held is held. -/
structure NoteKeep (N N' : Nat → Option (List RdT)) (t : Nat) : Prop where
  mono : ∀ i k, HN N i k → HN N' i k
  only : ∀ i, N' i ≠ none → N i ≠ none ∨ i = t
theorem NoteKeep.refl (N : Nat → Option (List RdT)) (t : Nat) : NoteKeep N N t := ⟨fun _ _ h => h, fun _ h => .inl h⟩

theorem Mgr.note (H124 : Sorted124) (h : Mgr w cls P q S) (hB : 2 ^ 40 ≤ P.B) (hq : q + 1 < 2 ^ 40) {t : Nat} (ht : 1 ≤ t) (ht40 : t < 2 ^ 40) {x : RdT} (hx : RdOk x) :
    Calls Tryz.prog 56 #[.pointer (some ⟨P.br, 0, none⟩), .int .i64 (t : Nat), rdV x] w fun e w' => (∃ c, c ≠ 0 ∧ e = .returned (.int .i64 c) ∧ Fr (fun _ => False) w w') ∨
      (e = .returned (.int .i64 0) ∧ ∃ cls' bn' N', Mgr w' cls' { P with bn := bn' } (q + 1) { S with N := N' } ∧ NoteRel S.N N' t x ∧ (∀ k, k < w.heap.size → cls' k = cls k) ∧ (bn' = P.bn ∨ w.heap.size ≤ bn') ∧ Fr (Mine cls P) w w') := by
  obtain ⟨n3, g3, h3, hnt⟩ := h.nt
  refine (note56 H124 w P.br t h.rowr h.lr (by rw [h.cr_]; omega) hnt h.mb.1 h.mb.2 (by omega) ht (by omega) ht40 hx h.nok).mono ?_
  rintro e w' (h1 | ⟨rfl, h1, h2⟩ | ⟨rfl, bn', f', N', h1, h2, h3', h4, h5, h6, h7⟩)
  · exact .inl h1
  · exact .inr ⟨rfl, cls, P.bn, S.N, (h.fr0 h1).mono (by omega) hq, h2, fun _ _ => rfl, .inl rfl, h1.mine_none⟩
  · obtain ⟨m1, m2, m3, m4, m5, m6⟩ := h.lts
    refine .inr ⟨rfl, cls5 w cls, bn', N', ?_, h5, fun k hk => cls5_lt hk, .inr h6, h7.mono (fun k _ e => .inl (by rw [e, h.cr_]; omega))⟩
    exact h.notes (P' := { P with bn := bn' }) (by omega) hq rfl h2 h3' ⟨n3 + 1, f', by omega, h1⟩ ⟨by show P.bm ≠ bn'; omega, by show P.bk ≠ bn'; omega⟩ h4 h5.ok h7 (fun k _ e => .inl e) (fun k hk => cls5_lt hk)

set_option maxRecDepth 20000 in
set_option maxHeartbeats 2000000 in
/-- read's closure. -/
theorem Mgr.read57 (H68 : Sorts68) (h : Mgr w cls P q S) {o : Nat} {p : Nat × TR} (hp : S.T o = some p) (lo hi : List UInt8) {b0 b2 b3 b4 : Nat} (h0 : rowOf w b0 = #[.pointer (some ⟨P.m, 0, none⟩)]) (h2 : rowOf w b2 = #[.string ⟨#[116]⟩]) (h3 : rowOf w b3 = #[.string ⟨lo.toArray⟩]) (h4 : rowOf w b4 = #[.string ⟨hi.toArray⟩]) :
    Calls Tryz.prog 57 (#[.pointer (some ⟨p.1, 0, none⟩)] ++ #[.pointer (some ⟨b0, 0, none⟩), .pointer (some ⟨b2, 0, none⟩), .pointer (some ⟨b3, 0, none⟩), .pointer (some ⟨b4, 0, none⟩)]) w fun e w' => ∃ rb, e = .returned (.bool rb) ∧ (rb = true ↔ ∃ s, S.wroteBy o s ∧ inR lo hi s = true) ∧ Fr (fun _ => False) w w' := by
  have HW := Lib.hid (h.wrote H68 hp lo hi)
  clear h
  rw [show (#[.pointer (some ⟨p.1, 0, none⟩)] ++ #[.pointer (some ⟨b0, 0, none⟩), .pointer (some ⟨b2, 0, none⟩), .pointer (some ⟨b3, 0, none⟩), .pointer (some ⟨b4, 0, none⟩)] : Array Value) = #[.pointer (some ⟨p.1, 0, none⟩), .pointer (some ⟨b0, 0, none⟩), .pointer (some ⟨b2, 0, none⟩), .pointer (some ⟨b3, 0, none⟩), .pointer (some ⟨b4, 0, none⟩)] from by simp]
  go_enter Tryz.func57, Tryz.ntmps57
  go_wp2_with (go_at_call 58; refine HW.out.mono ?_; rintro e w1 ⟨rb, rfl, h5, h6⟩)
  go_ret
  exact ⟨rb, rfl, h5, h6⟩

theorem Mgr.note' (H124 : Sorted124) (h : Mgr w cls P q S) (hB : 2 ^ 40 ≤ P.B) (hq : q + 1 < 2 ^ 40) {t : Nat} (ht : 1 ≤ t) (ht40 : t < 2 ^ 40) {x : RdT} (hx : RdOk x) :
    Calls Tryz.prog 56 #[.pointer (some ⟨P.br, 0, none⟩), .int .i64 (t : Nat), rdV x] w fun e w' => ∃ c, e = .returned (.int .i64 c) ∧ Fr (Mine cls P) w w' ∧ ((c ≠ 0 ∧ Fr (fun _ => False) w w') ∨
      (c = 0 ∧ ∃ cls' bn' N', Mgr w' cls' { P with bn := bn' } (q + 1) { S with N := N' } ∧ NoteRel S.N N' t x ∧ (∀ k, k < w.heap.size → cls' k = cls k) ∧ (bn' = P.bn ∨ w.heap.size ≤ bn') ∧ Fr (Mine cls P) w w')) := by
  refine (h.note H124 hB hq ht ht40 hx).mono ?_
  rintro e w' (⟨c, h1, h2, h3⟩ | ⟨h1, h2⟩)
  · exact ⟨c, h2, h3.mine_none, .inl ⟨h1, h3⟩⟩
  · obtain ⟨_, _, _, _, _, _, _, h3⟩ := id h2
    exact ⟨0, h1, h3, .inr ⟨rfl, h2⟩⟩

/-- What a read (a scan) leaves. -/
def ReadRes (w : World) (cls : Nat → Nat) (P : MP) (q : Nat) (S : MS) (t : Nat) (rt : Nat × TR) (x : RdT) (e : Ending) (w' : World) : Prop :=
  ∃ cls' bn' N', (∀ k, k < w.heap.size → cls' k = cls k) ∧ (bn' = P.bn ∨ w.heap.size ≤ bn') ∧ Fr (Mine cls P) w w' ∧ NoteKeep S.N N' t ∧
    ((∃ c F, c ≠ 0 ∧ e = .returned (.int .i64 c) ∧ Mgr w' cls' { P with bn := bn' } (q + 1) ((({ S with N := N' } : MS).drop t).forget F) ∧ ∀ i, F i = true ↔ (({ S with N := N' } : MS).drop t).old i) ∨
     (∃ os, e = .returned (.int .i64 0) ∧ (∀ k, covK x k = true → HN N' t k) ∧ (∀ o, o ∈ os ↔ S.with_ t o ∧ ∃ s, S.wroteBy o s ∧ covK x s = true) ∧ S.badAll rt.2 true os = false ∧
       Mgr w' cls' { P with bn := bn' } (q + 1) ((({ S with N := N' } : MS).flags (oneIf t os) false).flags os true)))

/-- others, then put, as read calls them. -/
theorem Mgr.read_put (H53 : Sorts53) (H68 : Sorts68) (h : Mgr w cls P q S) {t : Nat} {rt : Nat × TR} (ht : S.T t = some rt) (lo hi : List UInt8) {b0 b2 b3 b4 : Nat} (l0 : b0 < w.heap.size) (l2 : b2 < w.heap.size) (l3 : b3 < w.heap.size) (l4 : b4 < w.heap.size)
    (h0 : rowOf w b0 = #[.pointer (some ⟨P.m, 0, none⟩)]) (h2 : rowOf w b2 = #[.string ⟨#[116]⟩]) (h3 : rowOf w b3 = #[.string ⟨lo.toArray⟩]) (h4 : rowOf w b4 = #[.string ⟨hi.toArray⟩]) :
    Calls Tryz.prog 34 #[.pointer (some ⟨P.m, 0, none⟩), .pointer (some ⟨rt.1, 0, none⟩), .func (.func 57) #[] #[.pointer (some ⟨b0, 0, none⟩), .pointer (some ⟨b2, 0, none⟩), .pointer (some ⟨b3, 0, none⟩), .pointer (some ⟨b4, 0, none⟩)]] w fun e w2 =>
      ∃ v os, e = .returned v ∧ rowOf w2 b0 = #[.pointer (some ⟨P.m, 0, none⟩)] ∧ Hid (∀ o, o ∈ os ↔ S.with_ t o ∧ ∃ s, S.wroteBy o s ∧ inR lo hi s = true) ∧ Hid (Fr (fun _ => False) w w2) ∧
        Hid (Calls Tryz.prog 38 #[.pointer (some ⟨P.m, 0, none⟩), .pointer (some ⟨rt.1, 0, none⟩), v, .bool true] w2 fun e w' => ∃ c3, e = .returned (.int .i64 c3) ∧ Hid (
          ((S.badAll rt.2 true os = true ∧ c3 = 100 ∧ ∃ F, Mgr w' (cls0 w cls) P q ((S.drop t).forget F) ∧ (∀ i, F i = true ↔ (S.drop t).old i)) ∨
          (S.badAll rt.2 true os = false ∧ c3 = 0 ∧ Mgr w' (cls0 w cls) P q ((S.flags (oneIf t os) false).flags os true))) ∧ Fr (Mine (cls0 w cls) P) w2 w')) := by
  have hM2 : Mgr w (cls0 w cls) P q S := h.fr (Fr.refl (fun _ => False) _) (Off.none _ _ _) (fun k hk => cls0_lt hk)
  have eg : ∀ args w, (callFunc 57 args).run Tryz.prog w = .ok (.enter 57 args) w := enters_of Tryz.func57 (by kernel_rfl) rfl
  refine (hM2.others (t := t) (rt := rt) ht (fg := 57) (cb := #[.pointer (some ⟨b0, 0, none⟩), .pointer (some ⟨b2, 0, none⟩), .pointer (some ⟨b3, 0, none⟩), .pointer (some ⟨b4, 0, none⟩)]) (so := fun o => ∃ s, S.wroteBy o s ∧ inR lo hi s = true) eg
        (fun W o p hf hpo => (hM2.fr0 hf).read57 H68 hpo lo hi ((hf.row l0 (fun e => e)).trans h0) ((hf.row l2 (fun e => e)).trans h2) ((hf.row l3 (fun e => e)).trans h3) ((hf.row l4 (fun e => e)).trans h4))).mono ?_
  rintro e w2 ⟨v, os, rfl, ho, hos, hoq, hf2⟩
  have hM4 := hM2.fr0 hf2
  refine ⟨v, os, rfl, (hf2.row l0 (fun e => e)).trans h0, hos, hf2, ?_⟩
  refine (hM4.put H53 H68 (t := t) (rt := rt) ht ho (fun o hh => by obtain ⟨⟨h1, r', p', _, h3, _⟩, _⟩ := (hos o).1 hh; exact ⟨h1, p', h3⟩) (fun k hk e => by have h1 := (ho.lt hk).1; rw [cls0_ge h1] at e; omega) true).mono ?_
  rintro e w3 ⟨⟨h1, rfl, h2⟩ | ⟨h1, rfl, h2⟩, hf3⟩
  · exact ⟨100, rfl, .inl ⟨h1, rfl, h2⟩, hf3⟩
  · exact ⟨0, rfl, .inr ⟨h1, rfl, h2⟩, hf3⟩

theorem ReadRes.of {WB w1 w2 w3 : World} {t : Nat} {rt : Nat × TR} {x : RdT} {lo hi : List UInt8} (hcov : ∀ s, inR lo hi s = covK x s) (_hl : P.bm < w.heap.size ∧ P.bk < w.heap.size ∧ P.bn < w.heap.size) (FB : Fr (fun _ => False) w WB) (FW : Fr (Mine (cls0 w cls) P) WB w1) {cls' : Nat → Nat} {bn' : Nat} {N' : Nat → Option (List RdT)} (hrel : NoteRel S.N N' t x) (hcc : ∀ k, k < WB.drew.heap.size → cls' k = cls0 w cls k) (hbn : bn' = P.bn ∨ WB.drew.heap.size ≤ bn')
    {os : List Nat} (hos : ∀ o, o ∈ os ↔ S.with_ t o ∧ ∃ s, S.wroteBy o s ∧ inR lo hi s = true) (f2 : Fr (fun _ => False) w1.drew w2) {c3 : Int}
    (hres : ((({ S with N := N' } : MS).badAll rt.2 true os = true ∧ c3 = 100 ∧ ∃ F, Mgr w3 (cls0 w1.drew cls') { P with bn := bn' } (q + 1) ((({ S with N := N' } : MS).drop t).forget F) ∧ (∀ i, F i = true ↔ (({ S with N := N' } : MS).drop t).old i)) ∨
          (({ S with N := N' } : MS).badAll rt.2 true os = false ∧ c3 = 0 ∧ Mgr w3 (cls0 w1.drew cls') { P with bn := bn' } (q + 1) ((({ S with N := N' } : MS).flags (oneIf t os) false).flags os true))) ∧ Fr (Mine (cls0 w1.drew cls') { P with bn := bn' }) w2 w3) :
    ReadRes w cls P q S t rt x (.returned (.int .i64 c3)) w3 := by
  obtain ⟨hres, hf3⟩ := hres
  have s1 := FB.size
  have s2 := FW.size
  have hck : ∀ k, k < w.heap.size → cls0 w1.drew cls' k = cls k := fun k hk => by
    rw [cls0_lt (show k < w1.drew.heap.size from by show k < w1.heap.size; omega), hcc k (by show k < WB.heap.size; omega), cls0_lt hk]
  refine ⟨cls0 w1.drew cls', bn', N', hck, hbn.imp id (fun h => by have : WB.heap.size ≤ bn' := h; omega), ?_, ⟨hrel.mono, hrel.only⟩, ?_⟩
  · have f1 : Fr (Mine cls P) w w1 := (FB.mono (fun _ _ h => h.elim)).trans FW (fun k hk h => h.imp (fun h => by rw [cls0_lt hk] at h; exact h) id)
    refine (f1.drew.trans f2 (fun _ _ h => h.elim)).trans hf3 (fun k hk h => ?_)
    rcases h with h | h | h | h
    · rw [hck k hk] at h; exact .inl h
    · exact .inr (.inl h)
    · exact .inr (.inr (.inl h))
    · rcases hbn with e | e
      · exact .inr (.inr (.inr (h.trans e)))
      · have : WB.heap.size ≤ bn' := e
        have h' : k = bn' := h
        omega
  · rcases hres with ⟨h1, rfl, F, h2, h3⟩ | ⟨h1, rfl, h2⟩
    · exact .inl ⟨100, F, by omega, rfl, h2, h3⟩
    · exact .inr ⟨os, rfl, hrel.new, fun o => by rw [hos o]; simp only [hcov], h1, h2⟩

set_option maxRecDepth 20000 in
set_option maxHeartbeats 4000000 in
theorem Mgr.read31 (H53 : Sorts53) (H68 : Sorts68) (H124 : Sorted124) (h : Mgr w cls P q S) (hB : 2 ^ 40 ≤ P.B) (hq : q + 1 < 2 ^ 40) {t : Nat} {rt : Nat × TR} (ht : S.T t = some rt) {x : RdT} (hx : RdOk x) (lo hi : List UInt8) (hcov : ∀ s, inR lo hi s = covK x s) :
    Calls Tryz.prog 31 #[.pointer (some ⟨P.m, 0, none⟩), .pointer (some ⟨rt.1, 0, none⟩), rdV x, .string ⟨#[116]⟩, .string ⟨lo.toArray⟩, .string ⟨hi.toArray⟩] w fun e w' => ReadRes w cls P q S t rt x e w' := by
  obtain ⟨n1, g1, hn1, htx⟩ := h.tx
  obtain ⟨hfa, hla, hra, ht40⟩ := htx.at_ t rt ht
  obtain ⟨hc4, hnum, ht1⟩ := h.ct t rt ht
  have hlt := live_lt hla
  have hlm := live_lt h.lm
  have HX := Lib.hid hx
  have H := Lib.hid h
  have HT := Lib.hid ht
  -- the boxes
  obtain ⟨WB, hWB⟩ : ∃ WB, WB = ((((w.alloc (.cells #[.pointer (some ⟨P.m, 0, none⟩)] 25)).alloc (.cells #[.string ⟨#[116]⟩, .int .i64 x.kind, .string ⟨x.lo.toArray⟩, .string ⟨x.hi.toArray⟩] 104)).alloc (.cells #[.string ⟨#[116]⟩] 9)).alloc (.cells #[.string ⟨lo.toArray⟩] 9)).alloc (.cells #[.string ⟨hi.toArray⟩] 9) := ⟨_, rfl⟩
  have FB : Fr (fun _ => False) w WB := by rw [hWB]; exact (((((Fr.refl _ w).alloc _).alloc _).alloc _).alloc _).alloc _
  have b0 : rowOf WB w.heap.size = #[.pointer (some ⟨P.m, 0, none⟩)] ∧ live WB w.heap.size = true := by rw [hWB]; constructor <;> simp [go_sem] <;> omega
  have b1 : rowOf WB (w.heap.size + 1) = #[.string ⟨#[116]⟩, .int .i64 x.kind, .string ⟨x.lo.toArray⟩, .string ⟨x.hi.toArray⟩] ∧ live WB (w.heap.size + 1) = true := by rw [hWB]; constructor <;> simp [go_sem] <;> omega
  have b2 : rowOf WB (w.heap.size + 2) = #[.string ⟨#[116]⟩] ∧ live WB (w.heap.size + 2) = true := by rw [hWB]; constructor <;> simp [go_sem] <;> omega
  have b3 : rowOf WB (w.heap.size + 3) = #[.string ⟨lo.toArray⟩] ∧ live WB (w.heap.size + 3) = true := by rw [hWB]; constructor <;> simp [go_sem] <;> omega
  have b4 : rowOf WB (w.heap.size + 4) = #[.string ⟨hi.toArray⟩] ∧ live WB (w.heap.size + 4) = true := by rw [hWB]; constructor <;> simp [go_sem] <;> omega
  have hM : Mgr WB (cls0 w cls) P q S := h.fr FB (Off.none _ _ _) (fun k hk => cls0_lt hk)
  obtain ⟨z1, z2, z3, z4, z5, z6⟩ := h.lts
  have hnm : ∀ k, w.heap.size ≤ k → ¬ Mine (cls0 w cls) P k := fun k hk hh => by
    rcases hh with hh | hh | hh | hh
    · rw [cls0_ge hk] at hh; omega
    · omega
    · omega
    · omega
  have hmi : ∀ k, k < w.heap.size → Mine (cls0 w cls) P k → Mine cls P k := fun k hk hh => hh.imp (fun h => by rw [cls0_lt hk] at h; exact h) id
  have HNM := Lib.hid hnm
  have HLT := Lib.hid (And.intro z4 (And.intro z5 z6))
  have HMI := Lib.hid hmi
  have hrow := hM.row
  have hraB := (FB.row hlt (fun e => e)).trans hra
  have HNO := Lib.hid ((hM.fr0 ((Fr.refl _ WB).drew)).note' H124 hB hq ht1 ht40 hx)
  have HFB := Lib.hid FB
  have HM := Lib.hid hM
  have HL0 := Lib.hid b0.2
  have HL2 := Lib.hid b2.2
  have HL3 := Lib.hid b3.2
  have HL4 := Lib.hid b4.2
  have r0 := b0.1
  have r1 := b1.1
  have R2 := Lib.hid b2.1
  have R3 := Lib.hid b3.1
  have R4 := Lib.hid b4.1
  have eg : ∀ args w, (callFunc 57 args).run Tryz.prog w = .ok (.enter 57 args) w := enters_of Tryz.func57 (by kernel_rfl) rfl
  have HEG := Lib.hid eg
  unfold mgRow at hrow
  unfold TR.row txRow at hraB
  rw [hnum] at hraB
  unfold rdV at HNO ⊢
  have HWB := Lib.hid hWB
  clear hx h ht htx hfa hla hra FB hM b0 b1 b2 b3 b4 eg hWB hnm hmi z1 z2 z3 z4 z5 z6
  go_enter Tryz.func31, Tryz.ntmps31
  go_wp2_with fail
  rw [← HWB.out]
  go_region_law (first | (go_simp; go_at_call 56; refine HNO.out.mono ?_; rintro e w1 ⟨c, rfl, hfd, hres⟩; have hfw := ((Fr.refl (Mine (cls0 w cls) P) WB).drew).trans hfd (fun _ _ e => e); have HFW := Lib.hid hfw; have r01 := (hfw.row (live_lt HL0.out) (HNM.out _ (by omega))).trans r0; have HRES := Lib.hid hres; clear hres hfw hfd))
  all_goals
    clear r0 r1 hrow hraB
    have hc0 : c = 0 ∨ c ≠ 0 := by omega
    rcases hc0 with rfl | hc0
    · obtain ⟨cls', bn', N', hM1, hrel, hcc, hbn, -⟩ : ∃ cls' bn' N', Mgr w1 cls' { P with bn := bn' } (q + 1) { S with N := N' } ∧ NoteRel S.N N' t x ∧ (∀ k, k < WB.drew.heap.size → cls' k = cls0 w cls k) ∧ (bn' = P.bn ∨ WB.drew.heap.size ≤ bn') ∧ True := by
        rcases HRES.out with ⟨h, _⟩ | ⟨_, c1, b1, N1, h1, h2, h3, h4, _⟩
        · exact absurd rfl h
        · exact ⟨c1, b1, N1, h1, h2, h3, h4, trivial⟩
      have hs1 := HFW.out.size
      have hsB := HFB.out.size
      have hM3 := hM1.fr0 ((Fr.refl _ w1).drew)
      have r21 := (HFW.out.row (live_lt HL2.out) (HNM.out _ (by omega))).trans R2.out
      have r31 := (HFW.out.row (live_lt HL3.out) (HNM.out _ (by omega))).trans R3.out
      have r41 := (HFW.out.row (live_lt HL4.out) (HNM.out _ (by omega))).trans R4.out
      have HO2' := Lib.hid (hM3.read_put H53 H68 (t := t) (rt := rt) HT.out lo hi (b0 := w.heap.size) (b2 := w.heap.size + 1 + 1) (b3 := w.heap.size + 1 + 1 + 1) (b4 := w.heap.size + 1 + 1 + 1 + 1) (Nat.lt_of_lt_of_le (live_lt HL0.out) hs1) (Nat.lt_of_lt_of_le (live_lt HL2.out) hs1) (Nat.lt_of_lt_of_le (live_lt HL3.out) hs1) (Nat.lt_of_lt_of_le (live_lt HL4.out) hs1) r01 r21 r31 r41)
      have HREL := Lib.hid hrel
      have HCC := Lib.hid hcc
      have HBN := Lib.hid hbn
      clear hM1 hrel hcc hbn hM3 r21 r31 r41
      go_wp2_with fail
      go_region_law (first
        | (go_simp; go_at_call 34; refine HO2'.out.mono ?_; rintro e w2 ⟨v, os, rfl, r02, HOS, HF2, HPUT⟩)
        | (go_simp; go_at_call 38; refine HPUT.out.mono ?_; rintro e w3 ⟨c3, rfl, HRES3⟩))
      all_goals
        go_wp2
        go_ret
        exact ReadRes.of hcov HLT.out HFB.out HFW.out HREL.out HCC.out HBN.out HOS.out HF2.out HRES3.out
    · have hcb : (c != 0) = true := by simp [hc0]
      obtain ⟨-, hff⟩ : c ≠ 0 ∧ Fr (fun _ => False) WB.drew w1 := by
        rcases HRES.out with h | ⟨h, _⟩
        · exact h
        · exact absurd h hc0
      have hM1 := (HM.out.fr0 ((Fr.refl _ WB).drew)).fr0 hff
      have HG := Lib.hid (hM1.gone H53 H68 HT.out)
      have HM1 := Lib.hid hM1
      clear hff hM1
      go_wp2_with (go_at_call 33; refine HG.out.mono ?_; rintro e w2 ⟨rfl, F, h1, h2, h3⟩)
      go_ret
      refine ⟨cls0 w cls, P.bn, S.N, fun k hk => cls0_lt hk, .inl rfl, ?_, NoteKeep.refl _ _, .inl ⟨c, F, hc0, rfl, h1.mono (by omega) hq, h2⟩⟩
      refine ((HFB.out.mono (fun _ _ h => h.elim)).trans HFW.out (fun k hk h => HMI.out k hk h)).trans h3 (fun k hk h => ?_)
      rcases h with h | h | h | h
      · exact .inr (.inl h)
      · exact .inl (by rw [h, H.out.cr_]; omega)
      · exact .inr (.inr (.inr h))
      · exact .inr (.inr (.inl h))
end
end Go.Proofs.YteldfmgjbgedaaaGreat
