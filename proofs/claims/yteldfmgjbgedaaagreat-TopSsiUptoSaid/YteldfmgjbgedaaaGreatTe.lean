/-
  Package serial: deps.
-/
import Derived.Test.YteldfmgjbgedaaaGreatTd
namespace Go.Proofs.YteldfmgjbgedaaaGreat
open Go.RowKit Go.Maps

/-- A history that was read. -/
structure HistAt (w : World) (p bv bn n2 n3 : Nat) (f : Value → Option Value) (V : Key → Value) (A : List PAct) (C : List Nat) (base : Nat) : Prop where
  rp : ∃ v1, rowOf w p = #[v1, .map (some bv), .map (some bn)]
  lp : live w p = true
  vers : VersAt w bv n2 f (vers A C) V base
  next : NextAt w bn n3 (nxt A C)

theorem hist_of_RS {w wr : World} {vc va : Value} {n1 n2 n3 : Nat} {pl : Nat → Option Nat} {f : Value → Option Value} {V : Key → Value} {A : List PAct} {C : List Nat} (h : RS w wr vc va n1 n2 n3 pl f (vers A C) V (nxt A C)) : HistAt wr (w.heap.size + 4) (w.heap.size + 2) (w.heap.size + 3) n2 n3 f V A C (w.heap.size + 6) :=
  ⟨⟨_, h.rp⟩, h.lp, h.vers, h.next⟩

theorem HistAt.fr0 {w w' : World} {p bv bn n2 n3 : Nat} {f : Value → Option Value} {V : Key → Value} {A : List PAct} {C : List Nat} {base : Nat} (h : HistAt w p bv bn n2 n3 f V A C base) (hf : Fr (fun _ => False) w w') : HistAt w' p bv bn n2 n3 f V A C base := by
  obtain ⟨v1, h1⟩ := h.rp
  exact ⟨⟨v1, (hf.row (live_lt h.lp) (fun e => e)).trans h1⟩, (hf.liv (live_lt h.lp) (fun e => e)).trans h.lp, h.vers.fr hf (fun e => e) (fun _ _ _ e => e), h.next.fr hf (fun e => e)⟩

/-- A map whose keys are dependencies. -/
def DepsAt (w : World) (b n : Nat) (A : List PAct) (C : List Nat) : Prop := ∃ f, MapF w 172 b n f ∧ ∀ v x, f v = some x → ∃ s t d, v = depV s t d ∧ SDep A C s t
theorem DepsAt.fr {w w' : World} {b n : Nat} {A : List PAct} {C : List Nat} {F : Nat → Prop} (h : DepsAt w b n A C) (hf : Fr F w w') (hb : ¬ F b) : DepsAt w' b n A C := by
  obtain ⟨f, h1, h2⟩ := h
  exact ⟨f, h1.fr hf hb, h2⟩
theorem DepsAt.mono {w : World} {b n n' : Nat} {A : List PAct} {C : List Nat} (h : DepsAt w b n A C) (hn : n ≤ n') : DepsAt w b n' A C := by
  obtain ⟨f, h1, h2⟩ := h
  exact ⟨f, h1.mono hn, h2⟩
theorem DepsAt.store {w : World} {b n : Nat} {A : List PAct} {C : List Nat} (h : DepsAt w b n A C) (hn : n < maxLen) {s t d : Nat} (hs : s < 2 ^ 40) (ht : t < 2 ^ 40) (hd : d < 2 ^ 40) (hdep : SDep A C s t) :
    ∃ w', (Instr.mapUpdate 169 (.map (some b)) (.agg #[.int .i64 (s : Nat), .int .i64 (t : Nat), .int .i64 (d : Nat)]) (.int .i64 1)).run Tryz.prog w = .ok () w' ∧ DepsAt w' b (n + 1) A C ∧ Fr (fun k => k = b) w w' := by
  obtain ⟨f, h1, h2⟩ := h
  obtain ⟨kl, hkl⟩ := depV_key hs ht hd
  obtain ⟨w', hr, h3, h4⟩ := h1.store law172 Tryz.underlying169 hn (depV s t d) (.int .i64 1) hkl
  refine ⟨w', hr, ⟨_, h3, fun v x hx => ?_⟩, h4⟩
  by_cases e : v = depV s t d
  · exact ⟨s, t, d, e, hdep⟩
  · rw [updF_ne f _ e] at hx; exact h2 v x hx

set_option maxRecDepth 20000 in
set_option maxHeartbeats 2000000 in
theorem add107 {w : World} {bx b n : Nat} {A : List PAct} {C : List Nat} (hx : rowOf w bx = #[.map (some b)]) (h : DepsAt w b n A C) (hn : n < maxLen) {s t d : Nat} (hs : s < 2 ^ 40) (ht : t < 2 ^ 40) (hd : d < 2 ^ 40) (hdep : s ≠ t → SDep A C s t) :
    Calls Tryz.prog 107 #[.int .i64 (s : Nat), .int .i64 (t : Nat), .int .i64 (d : Nat), .pointer (some ⟨bx, 0, none⟩)] w fun e w' => e = .returned (.tuple #[]) ∧ DepsAt w' b (n + 1) A C ∧ Fr (fun k => k = b) w w' := by
  by_cases e : s = t
  · subst e
    have H := Lib.hid h
    clear h
    go_enter Tryz.func107, Tryz.ntmps107
    go_wp2_with fail
    go_end0
    exact ⟨rfl, H.out.mono (Nat.le_succ _), Fr.refl _ _⟩
  · obtain ⟨w2, hst, h2, hf⟩ := h.store hn hs ht hd (hdep e)
    have H2 := Lib.hid h2
    have HF := Lib.hid hf
    have hst2 : ¬ ((s : Int) = (t : Int)) := by omega
    have hst3 : ((s : Int) == (t : Int)) = false := by rw [beq_eq_false_iff_ne]; exact hst2
    clear h2 hf h
    go_enter Tryz.func107, Tryz.ntmps107
    go_wp2_with fail
    go_end0
    exact ⟨rfl, H2.out, HF.out⟩

/-- deps under way. -/
structure DS (w wr : World) (vc va : Value) (m : Nat) (A : List PAct) (C : List Nat) : Prop where
  fr : Fr (fun _ => False) w wr
  rh : rowOf wr w.heap.size = #[vc, va]
  lh : live wr w.heap.size = true
  rx : rowOf wr (w.heap.size + 2) = #[.map (some (w.heap.size + 1))]
  lx : live wr (w.heap.size + 2) = true
  deps : DepsAt wr (w.heap.size + 1) m A C

section
variable {w wr wr' : World} {vc va : Value} {m m' : Nat} {A : List PAct} {C : List Nat}
theorem DS.lt (h : DS w wr vc va m A C) : w.heap.size + 2 < wr.heap.size := live_lt h.lx
theorem DS.turn (h : DS w wr vc va m A C) {F : Nat → Prop} (hf : Fr F wr wr') (hF : ∀ k, F k → k = w.heap.size + 1 ∨ w.heap.size + 3 ≤ k) (hd : DepsAt wr' (w.heap.size + 1) m' A C) : DS w wr' vc va m' A C := by
  have hn : ∀ k, k = w.heap.size ∨ k = w.heap.size + 2 → ¬ F k := fun k hk e => by have := hF k e; omega
  refine ⟨h.fr.trans hf (fun k hk e => ?_), (hf.row (live_lt h.lh) (hn _ (.inl rfl))).trans h.rh, (hf.liv (live_lt h.lh) (hn _ (.inl rfl))).trans h.lh, (hf.row (live_lt h.lx) (hn _ (.inr rfl))).trans h.rx, (hf.liv (live_lt h.lx) (hn _ (.inr rfl))).trans h.lx, hd⟩
  have := hF k e; omega
theorem DS.fr0 (h : DS w wr vc va m A C) (hf : Fr (fun _ => False) wr wr') : DS w wr' vc va m A C := h.turn hf (fun _ e => e.elim) (h.deps.fr hf (fun e => e))

theorem DS.made (w : World) (vc va : Value) (A : List PAct) (C : List Nat) : DS w ((((w.alloc (.cells #[vc, va] 42)).alloc (.map #[] 0)).alloc (.cells #[.map none] 169)).setRow (w.heap.size + 1 + 1) #[.map (some (w.heap.size + 1))]) vc va 0 A C := by
  obtain ⟨w1, e1⟩ : ∃ w1, w.alloc (.cells #[vc, va] 42) = w1 := ⟨_, rfl⟩
  obtain ⟨w2, e2⟩ : ∃ w2, w1.alloc (.map #[] 0) = w2 := ⟨_, rfl⟩
  obtain ⟨w3, e3⟩ : ∃ w3, w2.alloc (.cells #[.map none] 169) = w3 := ⟨_, rfl⟩
  have s1 : w1.heap.size = w.heap.size + 1 := by rw [← e1]; simp
  have s2 : w2.heap.size = w.heap.size + 2 := by rw [← e2]; simp [s1]
  have s3 : w3.heap.size = w.heap.size + 3 := by rw [← e3]; simp [s2]
  have f01 : Fr (fun _ => False) w w1 := by rw [← e1]; exact (Fr.refl _ _).alloc _
  have f12 : Fr (fun _ => False) w1 w2 := by rw [← e2]; exact (Fr.refl _ _).alloc _
  have f23 : Fr (fun _ => False) w2 w3 := by rw [← e3]; exact (Fr.refl _ _).alloc _
  rw [e1, e2, e3]
  have f34 : Fr (fun k => k = w.heap.size + 2) w3 (w3.setRow (w.heap.size + 1 + 1) #[.map (some (w.heap.size + 1))]) := (Fr.refl _ _).setRow _ _ (fun _ => rfl)
  have tr : ∀ {a b c : World}, Fr (fun _ => False) a b → Fr (fun _ => False) b c → Fr (fun _ => False) a c := fun h k => h.trans k (fun _ _ e => e)
  have r1 : rowOf w1 w.heap.size = #[vc, va] ∧ live w1 w.heap.size = true := by rw [← e1]; exact ⟨rowOf_alloc_at _ _ _ _ _ rfl, live_alloc_at _ _ _ _ rfl⟩
  have l3 : live w3 (w.heap.size + 2) = true := by rw [← e3]; exact live_alloc_at _ _ _ _ s2.symm
  have m2 : MapF w2 172 (w.heap.size + 1) 0 (fun _ => none) := MapF.made _ _ _ (by rw [← e2, ← s1]; exact (MapKept.heap_alloc _ _).1)
  refine ⟨(tr (tr f01 f12) f23).trans f34 (fun k hk e => by omega), ?_, ?_, ?_, ?_, ⟨_, (m2.fr f23 (fun e => e)).fr f34 (by omega), fun _ _ h => (by cases h)⟩⟩
  · rw [f34.row (by omega) (by omega), (tr f12 f23).row (by omega) (fun e => e)]; exact r1.1
  · rw [f34.liv (by omega) (by omega), (tr f12 f23).liv (by omega) (fun e => e)]; exact r1.2
  · exact rowOf_setRow_same _ _ _ l3
  · rw [live_setRow]; exact l3
end

set_option maxRecDepth 20000 in
set_option maxHeartbeats 4000000 in
theorem deps81 {w : World} {A : List PAct} {C : List Nat} {vc va : Value} {ba bc base p bv bn n2 n3 : Nat} {f : Value → Option Value} {V : Key → Value} (hA : OwnRows w va 4 (A.map actRow) ba) (hC : OwnRows w vc 1 (natRows C) bc) (hh : HistOk A C) (hB : ActsB A C) (hH : HistAt w p bv bn n2 n3 f V A C base) (hn2 : n2 ≤ 4096) :
    Calls Tryz.prog 81 #[.pointer (some ⟨p, 0, none⟩), .agg #[vc, va]] w fun e w' => ∃ b m, e = .returned (.map (some b)) ∧ w.heap.size ≤ b ∧ m ≤ 33554432 ∧ DepsAt w' b m A C ∧ Fr (fun _ => False) w w' := by
  obtain ⟨aa, ca, rfl⟩ := hA.len
  obtain ⟨ac, cc, rfl⟩ := hC.len
  rw [List.length_map] at hA ⊢
  rw [natRows_length] at hC ⊢
  have HA := Lib.hid hA
  have HH := Lib.hid hh
  have HB := Lib.hid hB
  have HP := Lib.hid hH
  have hla := hB.la
  have hlc := hB.lc
  clear hA hC hh hB hH
  go_enter Tryz.func81, Tryz.ntmps81
  have hmm := @run_makeMap Tryz.prog
  have h0 := DS.made w (.slice ac C.length cc) (.slice aa A.length ca) A C
  go_upto_region 3 with fail
  obtain ⟨W, hW⟩ : ∃ W, W = ((((w.alloc (.cells #[.slice ac C.length cc, .slice aa A.length ca] 42)).alloc (.map #[] 0)).alloc (.cells #[.map none] 169)).setRow (w.heap.size + 1 + 1) #[.map (some (w.heap.size + 1))]) := ⟨_, rfl⟩
  rw [← hW] at h0 ⊢
  clear hW
  have hP0 := HP.out.fr0 h0.fr
  obtain ⟨v1, rp0⟩ := hP0.rp
  have H0 := Lib.hid h0
  have hsz0 := h0.lt
  go_wp2_with (at_range; refine wpList_rangeF _ rfl _ 157 rfl law9 Tryz.underlying157 hP0.vers.map rfl ?_; intro w0 cnt0 hrg0 hcn0 hf0 hs0)
  go_frame
  obtain ⟨rr, hrr⟩ : ∃ rr, W.heap.size = rr := ⟨_, rfl⟩
  rw [hrr] at hrg0 hs0 hsz0 ⊢
  have hr0 := H0.out.fr0 hf0
  have HPV := Lib.hid (⟨fun k i hi => by have := ((HP.out.vers.own k).lt hi).2; omega, HP.out.vers.map.lt, live_lt HP.out.lp⟩ : (∀ k i, (V k).ownBlock = some i → i < w.heap.size) ∧ bv < w.heap.size ∧ p < w.heap.size)
  have HCN0 := Lib.hid hcn0
  have HR0 := Lib.hid hr0
  have HF0 := Lib.hid hf0
  clear h0 hP0 hcn0 hr0 hf0
  go_loopw [21] (fun _ wr => ∃ (left : Value → Prop) (cnt m : Nat), RangeF wr 9 bv rr n2 f left cnt ∧ m + 4096 * cnt ≤ 16777216 ∧ DS w wr (.slice ac C.length cc) (.slice aa A.length ca) m A C) (fun _ wr => wr.rangeLeft bv rr)
  case atStart => exact ⟨_, cnt0, 0, hrg0, by have := HCN0.out; omega, HR0.out⟩
  case round =>
    obtain ⟨left, cnt, m, hrg, hcn, hR⟩ := hrel
    have HRG := Lib.hid hrg
    have HR := Lib.hid hR
    clear hR hrg0 rp0
    go_wp2_with (at_next; refine wpList_nextF _ rfl _ rfl law9 rr rfl hrg ?_ ?_)
    · intro hc0 hl0
      clear hrg
      have rh := HR.out.rh
      -- L3 BEGIN
      have hm1 : m ≤ 16777216 := by omega
      clear HRG hcn
      go_wp2_with fail
      go_loopw [47] (fun t47 wr => ∃ (k m' : Nat), t47 = .int .i64 (k : Nat) ∧ k ≤ A.length ∧ m' ≤ m + 2 * k ∧ DS w wr (.slice ac C.length cc) (.slice aa A.length ca) m' A C) (fun t47 _ => A.length - (intOf t47).toNat)
      case atStart => exact ⟨0, m, rfl, Nat.zero_le _, Nat.le_refl _, HR.out⟩
      case round =>
        obtain ⟨k, m', rfl, hk, hm', hR⟩ := hrel
        have rhR := hR.rh
        have rxR := hR.rx
        have hlw := hR.lt
        by_cases hlt : k < A.length
        · obtain ⟨g, rfl, hbg, hlg, -, hxc, hsz, hget⟩ := (HA.out.keep hR.fr (fun _ _ e => e)).get (k := k) (by rw [List.length_map]; exact hlt)
          have hrow : (A.map actRow)[k]'(by rw [List.length_map]; exact hlt) = actRow A[k] := by simp
          have HM := Lib.hid (List.getElem_mem hlt)
          have HLT := Lib.hid hlt
          generalize hq : A[k] = a at HM hrow
          obtain ⟨hav, hai⟩ := HB.out.a a HM.out
          have hat := HH.out.txn a HM.out
          have hat40 := HB.out.c _ hat
          obtain ⟨atx, awr, ait, avr⟩ := a
          simp only [actRow] at hrow hav hai hat hat40
          have c0 : (rowOf wr g)[k * 4]? = some (.int .i64 (atx : Nat)) := by have := hget 0 (by omega); rw [hrow] at this; simpa using this
          have c1 : (rowOf wr g)[k * 4 + 1]? = some (.bool awr) := by have := hget 1 (by omega); rw [hrow] at this; simpa using this
          have c2 : (rowOf wr g)[k * 4 + 2]? = some (.string ⟨ait.toArray⟩) := by have := hget 2 (by omega); rw [hrow] at this; simpa using this
          have c3 : (rowOf wr g)[k * 4 + 3]? = some (.int .i64 (avr : Nat)) := by have := hget 3 (by omega); rw [hrow] at this; simpa using this
          have hki : (k : Int) < (A.length : Int) := by omega
          have HR := Lib.hid hR
          clear hget hrow hR hq
          go_upto_region 15 with fail
          obtain ⟨hBf, hBr, hBl, hBlt⟩ := boxed_new wr #[.int .i64 0, .bool false, .string ⟨#[]⟩, .int .i64 0] #[.int .i64 (atx : Nat), .bool awr, .string ⟨ait.toArray⟩, .int .i64 (avr : Nat)] 69
          generalize (wr.alloc (.cells #[.int .i64 0, .bool false, .string ⟨#[]⟩, .int .i64 0] 69)).setRow wr.heap.size #[.int .i64 (atx : Nat), .bool awr, .string ⟨ait.toArray⟩, .int .i64 (avr : Nat)] = WB at hBf hBr hBl hBlt ⊢
          have hRB := HR.out.fr0 hBf
          have HRB := Lib.hid hRB
          obtain ⟨bx, hbx⟩ : ∃ bx, wr.heap.size = bx := ⟨_, rfl⟩
          rw [hbx] at hBr hBl hBlt hlw ⊢
          clear hRB c0 c1 c2 c3 hBf rhR rxR rh hbx
          cases awr with
          | true =>
            go_wp2_with fail
            go_roundw
            case rel => exact ⟨k + 1, m', by go_num, by have := HLT.out; omega, by omega, HRB.out⟩
            case measure => (have := HLT.out; simp only [intOf]; omega)
          | false =>
            by_cases hva : avr = atx
            · subst hva
              go_wp2_with fail
              go_roundw
              case rel => exact ⟨k + 1, m', by go_num, by have := HLT.out; omega, by omega, HRB.out⟩
              case measure => (have := HLT.out; simp only [intOf]; omega)
            · have hva2 : ¬ ((avr : Int) = (atx : Int)) := by omega
              have hva3 : ((avr : Int) == (atx : Int)) = false := by rw [beq_eq_false_iff_ne]; exact hva2
              by_cases hv0 : avr = 0
              · subst hv0
                go_upto_region 20 with fail
                have rW := hBr
                have lW := hBl
                have HW := HRB
                have rX := rW
                have lX := lW
                have HX := HW
                have hpX := HP.out.fr0 HX.out.fr
                obtain ⟨v1X, rpX⟩ := hpX.rp
                have hpX2 := HP.out.fr0 (HX.out.fr0 (Fr.refl _ _).drew).fr
                have hlkX := hpX2.vers.look1 hai
                obtain ⟨av, cv, hve⟩ := (HP.out.vers.own ait).len
                rw [natRows_length] at hve
                rw [hve] at hlkX
                unfold strV at hlkX
                have hlv : (vers A C ait).length ≤ 4096 := by have := (HH.out.vers_perm ait).length_eq; have := wrs_length A ait; omega
                have HVE := Lib.hid hve
                have HPX := Lib.hid hpX
                have HPX2 := Lib.hid hpX2
                clear hve hpX hpX2 rW lW HW
                by_cases hq : 0 < (vers A C ait).length
                · have hqi : (0 : Int) < ((vers A C ait).length : Int) := by omega
                  have ho := HPX.out.vers.own ait
                  rw [HVE.out] at ho
                  obtain ⟨gv, rfl, -, hlgv, -, -, hszv, hgetv⟩ := ho.get (k := 0) (by rw [natRows_length]; exact hq)
                  have hrowv : (natRows (vers A C ait))[0]'(by rw [natRows_length]; exact hq) = #[.int .i64 ((vers A C ait)[0] : Nat)] := by simp only [natRows, List.getElem_map]; try rfl
                  have cV : (rowOf WB gv)[0]? = some (.int .i64 ((vers A C ait)[0] : Nat)) := by have := hgetv 0 (by omega); rw [hrowv] at this; simpa using this
                  have htt : (vers A C ait)[0] < 2 ^ 40 := HB.out.c _ (mem_vers.1 (List.getElem_mem hq)).1
                  have hdp : atx ≠ (vers A C ait)[0] → SDep A C atx (vers A C ait)[0] := fun hne => SDep.rw0 HM.out rfl rfl (List.getElem?_eq_getElem hq) hne
                  have hgvw : gv < w.heap.size := HPV.out.1 ait gv (by rw [HVE.out]; rfl)
                  generalize (vers A C ait)[0] = tt at *
                  have HADD := Lib.hid (add107 (w := WB.drew.drew) (bx := w.heap.size + 2) (b := w.heap.size + 1) (n := m') ((rowOf_drew _ _).trans ((rowOf_drew _ _).trans HX.out.rx)) (HX.out.deps.fr (Fr.refl (fun _ => False) _).drew.drew (fun e => e)) (by simp only [maxLen]; omega) hat40 htt (d := 3) (by omega) hdp)
                  rw [show ((3 : Nat) : Int) = 3 from rfl] at HADD
                  have hq01 : (0 : Int) ≤ (0 : Int) := by omega
                  have hq02 : ((0 : Int)).toNat = 0 := by omega
                  clear hgetv hrowv htt hdp ho hszv
                  go_wp2_with fail
                  go_region
                  all_goals
                    go_upto_region 22 with fail
                    replace rX := (rowOf_drew _ _).trans rX
                    replace cV := (congrArg (fun r => r[0]?) (rowOf_drew WB gv)).trans cV
                    replace hlgv := (live_drew _ _).trans hlgv
                    replace lX := (live_drew _ _).trans lX
                    have HX := Lib.hid (HX.out.fr0 (Fr.refl _ _).drew)
                    generalize WB.drew = WX at *
                    refine wp_region_noPanic ?_
                    refine wp_region_held_drew (S := (fun w' => rowOf w' bx = #[.int .i64 (atx : Nat), .bool false, .string ⟨ait.toArray⟩, .int .i64 ((0 : Nat))] ∧ (rowOf w' gv)[0]? = some (.int .i64 (tt : Nat)))) (by kernel_rfl) ?_ (fun hHeld => ?_)
                    · (try dsimp only)
                      (first | assumption | exact ⟨(rowOf_drew _ _).symm ▸ rX, (rowOf_drew _ _).symm ▸ cV⟩ | exact HSX.out)
                    refine wpAnyH_take (i := 0) (oi := _) (v := ?_) rfl (by kernel_rfl) (by kernel_rfl) (by kernel_rfl) (fun _ _ _ h => h) (Or.inl ⟨by rfl, ?_⟩) (by assumption) ?_
                    rotate_left
                    · intro W hSw
                      (try dsimp only at hSw)
                      go_simp
                      try with_reducible rfl
                    try simp only [Act.put, List.setIfInBounds_toArray]
                    refine wpAnyH_take (i := 1) (oi := _) (v := ?_) rfl (by kernel_rfl) (by kernel_rfl) (by kernel_rfl) (fun _ _ _ h => h) (Or.inl ⟨by rfl, ?_⟩) (by assumption) ?_
                    rotate_left
                    · intro W hSw
                      (try dsimp only at hSw)
                      go_simp
                      try with_reducible rfl
                    try simp only [Act.put]
                    refine wpAnyH_take (i := 2) (oi := _) (v := ?_) rfl (by kernel_rfl) (by kernel_rfl) (by kernel_rfl) (fun _ _ _ h => h) (Or.inl ⟨by rfl, ?_⟩) (by assumption) ?_
                    rotate_left
                    · intro W hSw
                      (try dsimp only at hSw)
                      go_simp
                      try with_reducible rfl
                    try simp only [Act.put]
                    refine wpAnyH_take (i := 3) (oi := _) (v := ?_) rfl (by kernel_rfl) (by kernel_rfl) (by kernel_rfl) (fun _ _ _ h => h) (Or.inl ⟨by rfl, ?_⟩) (by assumption) ?_
                    rotate_left
                    · intro W hSw
                      (try dsimp only at hSw)
                      go_simp
                      try with_reducible rfl
                    try simp only [Act.put]
                    refine wpAnyH_take (i := 4) (oi := _) (v := ?_) rfl (by kernel_rfl) (by kernel_rfl) (by kernel_rfl) (fun _ _ _ h => h) (Or.inl ⟨by rfl, ?_⟩) (by assumption) ?_
                    rotate_left
                    · intro W hSw
                      (try dsimp only at hSw)
                      go_simp
                      try with_reducible rfl
                    try simp only [Act.put]
                    refine wpAnyH_take (i := 5) (oi := _) (v := ?_) rfl (by kernel_rfl) (by kernel_rfl) (by kernel_rfl) (fun _ _ _ h => h) (Or.inl ⟨by rfl, ?_⟩) (by assumption) ?_
                    rotate_left
                    · intro W hSw
                      (try dsimp only at hSw)
                      go_simp
                      try with_reducible rfl
                    try simp only [Act.put]
                    refine wpAnyH_take (i := 6) (oi := _) (v := ?_) rfl (by kernel_rfl) (by kernel_rfl) (by kernel_rfl) (fun _ _ _ h => h) (Or.inl ⟨by rfl, ?_⟩) (by assumption) ?_
                    rotate_left
                    · intro W hSw
                      (try dsimp only at hSw)
                      go_simp
                      try with_reducible rfl
                    try simp only [Act.put]
                    refine wpAnyH_ready (rs := [7]) (by kernel_rfl) (by simp) ?_
                    refine AllReadyH.cons rfl (fun K hK => ?_) ?_
                    · skip
                      go_simp
                      go_at_call 107
                      refine HADD.out.mono ?_
                      rintro e w2 ⟨rfl, hd2, hf2⟩
                      have HSX : Hid (rowOf w2 bx = #[.int .i64 (atx : Nat), .bool false, .string ⟨ait.toArray⟩, .int .i64 ((0 : Nat))] ∧ (rowOf w2 gv)[0]? = some (.int .i64 (tt : Nat))) := Lib.hid ⟨by rw [hf2.row (live_lt lX) (by omega), rowOf_drew]; exact rX, by rw [hf2.row (live_lt hlgv) (by omega), rowOf_drew]; exact cV⟩
                      have HR4 := Lib.hid ((HX.out.fr0 (Fr.refl _ _).drew).turn hf2 (fun i e => .inl e) hd2)
                      clear hd2 hf2
                      refine hK.out _ _ ?_ (fun hHeld => ?_)
                      · (try dsimp only)
                        (first | assumption | exact ⟨(rowOf_drew _ _).symm ▸ rX, (rowOf_drew _ _).symm ▸ cV⟩ | exact HSX.out)
                      clear hK K
                      refine wpAnyH_done (by kernel_rfl) ?_ _
                      refine NoPanic.normal ?_
                      go_wp2
                      go_roundw
                      case rel => exact ⟨k + 1, m' + 1, by go_num, by have := HLT.out; omega, by omega, HR4.out⟩
                      case measure => (have := HLT.out; simp only [intOf]; omega)
                    exact AllReadyH.nil
                · have hqi : ¬ (0 : Int) < ((vers A C ait).length : Int) := by omega
                  go_wp2_with fail
                  go_region
                  all_goals
                    go_wp2_with fail
                    go_roundw
                    case rel => exact ⟨k + 1, m', by go_num, by have := HLT.out; omega, by omega, HX.out.fr0 (Fr.refl _ _).drew⟩
                    case measure => (have := HLT.out; simp only [intOf]; omega)
              · have hv01 : ((avr : Int) == 0) = false := by rw [beq_eq_false_iff_ne]; omega
                have hv02 : ¬ ((avr : Int) = 0) := by omega
                obtain ⟨q, hnq, hvq⟩ := nxt_spec (HH.out.ver_mem HM.out rfl hv0)
                simp only at hnq hvq
                have HADD1 := Lib.hid (add107 (w := WB) (bx := w.heap.size + 2) (b := w.heap.size + 1) (n := m') HRB.out.rx HRB.out.deps (by simp only [maxLen]; omega) hav hat40 (d := 1) (by omega) (fun hne => SDep.wr HM.out rfl hv0 hne))
                rw [show ((1 : Nat) : Int) = 1 from rfl] at HADD1
                go_wp2_with (go_at_call 107; refine HADD1.out.mono ?_; rintro e w2 ⟨rfl, hd2, hf2⟩; have rW := (hf2.row hBlt (by omega)).trans hBr; have lW := (hf2.liv hBlt (by omega)).trans hBl; have HW := Lib.hid (HRB.out.turn hf2 (fun i e => .inl e) hd2); clear hd2 hf2)
                obtain ⟨v1Y, rpY⟩ := (HP.out.fr0 HW.out.fr).rp
                have hlkY := (HP.out.fr0 (HW.out.fr0 (Fr.refl _ _).drew).fr).next.look1 hav hai
                rw [hnq] at hlkY
                rw [ownV_eq] at hlkY
                simp only [Option.getD_some] at hlkY
                rw [show ((q + 1 : Nat) : Int) = (q : Int) + 1 from rfl] at hlkY
                go_wp2_with fail
                go_region
                all_goals
                  go_upto_region 20 with fail
                  replace rW := (rowOf_drew _ _).trans rW
                  replace lW := (live_drew _ _).trans lW
                  have HW2 := Lib.hid (HW.out.fr0 (Fr.refl _ _).drew)
                  clear HW rpY hlkY
                  have HW := HW2
                  clear HW2
                  generalize w2.drew = W2 at *
                  have rX := rW
                  have lX := lW
                  have HX := HW
                  have hpX := HP.out.fr0 HX.out.fr
                  obtain ⟨v1X, rpX⟩ := hpX.rp
                  have hpX2 := HP.out.fr0 (HX.out.fr0 (Fr.refl _ _).drew).fr
                  have hlkX := hpX2.vers.look1 hai
                  obtain ⟨av, cv, hve⟩ := (HP.out.vers.own ait).len
                  rw [natRows_length] at hve
                  rw [hve] at hlkX
                  unfold strV at hlkX
                  have hlv : (vers A C ait).length ≤ 4096 := by have := (HH.out.vers_perm ait).length_eq; have := wrs_length A ait; omega
                  have HVE := Lib.hid hve
                  have HPX := Lib.hid hpX
                  have HPX2 := Lib.hid hpX2
                  clear hve hpX hpX2 rW lW HW
                  by_cases hq : q + 1 < (vers A C ait).length
                  · have hqi : (q : Int) + 1 < ((vers A C ait).length : Int) := by omega
                    have ho := HPX.out.vers.own ait
                    rw [HVE.out] at ho
                    obtain ⟨gv, rfl, -, hlgv, -, -, hszv, hgetv⟩ := ho.get (k := q + 1) (by rw [natRows_length]; exact hq)
                    have hrowv : (natRows (vers A C ait))[q + 1]'(by rw [natRows_length]; exact hq) = #[.int .i64 ((vers A C ait)[q + 1] : Nat)] := by simp only [natRows, List.getElem_map]; try rfl
                    have cV : (rowOf W2 gv)[q + 1]? = some (.int .i64 ((vers A C ait)[q + 1] : Nat)) := by have := hgetv 0 (by omega); rw [hrowv] at this; simpa using this
                    have htt : (vers A C ait)[q + 1] < 2 ^ 40 := HB.out.c _ (mem_vers.1 (List.getElem_mem hq)).1
                    have hdp : atx ≠ (vers A C ait)[q + 1] → SDep A C atx (vers A C ait)[q + 1] := fun hne => SDep.rw1 HM.out rfl hvq (List.getElem?_eq_getElem hq) hne
                    have hgvw : gv < w.heap.size := HPV.out.1 ait gv (by rw [HVE.out]; rfl)
                    generalize (vers A C ait)[q + 1] = tt at *
                    have HADD := Lib.hid (add107 (w := W2.drew.drew) (bx := w.heap.size + 2) (b := w.heap.size + 1) (n := (m' + 1)) ((rowOf_drew _ _).trans ((rowOf_drew _ _).trans HX.out.rx)) (HX.out.deps.fr (Fr.refl (fun _ => False) _).drew.drew (fun e => e)) (by simp only [maxLen]; omega) hat40 htt (d := 3) (by omega) hdp)
                    rw [show ((3 : Nat) : Int) = 3 from rfl] at HADD
                    have hq01 : (0 : Int) ≤ (q : Int) + 1 := by omega
                    have hq02 : ((q : Int) + 1).toNat = q + 1 := by omega
                    clear hgetv hrowv htt hdp ho hszv
                    go_wp2_with fail
                    go_region
                    all_goals
                      go_upto_region 22 with fail
                      replace rX := (rowOf_drew _ _).trans rX
                      replace cV := (congrArg (fun r => r[q + 1]?) (rowOf_drew W2 gv)).trans cV
                      replace hlgv := (live_drew _ _).trans hlgv
                      replace lX := (live_drew _ _).trans lX
                      have HX := Lib.hid (HX.out.fr0 (Fr.refl _ _).drew)
                      generalize W2.drew = WX at *
                      refine wp_region_noPanic ?_
                      refine wp_region_held_drew (S := (fun w' => rowOf w' bx = #[.int .i64 (atx : Nat), .bool false, .string ⟨ait.toArray⟩, .int .i64 ((avr : Nat))] ∧ (rowOf w' gv)[q + 1]? = some (.int .i64 (tt : Nat)))) (by kernel_rfl) ?_ (fun hHeld => ?_)
                      · (try dsimp only)
                        (first | assumption | exact ⟨(rowOf_drew _ _).symm ▸ rX, (rowOf_drew _ _).symm ▸ cV⟩ | exact HSX.out)
                      refine wpAnyH_take (i := 0) (oi := _) (v := ?_) rfl (by kernel_rfl) (by kernel_rfl) (by kernel_rfl) (fun _ _ _ h => h) (Or.inl ⟨by rfl, ?_⟩) (by assumption) ?_
                      rotate_left
                      · intro W hSw
                        (try dsimp only at hSw)
                        go_simp
                        try with_reducible rfl
                      try simp only [Act.put, List.setIfInBounds_toArray]
                      refine wpAnyH_take (i := 1) (oi := _) (v := ?_) rfl (by kernel_rfl) (by kernel_rfl) (by kernel_rfl) (fun _ _ _ h => h) (Or.inl ⟨by rfl, ?_⟩) (by assumption) ?_
                      rotate_left
                      · intro W hSw
                        (try dsimp only at hSw)
                        go_simp
                        try with_reducible rfl
                      try simp only [Act.put]
                      refine wpAnyH_take (i := 2) (oi := _) (v := ?_) rfl (by kernel_rfl) (by kernel_rfl) (by kernel_rfl) (fun _ _ _ h => h) (Or.inl ⟨by rfl, ?_⟩) (by assumption) ?_
                      rotate_left
                      · intro W hSw
                        (try dsimp only at hSw)
                        go_simp
                        try with_reducible rfl
                      try simp only [Act.put]
                      refine wpAnyH_take (i := 3) (oi := _) (v := ?_) rfl (by kernel_rfl) (by kernel_rfl) (by kernel_rfl) (fun _ _ _ h => h) (Or.inl ⟨by rfl, ?_⟩) (by assumption) ?_
                      rotate_left
                      · intro W hSw
                        (try dsimp only at hSw)
                        go_simp
                        try with_reducible rfl
                      try simp only [Act.put]
                      refine wpAnyH_take (i := 4) (oi := _) (v := ?_) rfl (by kernel_rfl) (by kernel_rfl) (by kernel_rfl) (fun _ _ _ h => h) (Or.inl ⟨by rfl, ?_⟩) (by assumption) ?_
                      rotate_left
                      · intro W hSw
                        (try dsimp only at hSw)
                        go_simp
                        try with_reducible rfl
                      try simp only [Act.put]
                      refine wpAnyH_take (i := 5) (oi := _) (v := ?_) rfl (by kernel_rfl) (by kernel_rfl) (by kernel_rfl) (fun _ _ _ h => h) (Or.inl ⟨by rfl, ?_⟩) (by assumption) ?_
                      rotate_left
                      · intro W hSw
                        (try dsimp only at hSw)
                        go_simp
                        try with_reducible rfl
                      try simp only [Act.put]
                      refine wpAnyH_take (i := 6) (oi := _) (v := ?_) rfl (by kernel_rfl) (by kernel_rfl) (by kernel_rfl) (fun _ _ _ h => h) (Or.inl ⟨by rfl, ?_⟩) (by assumption) ?_
                      rotate_left
                      · intro W hSw
                        (try dsimp only at hSw)
                        go_simp
                        try with_reducible rfl
                      try simp only [Act.put]
                      refine wpAnyH_ready (rs := [7]) (by kernel_rfl) (by simp) ?_
                      refine AllReadyH.cons rfl (fun K hK => ?_) ?_
                      · skip
                        go_simp
                        go_at_call 107
                        refine HADD.out.mono ?_
                        rintro e w2 ⟨rfl, hd2, hf2⟩
                        have HSX : Hid (rowOf w2 bx = #[.int .i64 (atx : Nat), .bool false, .string ⟨ait.toArray⟩, .int .i64 ((avr : Nat))] ∧ (rowOf w2 gv)[q + 1]? = some (.int .i64 (tt : Nat))) := Lib.hid ⟨by rw [hf2.row (live_lt lX) (by omega), rowOf_drew]; exact rX, by rw [hf2.row (live_lt hlgv) (by omega), rowOf_drew]; exact cV⟩
                        have HR4 := Lib.hid ((HX.out.fr0 (Fr.refl _ _).drew).turn hf2 (fun i e => .inl e) hd2)
                        clear hd2 hf2
                        refine hK.out _ _ ?_ (fun hHeld => ?_)
                        · (try dsimp only)
                          (first | assumption | exact ⟨(rowOf_drew _ _).symm ▸ rX, (rowOf_drew _ _).symm ▸ cV⟩ | exact HSX.out)
                        clear hK K
                        refine wpAnyH_done (by kernel_rfl) ?_ _
                        refine NoPanic.normal ?_
                        go_wp2
                        go_roundw
                        case rel => exact ⟨k + 1, (m' + 1) + 1, by go_num, by have := HLT.out; omega, by omega, HR4.out⟩
                        case measure => (have := HLT.out; simp only [intOf]; omega)
                      exact AllReadyH.nil
                  · have hqi : ¬ (q : Int) + 1 < ((vers A C ait).length : Int) := by omega
                    go_wp2_with fail
                    go_region
                    all_goals
                      go_wp2_with fail
                      go_roundw
                      case rel => exact ⟨k + 1, (m' + 1), by go_num, by have := HLT.out; omega, by omega, HX.out.fr0 (Fr.refl _ _).drew⟩
                      case measure => (have := HLT.out; simp only [intOf]; omega)
        · obtain rfl : k = A.length := by omega
          have HR := Lib.hid hR
          clear hR
          go_wp2_with fail
          go_ret
          exact ⟨_, m', rfl, by omega, by omega, HR.out.deps, HR.out.fr⟩
      -- L3 END
    · intro key x kl w1 cnt1 hkey hlk hfx hrg1 hlt hf1 hs1 hen
      obtain ⟨k, rfl, hkl⟩ := HP.out.vers.all _ _ hfx
      have hpv := HPV.out
      have hne : vers A C k ≠ [] := fun e => by
        have := HP.out.vers.at_ k hkl
        rw [if_pos e, hfx] at this; cases this
      have hxV : x = V k := by
        have := HP.out.vers.at_ k hkl
        rw [if_neg hne, hfx] at this; exact Option.some.inj this
      obtain ⟨a, c, hxe⟩ := (HP.out.vers.own k).len
      rw [natRows_length] at hxe
      have HXE := Lib.hid hxe
      have hR1 := HR.out.turn hf1 (fun i e => by omega) (HR.out.deps.fr hf1 (by omega))
      have HR1 := Lib.hid hR1
      have HRG1 := Lib.hid hrg1
      rw [hxV] at hen ⊢
      rw [hxe] at hen ⊢
      simp only [strV] at hen ⊢
      have hlen : (vers A C k).length ≤ 4096 := by have := (HH.out.vers_perm k).length_eq; have := wrs_length A k; omega
      clear hR1 hrg1 hlk hne hf1 hxe hxV hfx hkey hs1 hrg HR hpv
      go_wp2_with fail
      go_loopw [27] (fun t27 wr => ∃ (i m' : Nat), t27 = .int .i64 (i : Nat) ∧ i ≤ (vers A C k).length ∧ m' ≤ m + i ∧ RangeF wr 9 bv rr n2 f (fun v => left v ∧ v ≠ strV k) cnt1 ∧ DS w wr (.slice ac C.length cc) (.slice aa A.length ca) m' A C) (fun t27 _ => (vers A C k).length - (intOf t27).toNat)
      case atStart => exact ⟨0, m, rfl, Nat.zero_le _, Nat.le_refl _, HRG1.out, HR1.out⟩
      case round =>
        obtain ⟨i, m', rfl, hi, hm', hrg, hR⟩ := hrel
        have HRG3 := Lib.hid hrg
        have HR3 := Lib.hid hR
        by_cases hlt2 : i < (vers A C k).length
        · have hii : (i : Int) < ((vers A C k).length : Int) := by omega
          have HLT2 := Lib.hid hlt2
          by_cases hi0 : i = 0
          · subst hi0
            clear hrg hR
            go_wp2_with fail
            go_roundw
            case rel => exact ⟨1, m', by go_num, by have := HLT2.out; omega, by omega, HRG3.out, HR3.out⟩
            case measure => (have := HLT2.out; simp only [intOf]; omega)
          · skip
            obtain ⟨j, rfl⟩ : ∃ j, i = j + 1 := ⟨i - 1, by omega⟩
            have hlt1 : j < (vers A C k).length := by omega
            have ho := (HP.out.vers.own k).keep hR.fr (fun _ _ e => e)
            rw [HXE.out] at ho
            obtain ⟨g, rfl, -, hlg, -, -, hsz, hget⟩ := ho.get (k := j) (by rw [natRows_length]; exact hlt1)
            obtain ⟨g', hg', -, -, -, -, hsz', hget'⟩ := ho.get (k := j + 1) (by rw [natRows_length]; exact hlt2)
            injection hg' with hg'
            injection hg' with hg' _ _
            subst hg'
            have hrow : (natRows (vers A C k))[j]'(by rw [natRows_length]; exact hlt1) = #[.int .i64 ((vers A C k)[j] : Nat)] := by simp [natRows]
            have hrow' : (natRows (vers A C k))[j + 1]'(by rw [natRows_length]; exact hlt2) = #[.int .i64 ((vers A C k)[j + 1] : Nat)] := by simp only [natRows, List.getElem_map]; rfl
            have c0 : (rowOf wr g)[j]? = some (.int .i64 ((vers A C k)[j] : Nat)) := by have := hget 0 (by omega); rw [hrow] at this; simpa using this
            have c1 : (rowOf wr g)[j + 1]? = some (.int .i64 ((vers A C k)[j + 1] : Nat)) := by have := hget' 0 (by omega); rw [hrow'] at this; simp at this; exact this
            have hs40 : (vers A C k)[j] < 2 ^ 40 := HB.out.c _ (mem_vers.1 (List.getElem_mem hlt1)).1
            have ht40 : (vers A C k)[j + 1] < 2 ^ 40 := HB.out.c _ (mem_vers.1 (List.getElem_mem hlt2)).1
            have hdp : (vers A C k)[j] ≠ (vers A C k)[j + 1] → SDep A C (vers A C k)[j] (vers A C k)[j + 1] := fun hne => SDep.ww (k := k) (i := j) (List.getElem?_eq_getElem hlt1) (List.getElem?_eq_getElem hlt2) hne
            have hgw : g < w.heap.size := HPV.out.1 k g (by rw [HXE.out]; rfl)
            have hrw := hR.lt
            generalize (vers A C k)[j] = s at *
            generalize (vers A C k)[j + 1] = t at *
            have HADD := Lib.hid (add107 (w := wr.drew) (bx := w.heap.size + 2) (b := w.heap.size + 1) (n := m') ((rowOf_drew _ _).trans hR.rx) (hR.deps.fr (Fr.refl (fun _ => False) _).drew (fun e => e)) (by simp only [maxLen]; omega) hs40 ht40 (d := 2) (by omega) hdp)
            rw [show ((2 : Nat) : Int) = 2 from rfl] at HADD
            have hij : (j : Int) < ((vers A C k).length : Int) := by omega
            have hwj : IntKind.i64.wrap (j : Int) = (j : Int) := by rw [IntKind.wrap_i64]; omega
            have hwj2 : IntKind.i64.wrap ((j : Int) + 1 - 1) = (j : Int) := by rw [IntKind.wrap_i64]; omega
            have hj01 : (0 : Int) ≤ (j : Int) + 1 := by omega
            have hj02 : ((j : Int) + 1).toNat = j + 1 := by omega
            clear hget hget' hrow hrow' hs40 ht40 hdp ho hrg hR
            go_upto_region 10 with fail
            refine wp_region_noPanic ?_
            refine wp_region_held_drew (S := (fun w' => (rowOf w' g)[j]? = some (.int .i64 (s : Nat)) ∧ (rowOf w' g)[j + 1]? = some (.int .i64 (t : Nat)))) (by kernel_rfl) ?_ (fun hHeld => ?_)
            · (try dsimp only)
              (first | assumption | exact ⟨(rowOf_drew _ _).symm ▸ c0, (rowOf_drew _ _).symm ▸ c1⟩ | exact HSX.out)
            refine wpAnyH_take (i := 0) (oi := _) (v := ?_) rfl (by kernel_rfl) (by kernel_rfl) (by kernel_rfl) (fun _ _ _ h => h) (Or.inl ⟨by rfl, ?_⟩) (by assumption) ?_
            rotate_left
            · intro W hSw
              (try dsimp only at hSw)
              go_simp
              try with_reducible rfl
            try simp only [Act.put, List.setIfInBounds_toArray]
            refine wpAnyH_take (i := 1) (oi := _) (v := ?_) rfl (by kernel_rfl) (by kernel_rfl) (by kernel_rfl) (fun _ _ _ h => h) (Or.inl ⟨by rfl, ?_⟩) (by assumption) ?_
            rotate_left
            · intro W hSw
              (try dsimp only at hSw)
              go_simp
              try with_reducible rfl
            try simp only [Act.put]
            refine wpAnyH_take (i := 2) (oi := _) (v := ?_) rfl (by kernel_rfl) (by kernel_rfl) (by kernel_rfl) (fun _ _ _ h => h) (Or.inl ⟨by rfl, ?_⟩) (by assumption) ?_
            rotate_left
            · intro W hSw
              (try dsimp only at hSw)
              go_simp
              try with_reducible rfl
            try simp only [Act.put]
            refine wpAnyH_take (i := 3) (oi := _) (v := ?_) rfl (by kernel_rfl) (by kernel_rfl) (by kernel_rfl) (fun _ _ _ h => h) (Or.inl ⟨by rfl, ?_⟩) (by assumption) ?_
            rotate_left
            · intro W hSw
              (try dsimp only at hSw)
              go_simp
              try with_reducible rfl
            try simp only [Act.put]
            refine wpAnyH_take (i := 4) (oi := _) (v := ?_) rfl (by kernel_rfl) (by kernel_rfl) (by kernel_rfl) (fun _ _ _ h => h) (Or.inl ⟨by rfl, ?_⟩) (by assumption) ?_
            rotate_left
            · intro W hSw
              (try dsimp only at hSw)
              go_simp
              try with_reducible rfl
            try simp only [Act.put]
            refine wpAnyH_take (i := 5) (oi := _) (v := ?_) rfl (by kernel_rfl) (by kernel_rfl) (by kernel_rfl) (fun _ _ _ h => h) (Or.inl ⟨by rfl, ?_⟩) (by assumption) ?_
            rotate_left
            · intro W hSw
              (try dsimp only at hSw)
              go_simp
              try with_reducible rfl
            try simp only [Act.put]
            refine wpAnyH_take (i := 6) (oi := _) (v := ?_) rfl (by kernel_rfl) (by kernel_rfl) (by kernel_rfl) (fun _ _ _ h => h) (Or.inl ⟨by rfl, ?_⟩) (by assumption) ?_
            rotate_left
            · intro W hSw
              (try dsimp only at hSw)
              go_simp
              try with_reducible rfl
            try simp only [Act.put]
            refine wpAnyH_take (i := 7) (oi := _) (v := ?_) rfl (by kernel_rfl) (by kernel_rfl) (by kernel_rfl) (fun _ _ _ h => h) (Or.inl ⟨by rfl, ?_⟩) (by assumption) ?_
            rotate_left
            · intro W hSw
              (try dsimp only at hSw)
              go_simp
              try with_reducible rfl
            try simp only [Act.put]
            refine wpAnyH_take (i := 8) (oi := _) (v := ?_) rfl (by kernel_rfl) (by kernel_rfl) (by kernel_rfl) (fun _ _ _ h => h) (Or.inl ⟨by rfl, ?_⟩) (by assumption) ?_
            rotate_left
            · intro W hSw
              (try dsimp only at hSw)
              go_simp
              try with_reducible rfl
            try simp only [Act.put]
            refine wpAnyH_take (i := 9) (oi := _) (v := ?_) rfl (by kernel_rfl) (by kernel_rfl) (by kernel_rfl) (fun _ _ _ h => h) (Or.inl ⟨by rfl, ?_⟩) (by assumption) ?_
            rotate_left
            · intro W hSw
              (try dsimp only at hSw)
              go_simp
              try with_reducible rfl
            try simp only [Act.put]
            refine wpAnyH_ready (rs := [10]) (by kernel_rfl) (by simp) ?_
            refine AllReadyH.cons rfl (fun K hK => ?_) ?_
            · skip
              go_simp
              go_at_call 107
              refine HADD.out.mono ?_
              rintro e w2 ⟨rfl, hd2, hf2⟩
              have HSX : Hid ((rowOf w2 g)[j]? = some (.int .i64 (s : Nat)) ∧ (rowOf w2 g)[j + 1]? = some (.int .i64 (t : Nat))) := Lib.hid (by rw [hf2.row (live_lt hlg) (by omega), rowOf_drew]; exact ⟨c0, c1⟩)
              have HR4 := Lib.hid ((HR3.out.fr0 (Fr.refl _ _).drew).turn hf2 (fun i e => .inl e) hd2)
              have HRG4 := Lib.hid ((HRG3.out.fr ((Fr.refl (fun _ => False) _).drew) (fun e => e) (fun e => e)).fr hf2 (by have := HPV.out.2.1; omega) (by have := hsz0; omega))
              clear hd2 hf2
              refine hK.out _ _ ?_ (fun hHeld => ?_)
              · (try dsimp only)
                (first | assumption | exact ⟨(rowOf_drew _ _).symm ▸ c0, (rowOf_drew _ _).symm ▸ c1⟩ | exact HSX.out)
              clear hK K
              refine wpAnyH_done (by kernel_rfl) ?_ _
              refine NoPanic.normal ?_
              go_wp2
              go_roundw
              case rel => exact ⟨j + 1 + 1, m' + 1, by go_num, by have := HLT2.out; omega, by omega, HRG4.out, HR4.out⟩
              case measure => (have := HLT2.out; simp only [intOf]; omega)
            exact AllReadyH.nil
        · obtain rfl : i = (vers A C k).length := by omega
          clear hrg hR
          go_wp2_with fail
          go_roundw
          case rel => exact ⟨_, cnt1, m', HRG3.out, by omega, HR3.out⟩
          case measure => (rw [HRG3.out.left_eq, HRG.out.left_eq]; exact hlt)
end Go.Proofs.YteldfmgjbgedaaaGreat
