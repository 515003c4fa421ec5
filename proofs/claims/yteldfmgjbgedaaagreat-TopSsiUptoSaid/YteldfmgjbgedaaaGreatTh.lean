/-
  Package serial: serial.
-/
import Derived.Test.YteldfmgjbgedaaaGreatTg
namespace Go.Proofs.YteldfmgjbgedaaaGreat
open Go.RowKit Go.Maps

/-! ### rows of numbers: a cell, a store -/
theorem intRows_get {w : World} {g n c base : Nat} {L : List Int} (h : OwnRows w (.slice (some ⟨g, 0, none⟩) n c) 1 (intRows L) base) {i : Nat} (hi : i < L.length) : (rowOf w g)[i]? = some (.int .i64 L[i]) ∧ live w g = true ∧ base ≤ g := by
  obtain ⟨g', he, hb, hl, -, -, -, hget⟩ := h.get (k := i) (by rw [intRows_length]; exact hi)
  injection he with he
  injection he with he _ _
  subst he
  have hrow : (intRows L)[i]'(by rw [intRows_length]; exact hi) = #[.int .i64 L[i]] := by simp [intRows]
  have := hget 0 (by omega)
  rw [hrow] at this
  exact ⟨by simpa using this, hl, hb⟩
theorem natRows_get {w : World} {g n c base : Nat} {L : List Nat} (h : OwnRows w (.slice (some ⟨g, 0, none⟩) n c) 1 (natRows L) base) {i : Nat} (hi : i < L.length) : (rowOf w g)[i]? = some (.int .i64 (L[i] : Nat)) ∧ live w g = true ∧ base ≤ g := by
  obtain ⟨g', he, hb, hl, -, -, -, hget⟩ := h.get (k := i) (by rw [natRows_length]; exact hi)
  injection he with he
  injection he with he _ _
  subst he
  have hrow : (natRows L)[i]'(by rw [natRows_length]; exact hi) = #[.int .i64 (L[i] : Nat)] := by simp [natRows]
  have := hget 0 (by omega)
  rw [hrow] at this
  exact ⟨by simpa using this, hl, hb⟩

theorem intRows_set {w : World} {g n c base : Nat} {L : List Int} (h : OwnRows w (.slice (some ⟨g, 0, none⟩) n c) 1 (intRows L) base) (i : Nat) (x : Int) : OwnRows (w.setRow g ((rowOf w g).setIfInBounds i (.int .i64 x))) (.slice (some ⟨g, 0, none⟩) n c) 1 (intRows (L.set i x)) base := by
  rcases h with ⟨e, -⟩ | ⟨g', cap, e, h1, h2, h3, h4, h5, h6⟩
  · cases e
  · injection e with e1 e2 e3
    injection e1 with e1
    injection e1 with e1 _ _
    subst e1 e2 e3
    rw [intRows_length] at h3
    refine .inr ⟨g, c, by rw [intRows_length, intRows_length, List.length_set], h1, by rw [live_setRow]; exact h2, by rw [intRows_length, List.length_set]; exact h3, h4, by rw [rowOf_setRow_same _ _ _ h2, Array.size_setIfInBounds]; exact h5, fun j hj => ?_⟩
    rw [intRows_length, List.length_set] at hj
    rw [rowOf_setRow_same _ _ _ h2]
    have hsz : j * 1 + 1 ≤ ((rowOf w g).setIfInBounds i (.int .i64 x)).size := by rw [Array.size_setIfInBounds, h5]; omega
    have h0 := h6 j (by rw [intRows_length]; exact hj)
    have hg := cut_get (cur := rowOf w g) (off := j * 1) (n := 1) (by rw [h5]; omega) 0 (by omega)
    rw [h0] at hg
    refine cut_ext (by simp only [intRows, List.getElem_map]; rfl) hsz (fun q hq => ?_)
    obtain rfl : q = 0 := by omega
    rw [Array.getElem?_setIfInBounds]
    simp only [Nat.mul_one, Nat.add_zero] at hg ⊢
    by_cases ej : i = j
    · subst ej
      rw [if_pos rfl, if_pos (by rw [h5]; omega)]
      simp [intRows]
    · rw [if_neg ej, ← hg]
      simp [intRows, List.getElem_set_ne ej]

theorem clone85_zero (w : World) (a : Option Addr) (c : Nat) (ha : ∃ g, a = some ⟨g, 0, none⟩) : Calls Tryz.prog 85 #[.slice a 0 c] w fun e w' => ∃ a' c', e = .returned (.slice a' 0 c') ∧ Fr (fun _ => False) w w' := by
  obtain ⟨g, rfl⟩ := ha
  go_enter Tryz.func85, Tryz.ntmps85
  go_wp2
  go_ret
  exact ⟨_, _, rfl, (Fr.refl _ _).alloc _⟩


theorem WebAt.into_own {w : World} {p gn gi : Nat} {tv : Value} {ws : List Nat} {vs : List Value} {N : List (List Nat)} {I : List Int} {base : Nat} (h : WebAt w p gn gi tv ws vs N I base) (hn : 0 < ws.length) (hm : ws.length ≤ 4096) : OwnRows w (.slice (some ⟨gi, 0, none⟩) ws.length ws.length) 1 (intRows I) 0 := by
  have hsz : (rowOf w gi).size = ws.length := by rw [h.ri]; simp [h.ii]
  refine .inr ⟨gi, ws.length, by rw [intRows_length, h.ii], Nat.zero_le _, h.li, by rw [intRows_length, h.ii]; exact ⟨Nat.le_refl _, hn⟩, by simp only [maxLen]; omega, by rw [hsz]; omega, fun i hi => ?_⟩
  rw [intRows_length] at hi
  refine cut_ext (by simp only [intRows, List.getElem_map]; rfl) (by rw [hsz]; have := h.ii; omega) (fun q hq => ?_)
  obtain rfl : q = 0 := by omega
  rw [h.ri, List.getElem?_toArray, List.getElem?_map, show i * 1 + 0 = i by omega, List.getElem?_eq_getElem hi]
  simp [intRows]

/-- serial under way: the numbers that are left, the free ones. -/
structure KS (w wr : World) (g n c : Nat) (into : List Int) (v4 : Value) (free : List Nat) : Prop where
  fr : Fr (fun _ => False) w wr
  own3 : OwnRows wr (.slice (some ⟨g, 0, none⟩) n c) 1 (intRows into) w.heap.size
  own4 : OwnRows wr v4 1 (natRows free) w.heap.size
  ne : ∀ k, v4.ownBlock = some k → k ≠ g
  gw : w.heap.size ≤ g
theorem KS.setInto {w wr : World} {g n c : Nat} {into : List Int} {v4 : Value} {free : List Nat} (h : KS w wr g n c into v4 free) (i : Nat) (x : Int) : KS w (wr.setRow g ((rowOf wr g).setIfInBounds i (.int .i64 x))) g n c (into.set i x) v4 free :=
  have f2 : Fr (fun k => k = g) wr (wr.setRow g ((rowOf wr g).setIfInBounds i (.int .i64 x))) := (Fr.refl _ _).setRow _ _ (fun _ => rfl)
  ⟨h.fr.trans f2 (fun k hk e => by have := h.gw; omega), intRows_set h.own3 i x, h.own4.keep f2 (fun k hk e => h.ne k hk e), h.ne, h.gw⟩
theorem KS.push {w wr w4 : World} {g n c : Nat} {into : List Int} {v4 v5 : Value} {free free' : List Nat} (h : KS w wr g n c into v4 free) (hf : Fr (fun k => v4.ownBlock = some k) wr w4) (ho : OwnRows w4 v5 1 (natRows free') w.heap.size) (hn : ∀ k, v5.ownBlock = some k → v4.ownBlock = some k ∨ wr.heap.size ≤ k) : KS w w4 g n c into v5 free' :=
  ⟨h.fr.trans hf (fun k hk e => by have := (h.own4.lt e).1; omega), h.own3.keep hf (fun k hk e => h.ne k e (by simpa [Value.ownBlock] using hk.symm)), ho, fun k hk e => by
    rcases hn k hk with e2 | e2
    · exact h.ne k e2 e
    · have := (h.own3.lt (k := g) rfl).2; omega, h.gw⟩
theorem KS.fr0 {w wr wr' : World} {g n c : Nat} {into : List Int} {v4 : Value} {free : List Nat} (h : KS w wr g n c into v4 free) (hf : Fr (fun _ => False) wr wr') : KS w wr' g n c into v4 free :=
  ⟨h.fr.trans hf (fun _ _ e => e), h.own3.keep hf (fun _ _ e => e), h.own4.keep hf (fun _ _ e => e), h.ne, h.gw⟩

theorem relaxAll_snoc (s : List Int × List Nat) (l : List Nat) (v : Nat) : relaxAll s (l ++ [v]) = relax (relaxAll s l) v := by simp [relaxAll]
theorem leads_le (next : List (List Nat)) (done : List Nat) (v : Nat) : leads next done v ≤ next.length := by
  unfold leads
  have := List.length_filter_le (fun u => decide (u ∉ done) && decide (v ∈ next[u]?.getD [])) (List.range next.length)
  rw [List.length_range] at this; exact this

section
variable {w : World} {p gn gi : Nat} {tv : Value} {ws : List Nat} {vs : List Value} {N : List (List Nat)} {I : List Int} {base : Nat} {E : Nat → Nat → Prop}

set_option maxRecDepth 20000 in
set_option maxHeartbeats 4000000 in
theorem serial51_none (hW : WebAt w p gn gi tv [] vs N I base) : Calls Tryz.prog 51 #[.pointer (some ⟨p, 0, none⟩)] w fun e w' => e = .returned (.bool true) ∧ Fr (fun _ => False) w w' := by
  have rp := hW.rp
  obtain ⟨at', ct', hte⟩ := hW.tx.len
  rw [hte] at rp
  simp only [List.length_nil, natRows, List.map_nil] at rp
  have lp := hW.lp
  have HC := Lib.hid (clone85_zero w (some ⟨gi, 0, none⟩) 0 ⟨gi, rfl⟩)
  have ltp := live_lt lp
  clear hW hte
  go_enter Tryz.func51, Tryz.ntmps51
  go_wp2_with (go_at_call 85; refine HC.out.mono ?_; rintro e w2 ⟨a3, c3, rfl, hf⟩; have HF := Lib.hid hf; have rp2 := (hf.row ltp (fun e => e)).trans rp; clear hf)
  go_loopw [4, 17] (fun t4 t17 wr => t4 = .slice none 0 0 ∧ t17 = .int .i64 0 ∧ wr = w2) (fun _ _ _ => 0)
  case atStart => exact ⟨rfl, rfl, rfl⟩
  case round =>
    obtain ⟨rfl, rfl, rfl⟩ := hrel
    go_wp2_with fail
    go_loopw [4, 7] (fun t4 t7 wr2 => t4 = .slice none 0 0 ∧ t7 = .int .i64 0 ∧ wr2 = wr) (fun _ _ _ => 0)
    case atStart => exact ⟨rfl, rfl, rfl⟩
    case round =>
      obtain ⟨rfl, rfl, rfl⟩ := hrel
      go_wp2_with fail
      go_ret
      exact ⟨rfl, HF.out⟩

set_option maxRecDepth 20000 in
set_option maxHeartbeats 4000000 in
theorem serial51_some (hW : WebAt w p gn gi tv ws vs N I base) (hK : WebOk E ws N I) (hs : ∀ U : List Nat, U ≠ [] → (∀ u ∈ U, u < N.length) → ∃ t ∈ U, ∀ s ∈ U, ¬ t ∈ N[s]?.getD []) (hn : 0 < ws.length) (hm : ws.length ≤ 4096) :
    Calls Tryz.prog 51 #[.pointer (some ⟨p, 0, none⟩)] w fun e w' => e = .returned (.bool true) ∧ Fr (fun _ => False) w w' := by
  have rp := hW.rp
  obtain ⟨at', ct', hte⟩ := hW.tx.len
  rw [natRows_length] at hte
  have HTE := Lib.hid hte
  rw [hte] at rp
  have HW := Lib.hid hW
  have HK := Lib.hid hK
  have HS := Lib.hid hs
  have HC := Lib.hid (clone85_any (hW.into_own hn hm) (by have := hW.ii; omega))
  have HII := Lib.hid hW.ii
  have HNN := Lib.hid hK.n
  clear hW hK hs hte
  go_enter Tryz.func51, Tryz.ntmps51
  go_wp2_with (go_at_call 85; refine HC.out.mono ?_; rintro e w2 ⟨v', rfl, ho, hf⟩; obtain ⟨a3, c3, rfl⟩ := ho.len; rw [intRows_length, HII.out] at ho ⊢; obtain ⟨g, rfl, hgb, -, -, -, -, -⟩ := ho.get (k := 0) (by rw [intRows_length, HII.out]; exact hn); have HO := Lib.hid ho; have HF := Lib.hid hf; have HGB := Lib.hid hgb; clear ho hf hgb)
  go_loopw [4, 17] (fun t4 t17 wr => ∃ (i : Nat) (v4 : Value), t4 = v4 ∧ t17 = .int .i64 (i : Nat) ∧ i ≤ ws.length ∧ KS w wr g ws.length c3 I v4 (free0 I i)) (fun _ t17 _ => ws.length - (intOf t17).toNat)
  case atStart => exact ⟨0, _, rfl, rfl, Nat.zero_le _, ⟨HF.out, HO.out, OwnRows.nil _ _ _, fun k hk => (by cases hk), HGB.out⟩⟩
  case round =>
    obtain ⟨i, v4, rfl, rfl, hi, hS⟩ := hrel
    have HS4 := Lib.hid hS
    by_cases hlt : i < ws.length
    · have hltI : i < I.length := by rw [HII.out]; exact hlt
      have c0 := (intRows_get hS.own3 hltI).1
      have HLT := Lib.hid hlt
      have hii : (i : Int) < (ws.length : Int) := by omega
      have HSU := Lib.hid (free0_succ I i)
      have HGD := Lib.hid (by rw [List.getElem?_eq_getElem hltI]; rfl : I[i]?.getD 0 = I[i])
      have hfl : (free0 I i).length ≤ i := by
        unfold free0
        have := List.length_filter_le (fun v => decide (I[v]?.getD 0 = 0)) (List.range i)
        rw [List.length_range] at this; exact this
      have hbw : w.heap.size ≤ wr.heap.size := hS.fr.size
      generalize hx : I[i] = x at c0 HGD
      clear hS hltI hx
      by_cases hx0 : x = 0
      · subst hx0
        go_wp2_with (at_builtin; refine wpList_append_one rfl (.tmp 24) (.tmp 26) 32 rfl 3 _ 1 8 Tryz.underlying32 ti3 u4 (natRows (free0 I i)) w.heap.size rfl (HS4.out.own4.keep ((Fr.refl (fun _ => False) wr).alloc _) (fun _ _ h => h)) (by simp; omega) wr.heap.size 1 rfl #[.int .i64 (i : Nat)] (by simp [go_sem]) (by simp [go_sem]; rfl) (by intro y hy; simp at hy; subst hy; rfl) (natRows_size _) (by rw [natRows_length]; simp only [maxLen]; omega) (fitsN (by rw [natRows_length]; omega) (by omega)) ?_; intro g' cap' w3 ho3 f3 hn3; have HO3 := Lib.hid ho3; have F3 := Lib.hid f3; have N3 := Lib.hid hn3; clear ho3 f3 hn3)
        go_roundw
        case rel =>
          refine ⟨i + 1, _, rfl, by go_num, by have := HLT.out; omega, ?_⟩
          refine HS4.out.push (((Fr.refl (fun _ => False) wr).alloc _).mono (G := fun k => u4.ownBlock = some k) (fun _ _ e => e.elim) |>.trans F3.out (fun _ _ e => e)) ?_ (fun k hk => ?_)
          · rw [HSU.out, if_pos HGD.out, natRows_snoc]; exact HO3.out
          · simp only [Value.ownBlock, Option.some.injEq] at hk; subst hk
            exact N3.out.elim .inl (fun e => .inr (by simp at e; omega))
        case measure => (have := HLT.out; simp only [intOf]; omega)
      · have hx1 : (x == 0) = false := by rw [beq_eq_false_iff_ne]; exact hx0
        go_wp2_with fail
        go_roundw
        case rel => exact ⟨i + 1, _, rfl, by go_num, by have := HLT.out; omega, by rw [HSU.out, HGD.out, if_neg hx0, List.append_nil]; exact HS4.out⟩
        case measure => (have := HLT.out; simp only [intOf]; omega)
    · obtain rfl : i = ws.length := by omega
      clear hS
      have hK0 := HK.out.kahn
      rw [HII.out] at hK0
      have HK0 := Lib.hid hK0
      clear hK0
      go_wp2_with fail
      go_loopw [4, 7] (fun t4 t7 wr => ∃ (done : Nat) (free : List Nat) (into : List Int) (v4 : Value), t4 = v4 ∧ t7 = .int .i64 (done : Nat) ∧ Kahn N into free done ∧ KS w wr g ws.length c3 into v4 free) (fun _ t7 _ => ws.length - (intOf t7).toNat)
      case atStart => exact ⟨0, _, I, _, rfl, rfl, HK0.out, HS4.out⟩
      case round =>
        obtain ⟨done, free, into, v4, rfl, rfl, hKa, hS⟩ := hrel
        obtain ⟨a4, c4, h4e⟩ := hS.own4.len
        rw [natRows_length] at h4e
        subst h4e
        have HS5 := Lib.hid hS
        have HKA := Lib.hid hKa
        have hfn := nodup_le free (List.range ws.length) hKa.nd (fun x hx => List.mem_range.2 (by rw [← HNN.out]; exact hKa.lt x hx))
        rw [List.length_range] at hfn
        have hdl := hKa.d
        have hwf : Fr (fun _ => False) w wr := hS.fr
        have hwW := HW.out.fr0 hwf
        have rpS := hwW.rp
        rw [HTE.out] at rpS
        by_cases hlt : done < free.length
        · have hfl := hKa.lt _ (List.getElem_mem hlt)
          rw [HNN.out] at hfl
          obtain ⟨gf, hgf, -⟩ := hS.own4.get (k := done) (by rw [natRows_length]; exact hlt)
          subst hgf
          have cF := (natRows_get hS.own4 hlt).1
          obtain ⟨v, l, hv, hl⟩ := hwW.get hfl
          have hov := hwW.own _ v l hv hl
          obtain ⟨al, cl, hve⟩ := hov.len
          rw [natRows_length] at hve
          have hlm : l ∈ N := List.mem_of_getElem? hl
          have cN : (rowOf wr gn)[free[done]]? = some (.slice al l.length cl) := by rw [hwW.rn, List.getElem?_toArray, hv, hve]
          have HST := Lib.hid (hKa.step HK.out.row hlt)
          have hln : l.length ≤ ws.length := by
            have := nodup_le l (List.range ws.length) (HK.out.row l hlm).1 (fun x hx => List.mem_range.2 (by rw [← HNN.out]; exact (HK.out.row l hlm).2 x hx))
            rw [List.length_range] at this; exact this
          have hgl : N[free[done]]?.getD [] = l := by rw [hl]; rfl
          rw [hgl] at HST
          have HVE := Lib.hid hve
          have HLT := Lib.hid hlt
          have HLR := Lib.hid (HK.out.row l hlm)
          have HVL := Lib.hid (And.intro hv hl)
          have hdi : (done : Int) < (free.length : Int) := by omega
          have hui : ((free[done] : Nat) : Int) < (ws.length : Int) := by omega
          generalize free[done] = u at *
          clear hKa hS hwW hv hl hov hve hlm hgl
          go_wp2_with fail
          go_region
          all_goals
            go_wp2_with fail
            go_loopw [4, 46] (fun t4 t46 wr => ∃ (j : Nat) (v4 : Value), t4 = v4 ∧ t46 = .int .i64 (j : Nat) ∧ j ≤ l.length ∧ KS w wr g ws.length c3 (relaxAll (into, free) (l.take j)).1 v4 (relaxAll (into, free) (l.take j)).2) (fun _ t46 _ => l.length - (intOf t46).toNat)
            case atStart => exact ⟨0, _, rfl, rfl, Nat.zero_le _, HS5.out.fr0 (Fr.refl _ _).drew⟩
            case round =>
              obtain ⟨j, v4, rfl, rfl, hj, hS⟩ := hrel
              have HS6 := Lib.hid hS
              by_cases hltj : j < l.length
              · have hoj := (HW.out.fr0 hS.fr).own _ _ l HVL.out.1 HVL.out.2
                rw [HVE.out] at hoj
                obtain ⟨gl, hgl', -⟩ := hoj.get (k := j) (by rw [natRows_length]; exact hltj)
                subst hgl'
                have cL := (natRows_get hoj hltj).1
                have hltn : l[j] < N.length := HLR.out.2 _ (List.getElem_mem hltj)
                have hnt : l[j] ∉ l.take j := fun hm => by
                  obtain ⟨i', hi', e⟩ := List.getElem_of_mem hm
                  rw [List.length_take] at hi'
                  rw [List.getElem_take] at e
                  have := (List.getElem_inj (i := i') (j := j) (h₀ := by omega) (h₁ := hltj) HLR.out.1).1 e
                  omega
                have hmq := List.getElem_mem hltj
                have HTK := Lib.hid (List.take_succ_eq_append_getElem hltj)
                generalize l[j] = q at *
                obtain ⟨sp1, sp2, sp3⟩ := relaxAll_spec (l.take j) into free (HLR.out.1.sublist (List.take_sublist _ _)) (fun v hv => by rw [HKA.out.il]; exact HLR.out.2 v (List.mem_of_mem_take hv))
                have HSN := Lib.hid (relaxAll_snoc (into, free) (l.take j) q)
                rw [← HTK.out] at HSN
                have hx := sp2 q (by rw [HKA.out.il]; exact hltn)
                rw [if_neg hnt, HKA.out.iv _ hltn, Int.sub_zero] at hx
                have hle := leads_le N (free.take done) q
                rw [HNN.out] at hle hltn
                have hfl2 : (relaxAll (into, free) (l.take j)).2.length ≤ 16777216 := by
                  rw [sp3]
                  have h1 := List.length_filter_le (fun v => decide (into[v]?.getD 0 = 1)) (l.take j)
                  rw [List.length_take] at h1
                  rw [List.length_append]; omega
                generalize relaxAll (into, free) (l.take j) = s at *
                have hlt2 : q < s.1.length := by rw [sp1, HKA.out.il, HNN.out]; exact hltn
                rw [List.getElem?_eq_getElem hlt2] at hx
                obtain ⟨cI, lgI, -⟩ := intRows_get hS.own3 hlt2
                have HXG := Lib.hid (by rw [List.getElem?_eq_getElem hlt2]; rfl : s.1[q]?.getD 0 = s.1[q])
                have hji : (j : Int) < (l.length : Int) := by omega
                have HLTJ := Lib.hid hltj
                have hbw : w.heap.size ≤ wr.heap.size := hS.fr.size
                obtain ⟨a6, c6, h6e⟩ := hS.own4.len
                rw [natRows_length] at h6e
                subst h6e
                generalize leads N (free.take done) q = x at *
                have hx2 : s.1[q] = ((x : Nat) : Int) := hx
                rw [hx2] at cI HXG
                have hqi : (q : Int) < (ws.length : Int) := by omega
                have hw1 : IntKind.i64.wrap ((x : Int) - 1) = (x : Int) - 1 := by rw [IntKind.wrap_i64]; omega
                have HST6 := Lib.hid (HS6.out.setInto q ((x : Int) - 1))
                have cI3 : (rowOf (wr.setRow g ((rowOf wr g).setIfInBounds q (.int .i64 ((x : Int) - 1)))) g)[q]? = some (.int .i64 ((x : Int) - 1)) := by
                  rw [rowOf_setRow_same _ _ _ lgI, Array.getElem?_setIfInBounds, if_pos rfl, if_pos (by
                    have := (Array.getElem?_eq_some_iff.1 cI).1; exact this)]
                clear hoj hnt sp1 sp2 sp3 hx hx2 hS hlt2 hmq
                go_upto_region 16 with fail
                have hbw3 : w.heap.size ≤ (wr.setRow g ((rowOf wr g).setIfInBounds q (.int .i64 ((x : Int) - 1)))).heap.size := by simpa using hbw
                generalize wr.setRow g ((rowOf wr g).setIfInBounds q (.int .i64 ((x : Int) - 1))) = w6 at *
                by_cases hx1 : x = 1
                · subst hx1
                  have hz : (((1 : Nat) : Int) - 1) = 0 := by omega
                  rw [hz] at cI3
                  go_wp2_with (at_builtin; refine wpList_append_one rfl (.tmp 61) (.tmp 63) 32 rfl 3 _ 1 8 Tryz.underlying32 ti3 (.slice a6 s.2.length c6) (natRows s.2) w.heap.size rfl (HST6.out.own4.keep ((Fr.refl (fun _ => False) w6).alloc _) (fun _ _ h => h)) (by simp; omega) w6.heap.size 1 rfl #[.int .i64 (q : Nat)] (by simp [go_sem]) (by simp [go_sem]; rfl) (by intro y hy; simp at hy; subst hy; rfl) (natRows_size _) (by rw [natRows_length]; simp only [maxLen]; omega) (fitsN (by rw [natRows_length]; omega) (by omega)) ?_; intro g' cap' w3 ho3 f3 hn3; have HO3 := Lib.hid ho3; have F3 := Lib.hid f3; have N3 := Lib.hid hn3; clear ho3 f3 hn3)
                  go_roundw
                  case rel =>
                    refine ⟨j + 1, _, rfl, by go_num, by have := HLTJ.out; omega, ?_⟩
                    rw [HSN.out]
                    unfold relax
                    rw [HXG.out, if_pos hz]
                    refine HST6.out.push (((Fr.refl (fun _ => False) w6).alloc _).mono (G := fun k => (Value.slice a6 s.2.length c6).ownBlock = some k) (fun _ _ e => e.elim) |>.trans F3.out (fun _ _ e => e)) ?_ (fun k hk => ?_)
                    · rw [natRows_snoc]; exact HO3.out
                    · simp only [Value.ownBlock, Option.some.injEq] at hk; subst hk
                      exact N3.out.elim .inl (fun e => .inr (by simp at e; omega))
                  case measure => (have := HLTJ.out; simp only [intOf]; omega)
                · have hz : ¬ ((x : Int) - 1 = 0) := by omega
                  have hz2 : ((x : Int) - 1 == 0) = false := by rw [beq_eq_false_iff_ne]; exact hz
                  go_wp2_with fail
                  go_roundw
                  case rel =>
                    refine ⟨j + 1, _, rfl, by go_num, by have := HLTJ.out; omega, ?_⟩
                    rw [HSN.out]
                    unfold relax
                    rw [HXG.out, if_neg hz]
                    exact HST6.out
                  case measure => (have := HLTJ.out; simp only [intOf]; omega)
              · obtain rfl : j = l.length := by omega
                rw [List.take_length] at hS
                have HS7 := Lib.hid hS
                clear hS
                go_wp2_with fail
                go_roundw
                case rel => exact ⟨done + 1, _, _, _, rfl, by go_num, HST.out, HS7.out⟩
                case measure => (have := HLT.out; simp only [intOf]; omega)
        · obtain rfl : done = free.length := by omega
          have hall := HKA.out.all HS.out
          rw [HNN.out] at hall
          have hall2 : (free.length : Int) = (ws.length : Int) := by omega
          have HALL := Lib.hid hall2
          have hall3 : ((free.length : Int) == (ws.length : Int)) = true := by rw [hall2]; simp
          clear hKa hS hwW hall hall2
          go_wp2_with fail
          go_ret
          exact ⟨by simp, hwf⟩
end
end Go.Proofs.YteldfmgjbgedaaaGreat
