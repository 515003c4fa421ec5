/-
  Package serial: orders.
-/
import Derived.Test.YteldfmgjbgedaaaGreatTh
import Derived.RangeFuncNested
import Derived.RangeFuncBound
import Derived.RangeFuncCalls
import Derived.RangeFuncLeaves
import Derived.Shelf.Abstract
import Derived.Shelf.RegionOpen
import Derived.OwnWalkIn
import Derived.TacticsInMore
import Derived.LoopNIn
import Derived.LoopIn
namespace Go.Proofs.YteldfmgjbgedaaaGreat
open Go.RowKit Go.Maps

theorem natRows_int (xs : List Nat) : natRows xs = intRows (xs.map Int.ofNat) := by simp [natRows, intRows]

theorem clone85_nat {w : World} {v : Value} {L : List Nat} {base : Nat} (h : OwnRows w v 1 (natRows L) base) (hb : L.length ≤ 1073741824) :
    Calls Tryz.prog 85 #[v] w fun e w' => ∃ v', e = .returned v' ∧ OwnRows w' v' 1 (natRows L) w.heap.size ∧ Fr (fun _ => False) w w' := by
  rw [natRows_int] at h ⊢
  exact clone85_any h (by simpa using hb)

section
variable {W0 : World} {p gn gi : Nat} {tv : Value} {ws : List Nat} {vs : List Value} {N : List (List Nat)} {I : List Int} {base : Nat} {E : Nat → Nat → Prop} {l : Nat} {Post : World → Prop}

set_option maxRecDepth 20000 in
set_option maxHeartbeats 4000000 in
theorem orders52_end {w : World} {v1 v2 : Value} {sofar : List Nat} {b : Nat} (hW : WebAt w p gn gi tv ws vs N I base) (hm : ws.length ≤ 4096) (ho : OwnRows w v2 1 (natRows sofar) b) (hlen : sofar.length = ws.length)
    (hY : ∀ (W : World) (v : Value) (bs : Nat), Fr (fun _ => False) w W → OwnRows W v 1 (natRows sofar) bs → YieldAt Fence.wide 0 Tryz.prog l #[v] W fun e W' => e = .returned (.bool false) ∧ Post W') :
    Calls Tryz.prog 52 #[.pointer (some ⟨p, 0, none⟩), v1, v2, .func (.yield l) #[] #[]] w fun e w' => e = .returned (.bool false) ∧ Post w' := by
  have rp := hW.rp
  obtain ⟨at', ct', hte⟩ := hW.tx.len
  rw [natRows_length] at hte
  rw [hte] at rp
  obtain ⟨a2, c2, h2e⟩ := ho.len
  rw [natRows_length] at h2e
  subst h2e
  have HC := Lib.hid (clone85_nat ho (by omega))
  have HY := Lib.hid hY
  have hlen2 : (sofar.length : Int) = (ws.length : Int) := by omega
  have hlen3 : ((sofar.length : Int) == (ws.length : Int)) = true := by rw [hlen2]; simp
  have HL2 := Lib.hid hlen2
  clear hW hte hY hlen hlen2 ho
  go_enter Tryz.func52, Tryz.ntmps52
  go_upto_region 2 with fail
  rw [← wpIn_wide (n := 1)]
  gi_wp2_with (refine ⟨trivial, ?_⟩; gi_at_call 85; refine (callsIn_wide.2 HC.out).mono ?_; rintro e w2 ⟨v', rfl, ho, hf⟩; obtain ⟨fn, tmps, assign, body, hy, hR⟩ := HY.out w2 v' _ hf ho)
  refine hR.mono ?_
  rintro e W3 ⟨rfl, hP⟩
  gi_wp2
  go_wp2
  go_ret
  exact ⟨rfl, hP⟩

theorem natRows_one (i : Nat) (xs : List Nat) : natRows xs ++ [#[.int .i64 (i : Nat)]] = natRows (xs ++ [i]) := (natRows_snoc xs i).symm

/-- A slice of numbers of the call's own, under way. -/
structure LS (w wr : World) (g n c : Nat) (left : List Int) : Prop where
  fr : Fr (fun _ => False) w wr
  own : OwnRows wr (.slice (some ⟨g, 0, none⟩) n c) 1 (intRows left) w.heap.size
theorem LS.set {w wr : World} {g n c : Nat} {left : List Int} (h : LS w wr g n c left) (i : Nat) (x : Int) : LS w (wr.setRow g ((rowOf wr g).setIfInBounds i (.int .i64 x))) g n c (left.set i x) :=
  ⟨h.fr.trans ((Fr.refl (fun k => k = g) wr).setRow _ _ (fun _ => rfl)) (fun k hk e => by have := (h.own.lt (k := g) rfl).1; omega), intRows_set h.own i x⟩

theorem step_snoc (s : List Int) (l : List Nat) (v : Nat) : (l ++ [v]).foldl (fun s v => s.set v ((s[v]?.getD 0) - 1)) s = (l.foldl (fun s v => s.set v ((s[v]?.getD 0) - 1)) s).set v (((l.foldl (fun s v => s.set v ((s[v]?.getD 0) - 1)) s)[v]?.getD 0) - 1) := by simp

theorem Taking.bound {next : List (List Nat)} {done : List Nat} {into : List Int} (h : Taking next done into) {v : Nat} (hv : v < next.length) : -1 ≤ into[v]?.getD 0 ∧ into[v]?.getD 0 ≤ next.length := by
  rw [h.val v hv]
  have := leads_le next done v
  by_cases e : v ∈ done
  · rw [if_pos e]; simp only [Option.getD_some]; omega
  · rw [if_neg e]; simp only [Option.getD_some]; omega

theorem not_all {n : Nat} {done : List Nat} (h : done.length < n) : ∃ v, v < n ∧ v ∉ done := by
  refine Classical.byContradiction fun hc => ?_
  have := nodup_le (List.range n) done List.nodup_range (fun x hx => Classical.byContradiction fun hx2 => hc ⟨x, List.mem_range.1 hx, hx2⟩)
  rw [List.length_range] at this; omega

set_option maxRecDepth 20000 in
set_option maxHeartbeats 4000000 in
theorem orders52_all (hW0 : WebAt W0 p gn gi tv ws vs N I base) (hK : WebOk E ws N I) (hs : ∀ U : List Nat, U ≠ [] → (∀ u ∈ U, u < N.length) → ∃ t ∈ U, ∀ s ∈ U, ¬ t ∈ N[s]?.getD []) (hm : ws.length ≤ 4096)
    (hY : ∀ (W : World) (v : Value) (xs : List Nat) (bs : Nat), Fr (fun _ => False) W0 W → OwnRows W v 1 (natRows xs) bs → xs.length = ws.length → YieldAt Fence.wide 0 Tryz.prog l #[v] W fun e W' => e = .returned (.bool false) ∧ Post W') :
    ∀ (r : Nat) (w : World) (v1 v2 : Value) (into : List Int) (done sofar : List Nat) (b1 : Nat), Fr (fun _ => False) W0 w → r + done.length = ws.length → sofar.length = done.length → Taking N done into → OwnRows w v1 1 (intRows into) b1 → OwnRows w v2 1 (natRows sofar) W0.heap.size → (0 < r → 0 < ws.length) →
      Calls Tryz.prog 52 #[.pointer (some ⟨p, 0, none⟩), v1, v2, .func (.yield l) #[] #[]] w fun e w' => e = .returned (.bool false) ∧ Post w' := by
  intro r
  induction r with
  | zero =>
    intro w v1 v2 into done sofar b1 hf hr hl hT h1 h2 _
    exact orders52_end (hW0.fr0 hf) hm h2 (by omega) (fun W v bs hfW ho => hY W v sofar bs (hf.trans hfW (fun _ _ e => e)) ho (by omega))
  | succ r ih =>
    intro w v1 v2 into done sofar b1 hf hr hl hT h1 h2 _
    have hW := hW0.fr0 hf
    have rp := hW.rp
    have hnn := hK.n
    have hn0 : 0 < ws.length := by omega
    obtain ⟨at', ct', hte⟩ := hW.tx.len
    rw [natRows_length] at hte
    have HTE := Lib.hid hte
    rw [hte] at rp
    obtain ⟨a2, c2, h2e⟩ := h2.len
    rw [natRows_length] at h2e
    subst h2e
    obtain ⟨a1, c1, h1e⟩ := h1.len
    rw [intRows_length, hT.len, hnn] at h1e
    subst h1e
    have hil : into.length = ws.length := hT.len.trans hnn
    obtain ⟨g1, hg1, -⟩ := h1.get (k := 0) (by rw [intRows_length, hil]; exact hn0)
    subst hg1
    have HCL := Lib.hid (clone85_any h1 (by rw [hil]; omega))
    have HIH := Lib.hid ih
    have HF := Lib.hid hf
    have HW := Lib.hid hW
    have HT := Lib.hid hT
    have HK := Lib.hid hK
    have HS := Lib.hid hs
    have H1 := Lib.hid h1
    have H2 := Lib.hid h2
    have HIL := Lib.hid hil
    have HLS := Lib.hid hl
    have HNN := Lib.hid hnn
    have hlne : ¬ ((sofar.length : Int) = (ws.length : Int)) := by omega
    have hlne2 : ((sofar.length : Int) == (ws.length : Int)) = false := by rw [beq_eq_false_iff_ne]; exact hlne
    have hsl : sofar.length ≤ 4096 := by omega
    have HR := Lib.hid hr
    clear ih hf hW0 hW hT hK hs h1 h2 hte hil hl hY hnn hr
    go_enter Tryz.func52, Tryz.ntmps52
    go_wp2_with fail
    go_loopw [28] (fun t28 wr => ∃ i : Nat, t28 = .int .i64 (i : Nat) ∧ i ≤ ws.length ∧ (∀ j, j < i → into[j]? ≠ some 0) ∧ wr = w) (fun t28 _ => ws.length - (intOf t28).toNat)
    case atStart => exact ⟨0, rfl, Nat.zero_le _, fun j hj => (by omega), rfl⟩
    case round =>
      obtain ⟨i, rfl, hi, hz, rfl⟩ := hrel
      have HZ := Lib.hid hz
      by_cases hlt : i < ws.length
      · have HLT := Lib.hid hlt
        have hlti : i < into.length := by rw [HIL.out]; exact hlt
        have c0 := (intRows_get H1.out hlti).1
        have HX := Lib.hid (List.getElem?_eq_getElem hlti)
        have hii : (i : Int) < (ws.length : Int) := by omega
        generalize into[i] = x at c0 HX
        clear hz hlti
        by_cases hx0 : x = 0
        · subst hx0
          have HWr := HW.out
          obtain ⟨v, li, hv, hl⟩ := HWr.get hlt
          have hov := HWr.own i v li hv hl
          obtain ⟨al, cl, hve⟩ := hov.len
          rw [natRows_length] at hve
          have hgl : N[i]?.getD [] = li := by rw [hl]; rfl
          have hlm : li ∈ N := List.mem_of_getElem? hl
          have HLR := Lib.hid (HK.out.row li hlm)
          have HTS := Lib.hid (HT.out.step HK.out.row (i := i) (by rw [HNN.out]; exact hlt) HX.out)
          rw [hgl] at HTS
          have hbw : W0.heap.size ≤ wr.heap.size := HF.out.size
          have HVE := Lib.hid hve
          have HVL := Lib.hid (And.intro hv hl)
          have hlil : li.length ≤ 4096 := by
            have := nodup_le li (List.range ws.length) HLR.out.1 (fun x hx => List.mem_range.2 (by rw [← HNN.out]; exact HLR.out.2 x hx))
            rw [List.length_range] at this; omega
          clear HWr hv hl hov hve hgl hlm
          go_upto_region 9 with (go_at_call 85; refine HCL.out.mono ?_; rintro e w2 ⟨v', rfl, ho, hf2⟩; obtain ⟨a3, c3, rfl⟩ := ho.len; rw [intRows_length, HIL.out] at ho ⊢; obtain ⟨g, rfl, hgb, hlg, -, -, -, -⟩ := ho.get (k := i) (by rw [intRows_length, HIL.out]; exact HLT.out); have c2' := (intRows_get ho (i := i) (by rw [HIL.out]; exact HLT.out)).1; have HL2 := Lib.hid (LS.set ⟨hf2, ho⟩ i (-1)); have hlg2 := live_lt hlg; clear ho hf2)
          generalize w2.setRow g ((rowOf w2 g).setIfInBounds i (.int .i64 (-1))) = w3 at *
          have hW3 := HW.out.fr0 HL2.out.fr
          have rp3 := hW3.rp
          rw [HTE.out] at rp3
          obtain ⟨v, hv⟩ : ∃ v, v = Value.slice al li.length cl := ⟨_, rfl⟩
          have cN : (rowOf w3 gn)[i]? = some (.slice al li.length cl) := by rw [hW3.rn, List.getElem?_toArray, HVL.out.1, HVE.out]
          have HW3 := Lib.hid hW3
          have hbw3 : wr.heap.size ≤ w3.heap.size := HL2.out.fr.size
          clear hW3 hv c2' hlg hlg2 hgb c0
          go_wp2_with fail
          go_loopw [48] (fun t48 wq => ∃ j : Nat, t48 = .int .i64 (j : Nat) ∧ j ≤ li.length ∧ LS wr wq g ws.length c3 ((li.take j).foldl (fun s v => s.set v ((s[v]?.getD 0) - 1)) (into.set i (-1)))) (fun t48 _ => li.length - (intOf t48).toNat)
          case atStart => exact ⟨0, rfl, Nat.zero_le _, HL2.out⟩
          case round =>
            obtain ⟨j, rfl, hj, hS⟩ := hrel
            have HSJ := Lib.hid hS
            have hWq := HW.out.fr0 hS.fr
            have rpq := hWq.rp
            rw [HTE.out] at rpq
            by_cases hltj : j < li.length
            · have hoj := hWq.own _ _ li HVL.out.1 HVL.out.2
              rw [HVE.out] at hoj
              obtain ⟨gl, hgl', -⟩ := hoj.get (k := j) (by rw [natRows_length]; exact hltj)
              subst hgl'
              have cL := (natRows_get hoj hltj).1
              have hltn : li[j] < N.length := HLR.out.2 _ (List.getElem_mem hltj)
              have hnt : li[j] ∉ li.take j := fun hm => by
                obtain ⟨i', hi', e⟩ := List.getElem_of_mem hm
                rw [List.length_take] at hi'
                rw [List.getElem_take] at e
                have := (List.getElem_inj (i := i') (j := j) (h₀ := by omega) (h₁ := hltj) HLR.out.1).1 e
                omega
              have HTK := Lib.hid (List.take_succ_eq_append_getElem hltj)
              generalize li[j] = q at *
              obtain ⟨sp1, sp2⟩ := take1_get (li.take j) (into.set i (-1)) (HLR.out.1.sublist (List.take_sublist _ _))
              have HSN := Lib.hid (step_snoc (into.set i (-1)) (li.take j) q)
              rw [← HTK.out] at HSN
              rw [HNN.out] at hltn
              have hx := sp2 q (by rw [List.length_set, HIL.out]; exact hltn)
              rw [if_neg hnt, Int.sub_zero] at hx
              have hbd := HT.out.bound (v := q) (by rw [HNN.out]; exact hltn)
              rw [HNN.out] at hbd
              have hxb : -1 ≤ (into.set i (-1))[q]?.getD 0 ∧ (into.set i (-1))[q]?.getD 0 ≤ ws.length := by
                by_cases e : q = i
                · subst e; rw [List.getElem?_set_self (by rw [HIL.out]; exact hltn)]; simp only [Option.getD_some]; omega
                · rw [List.getElem?_set_ne (fun h => e h.symm)]; exact hbd
              generalize (into.set i (-1))[q]?.getD 0 = x at *
              generalize (li.take j).foldl (fun s v => s.set v ((s[v]?.getD 0) - 1)) (into.set i (-1)) = s at *
              have hlt2 : q < s.length := by rw [sp1, List.length_set, HIL.out]; exact hltn
              have hx2 : s[q] = x := by rw [List.getElem?_eq_getElem hlt2] at hx; exact Option.some.inj hx
              obtain ⟨cI, lgI, -⟩ := intRows_get hS.own hlt2
              rw [hx2] at cI
              have HXG := Lib.hid (by rw [hx]; rfl : s[q]?.getD 0 = x)
              have hji : (j : Int) < (li.length : Int) := by omega
              have HLTJ := Lib.hid hltj
              have hqi : (q : Int) < (ws.length : Int) := by omega
              have hw1 : IntKind.i64.wrap (x - 1) = x - 1 := by rw [IntKind.wrap_i64]; omega
              have HSS := Lib.hid (hS.set q (x - 1))
              clear hoj hnt sp1 sp2 hx hx2 hS hlt2 hWq hbd
              go_wp2_with fail
              go_roundw
              case rel => exact ⟨j + 1, by go_num, by have := HLTJ.out; omega, by rw [HSN.out, HXG.out]; exact HSS.out⟩
              case measure => (have := HLTJ.out; simp only [intOf]; omega)
            · obtain rfl : j = li.length := by omega
              rw [List.take_length] at hS
              have HS7 := Lib.hid hS
              have hoT := hWq.tx
              rw [HTE.out] at hoT
              obtain ⟨gt, hgt, -⟩ := hoT.get (k := i) (by rw [natRows_length]; exact HLT.out)
              subst hgt
              have cT := (natRows_get hoT (i := i) HLT.out).1
              have hbq : W0.heap.size ≤ wr.heap.size := Nat.le_trans hbw HS7.out.fr.size
              clear hS hWq hoT
              have HLD : Hid ((i :: done).length = done.length + 1) := Lib.hid rfl
              go_wp2_with (first
                | (at_builtin; refine wpList_append_one rfl (.tmp 61) (.tmp 69) 32 rfl 3 _ 1 8 Tryz.underlying32 ti3 (.slice a2 sofar.length c2) (natRows sofar) W0.heap.size rfl ((H2.out.keep HS7.out.fr (fun _ _ e => e)).keep ((Fr.refl (fun _ => False) wr).alloc _) (fun _ _ h => h)) (by simp; omega) wr.heap.size 1 rfl #[.int .i64 (ws[i]'HLT.out : Nat)] (by simp [go_sem]) (by simp [go_sem]; rfl) (by intro y hy; simp at hy; subst hy; rfl) (natRows_size _) (by rw [natRows_length]; simp only [maxLen]; omega) (fitsN (by rw [natRows_length]; omega) (by omega)) ?_; intro g' cap' w5 ho5 f5 hn5; rw [natRows_length] at ho5 ⊢; have HREC := Lib.hid (HIH.out w5 (.slice (some ⟨g, 0, none⟩) ws.length c3) (.slice (some ⟨g', 0, none⟩) (sofar.length + 1) cap') (take1 into i li) (i :: done) (sofar ++ [ws[i]'HLT.out]) _ (((HF.out.trans HS7.out.fr (fun _ _ e => e)).alloc _).trans f5 (fun k hk e => by have := (H2.out.lt e).1; omega)) (by rw [HLD.out]; have := HR.out; omega) (by rw [HLD.out, List.length_append]; have := HLS.out; simp; omega) HTS.out ((HS7.out.own.keep ((Fr.refl (fun _ => False) wr).alloc _) (fun _ _ e => e)).keep f5 (fun k hk e => by have h1 := (H2.out.lt e).2; have h2 := (HS7.out.own.lt hk).1; omega)) (by rw [natRows_snoc]; exact ho5) (fun _ => by omega)); clear ho5 f5 hn5)
                | (go_at_call 52; refine HREC.out.mono ?_; rintro e w6 ⟨rfl, hP⟩))
              go_ret
              exact ⟨rfl, hP⟩
        · have hx1 : (x == 0) = false := by rw [beq_eq_false_iff_ne]; exact hx0
          go_wp2_with fail
          go_roundw
          case rel =>
            refine ⟨i + 1, by go_num, by have := HLT.out; omega, fun j hj => ?_, trivial⟩
            by_cases e : j = i
            · subst e; rw [HX.out]; intro h; exact hx0 (Option.some.inj h)
            · exact HZ.out j (by omega)
          case measure => (have := HLT.out; simp only [intOf]; omega)
      · exfalso
        obtain rfl : i = ws.length := by omega
        obtain ⟨j, hj, hj0, -⟩ := HT.out.some HS.out (not_all (by rw [HNN.out]; have := HR.out; omega))
        exact HZ.out j (by rw [← HNN.out]; exact hj) hj0
end
end Go.Proofs.YteldfmgjbgedaaaGreat
