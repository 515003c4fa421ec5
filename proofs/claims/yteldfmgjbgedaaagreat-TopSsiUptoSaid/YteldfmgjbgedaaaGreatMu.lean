/-
  Package siread: coarsest.
-/
import Derived.Test.YteldfmgjbgedaaaGreatMst
namespace Go.Proofs.YteldfmgjbgedaaaGreat
open Go.RowKit Go.Maps

def plC (t : Nat) : Array Value := #[.int .i64 (t : Nat), .string ⟨#[116]⟩]
def plRows (ts : List Nat) : List (Array Value) := ts.map plC
theorem plRows_length (ts : List Nat) : (plRows ts).length = ts.length := by simp [plRows]

/-- What slices.SortedFunc does to the keys of the notes' map. -/
def Sorted124 : Prop := ∀ (w : World) (cls : Nat → Nat) (b2 bn n B : Nat) (f : Value → Option Value) (N : Nat → Option (List RdT)), NotesAt w cls bn n B f N → n < 2 ^ 41 → rowOf w b2 = #[.map (some bn)] → live w b2 = true →
  Calls Tryz.prog 124 #[.func (.func 169) #[] #[.pointer (some ⟨b2, 0, none⟩)], .func (.func 126) #[] #[]] w fun e w' => ∃ v ts, e = .returned v ∧ OwnRows w' v 2 (plRows ts) w.heap.size ∧ (∀ t ∈ ts, N t ≠ none) ∧ Fr (fun _ => False) w w'

set_option maxRecDepth 20000 in
set_option maxHeartbeats 2000000 in
theorem keys125 (w : World) (b : Nat) : Calls Tryz.prog 125 #[.map (some b)] w fun e w' => e = .returned (.func (.func 169) #[] #[.pointer (some ⟨w.heap.size, 0, none⟩)]) ∧ rowOf w' w.heap.size = #[.map (some b)] ∧ live w' w.heap.size = true ∧ Fr (fun _ => False) w w' := by
  go_enter Tryz.func125, Tryz.ntmps125
  go_wp2
  go_ret
  exact ⟨rfl, by simp [go_sem], by simp [go_sem], (Fr.refl _ w).alloc _⟩

/-- The best place so far. -/
def bestP (N : Nat → Option (List RdT)) (m : Nat) (r : Array Value) : Prop := (m = 1 ∧ r = #[.int .i64 0, .string ⟨#[]⟩]) ∨ ∃ t L, N t = some L ∧ m = L.length ∧ 1 < m ∧ r = plC t

set_option maxRecDepth 20000 in
set_option maxHeartbeats 4000000 in
theorem coarsest95 (H124 : Sorted124) (w : World) {cls : Nat → Nat} {bn n B : Nat} {f : Value → Option Value} {N : Nat → Option (List RdT)} (hN : NotesAt w cls bn n B f N) (hn : n < 2 ^ 41) :
    Calls Tryz.prog 95 #[.map (some bn)] w fun e w' => (e = .returned (.tuple #[.agg #[.int .i64 0, .string ⟨#[]⟩], .bool false]) ∨ ∃ t L, N t = some L ∧ 1 < L.length ∧ e = .returned (.tuple #[plKey t, .bool true])) ∧ Fr (fun _ => False) w w' := by
  have HN := Lib.hid hN
  have hlb := hN.map.lt
  have FA : Fr (fun _ => False) w ((w.alloc (.cells #[.int .i64 0, .string ⟨#[]⟩] 138)).alloc (.cells #[.int .i64 0, .string ⟨#[]⟩] 138)) := ((Fr.refl _ w).alloc _).alloc _
  have HFA := Lib.hid FA
  have HK := Lib.hid (keys125 ((w.alloc (.cells #[.int .i64 0, .string ⟨#[]⟩] 138)).alloc (.cells #[.int .i64 0, .string ⟨#[]⟩] 138)) bn)
  have eS : ((w.alloc (.cells #[.int .i64 0, .string ⟨#[]⟩] 138)).alloc (.cells #[.int .i64 0, .string ⟨#[]⟩] 138)).heap.size = w.heap.size + 1 + 1 := by simp
  rw [eS] at HK
  clear hN FA eS
  go_enter Tryz.func95, Tryz.ntmps95
  go_wp2_with (first
    | (go_at_call 125; refine HK.out.mono ?_; rintro e w1 ⟨rfl, h1, h2, h3⟩; have F1 := HFA.out.trans h3 (fun _ _ h => h); have r4 := (h3.row (g := w.heap.size + 1) (by simp; try omega) (fun e => e)).trans (by simp [go_sem] : _ = #[.int .i64 0, .string ⟨#[]⟩]); have l4 := (h3.liv (g := w.heap.size + 1) (by simp; try omega) (fun e => e)).trans (by simp [go_sem] : _ = true); have l2 := (h3.liv (g := w.heap.size) (by simp; try omega) (fun e => e)).trans (by simp [go_sem] : _ = true); have r2 := (h3.row (g := w.heap.size) (by simp; try omega) (fun e => e)).trans (by simp [go_sem] : _ = #[.int .i64 0, .string ⟨#[]⟩]); have HS := Lib.hid (H124 w1 cls _ bn n B f N (HN.out.fr F1 (fun e => e) (fun _ _ h => ⟨fun e => e, h⟩)) hn h1 h2); have HF1 := Lib.hid F1; have HW1 := Lib.hid (show w.heap.size + 2 ≤ w1.heap.size by have := h3.size; simp only [World.size_alloc] at this; omega); clear h1 h2 h3 F1)
    | (go_at_call 124; refine HS.out.mono ?_; rintro e w2 ⟨v, ts, rfl, ho, hts, hf2⟩; obtain ⟨a, c, rfl⟩ := ho.len; have hmx := ho.max; rw [plRows_length] at ho hmx ⊢; have HNB := Lib.hid (fun k (hk : (Value.slice a ts.length c).ownBlock = some k) => (ho.lt hk).1); have HO := Lib.hid ho; have HTS := Lib.hid hts; have R4 := Lib.hid ((hf2.row (live_lt l4) (fun e => e)).trans r4); have L4 := Lib.hid ((hf2.liv (live_lt l4) (fun e => e)).trans l4); have L2 := Lib.hid ((hf2.liv (live_lt l2) (fun e => e)).trans l2); have R2 := Lib.hid ((hf2.row (live_lt l2) (fun e => e)).trans r2); have LV1 := Lib.hid l4; have HF2 := Lib.hid (HF1.out.trans hf2 (fun _ _ h => h)); clear ho hts hf2 r4 l4 l2 r2))
  go_loopw [5, 12] (fun t5 t12 wr => ∃ (m k : Nat), t5 = .int .i64 (m : Nat) ∧ t12 = .int .i64 (k : Nat) ∧ k ≤ ts.length ∧ 1 ≤ m ∧ bestP N m (rowOf wr (w.heap.size + 1)) ∧ live wr (w.heap.size + 1) = true ∧ live wr w.heap.size = true ∧ rowOf wr w.heap.size = #[.int .i64 0, .string ⟨#[]⟩] ∧ OwnRows wr (.slice a ts.length c) 2 (plRows ts) w1.heap.size ∧ (∀ k, (Value.slice a ts.length c).ownBlock = some k → k ≠ w.heap.size + 1) ∧ Fr (fun _ => False) w wr) (fun _ t12 _ => ts.length - (intOf t12).toNat)
  case atStart => exact ⟨1, 0, rfl, rfl, Nat.zero_le _, Nat.le_refl _, .inl ⟨rfl, R4.out⟩, L4.out, L2.out, R2.out, HO.out, fun k hk e => by have := HNB.out k hk; have := HW1.out; omega, HF2.out⟩
  case round =>
    obtain ⟨m, k, rfl, rfl, hk, hm1, hb, hl4, hl2, hr2, hO, hne, hf⟩ := hrel
    have HB := Lib.hid hb
    have HF := Lib.hid hf
    have HNE := Lib.hid hne
    have h4 := live_lt hl4
    have h2 := live_lt hl2
    by_cases hlt : k < ts.length
    · obtain ⟨g, rfl, hbg, hlg, -, hxc, hsz, hget⟩ := hO.get (k := k) (by rw [plRows_length]; exact hlt)
      have hxk : (plRows ts)[k]'(by rw [plRows_length]; exact hlt) = plC ts[k] := by simp [plRows]
      have c0 := hget 0 (by omega)
      have c1 := hget 1 (by omega)
      rw [hxk] at c0 c1
      have hmem := List.getElem_mem hlt
      generalize hq : ts[k] = t at c0 c1 hmem
      replace c0 : (rowOf wr g)[k * 2]? = some (.int .i64 (t : Nat)) := c0
      replace c1 : (rowOf wr g)[k * 2 + 1]? = some (.string ⟨#[116]⟩) := c1
      obtain ⟨L, hNt⟩ := Option.ne_none_iff_exists'.1 (HTS.out t hmem)
      have FB : Fr (fun _ => False) wr ((wr.alloc (.cells #[.int .i64 0, .string ⟨#[]⟩] 138)).setRow wr.heap.size #[.int .i64 (t : Nat), .string ⟨#[116]⟩]) := ((Fr.refl (fun _ => False) wr).alloc _).setNew (Nat.le_refl _) _
      have hNr := HN.out.fr (hf.trans FB (fun _ _ h => h)) (fun e => e) (fun _ _ h => ⟨fun e => e, h⟩)
      obtain ⟨htB, ht40, v, hfv, hov, -⟩ := hNr.at_ t L hNt
      obtain ⟨va, vc, rfl⟩ := hov.len
      rw [rdRows_length] at hfv hov
      have hmxL := hov.max
      rw [rdRows_length] at hmxL
      obtain ⟨kl, hkl⟩ := plKey_key ht40
      have hlook := hNr.map.look1 law138 Tryz.underlying89 (Tryz.zeroValue117 _) (plKey t) hkl
      rw [hfv] at hlook
      have hlook2 := (hNr.map.fr ((Fr.refl (fun _ => False) _).drew) (fun e => e)).look1 law138 Tryz.underlying89 (Tryz.zeroValue117 _) (plKey t) hkl
      rw [hfv] at hlook2
      have hlook3 := (hNr.map.fr (((Fr.refl (fun k => k = w.heap.size + 1) _).setRow (w.heap.size + 1) #[.int .i64 (t : Nat), .string ⟨#[116]⟩] (fun _ => rfl)).drew) (by omega)).look1 law138 Tryz.underlying89 (Tryz.zeroValue117 _) (plKey t) hkl
      rw [hfv] at hlook3
      unfold plKey at hlook hlook2 hlook3
      simp only [Option.getD_some] at hlook hlook2 hlook3
      have hki : (k : Int) < (ts.length : Int) := by omega
      have HLT := Lib.hid hlt
      have HNT := Lib.hid hNt
      have HFB := Lib.hid FB
      have HO' := Lib.hid hO
      have HR2 := Lib.hid hr2
      have HL4 := Lib.hid hl4
      have HL2 := Lib.hid hl2
      obtain ⟨x0, x1, hr4⟩ : ∃ x0 x1, rowOf wr (w.heap.size + 1) = #[x0, x1] := by
        rcases hb with ⟨_, h⟩ | ⟨t', L', _, _, _, h⟩
        · exact ⟨_, _, h⟩
        · exact ⟨_, _, h⟩
      have hne4 : w.heap.size + 1 ≠ wr.heap.size := by omega
      clear hget hxk hmem hq hNr hfv hov hkl FB hNt hf hO hne hb hr2 hl2
      by_cases hgt : m < L.length
      · have hgti : ((m : Int) < (L.length : Int)) := by omega
        go_wp2_with fail
        go_region
        all_goals
          go_wp2
          have FC := ((HFB.out.mono (G := fun k => k = w.heap.size + 1) (fun _ _ h => h.elim)).setRow (w.heap.size + 1) #[.int .i64 (t : Nat), .string ⟨#[116]⟩] (fun _ => rfl)).drew
          go_roundw
          case rel =>
            refine ⟨L.length, k + 1, rfl, by go_num, by have := HLT.out; omega, by omega, ?_, ?_, ?_, ?_, ?_, HNE.out, HF.out.trans FC (fun _ hk h => by omega)⟩
            · rw [rowOf_drew, rowOf_setRow_same _ _ _ (by rw [HFB.out.liv h4 (fun e => e)]; exact HL4.out)]
              exact .inr ⟨t, L, HNT.out, rfl, by omega, rfl⟩
            · rw [live_drew, live_setRow, HFB.out.liv h4 (fun e => e)]; exact HL4.out
            · rw [FC.liv h2 (by omega)]; exact HL2.out
            · rw [FC.row h2 (by omega)]; exact HR2.out
            · exact HO'.out.keep FC (fun k hk e => HNE.out k hk e)
          case measure => (have := HLT.out; simp only [intOf]; omega)
      · have hgti : ¬ ((m : Int) < (L.length : Int)) := by omega
        go_wp2
        go_roundw
        case rel =>
          refine ⟨m, k + 1, rfl, by go_num, by have := HLT.out; omega, hm1, ?_, ?_, ?_, ?_, ?_, HNE.out, HF.out.trans HFB.out (fun _ _ h => h)⟩
          · rw [HFB.out.row h4 (fun e => e)]; exact HB.out
          · rw [HFB.out.liv h4 (fun e => e)]; exact HL4.out
          · rw [HFB.out.liv h2 (fun e => e)]; exact HL2.out
          · rw [HFB.out.row h2 (fun e => e)]; exact HR2.out
          · exact HO'.out.keep HFB.out (fun _ _ e => e)
        case measure => (have := HLT.out; simp only [intOf]; omega)
    · obtain rfl : k = ts.length := by omega
      rcases hb with ⟨rfl, hr⟩ | ⟨t, L, hNt, rfl, h1, hr⟩
      · clear hf hO hne
        go_wp2
        refine bodyPost_ret (by simp [results, Tryz.results95, go_sem, rowOf_setRow_same _ _ _ hl2]; try rfl) rfl ?_
        exact ⟨.inl rfl, HF.out.trans ((Fr.refl (fun k => k = w.heap.size) wr).setRow _ _ (fun _ => rfl)) (fun _ hk h => by omega)⟩
      · have hgt : (1 : Int) < (L.length : Int) := by omega
        unfold plC at hr
        clear hf hO hne
        go_wp2
        refine bodyPost_ret (by simp [results, Tryz.results95, go_sem, rowOf_setRow_same _ _ _ hl2]; try rfl) rfl ?_
        exact ⟨.inr ⟨t, L, hNt, h1, rfl⟩, HF.out.trans ((Fr.refl (fun k => k = w.heap.size) wr).setRow _ _ (fun _ => rfl)) (fun _ hk h => by omega)⟩
end Go.Proofs.YteldfmgjbgedaaaGreat
